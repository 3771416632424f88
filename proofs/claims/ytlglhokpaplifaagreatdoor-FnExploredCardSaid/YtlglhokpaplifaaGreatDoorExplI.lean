/- Exploration: the program. Conditions: none. -/
import Derived.Test.YtlglhokpaplifaaGreatDoorExplV
namespace Go.Proofs.YtlglhokpaplifaaGreatDoor
open Ev
set_option linter.unusedVariables false
set_option linter.unusedSimpArgs false
set_option maxHeartbeats 4000000

theorem indexFuncN_c {v : AV} {g : Nat} {caps : List AV} {p : Int → Bool} (hv : IsI v) (hx : env.ext g = none) (ho : env.open_ g = false) (hdp : env.deep g = false) (hl : ∀ h, lows h caps = caps) (hp : ∀ i, i < (xsOf v).length → EvC env g (.int .i64 (nth (xsOf v) i) :: caps) (.bool (p (nth (xsOf v) i)))) : EvC env 41 [v, .fn g caps] (.int .i64 (idxI p (xsOf v))) := by
  refine evC_of (F := Tryz.f41) rfl rfl (Nat.le_of_ble_eq_true rfl) ?_
  have := hv.len
  have hp2 : ∀ (i : Nat), i < (xsOf v).length → ∀ (K : AV → Prop) (tg : Tg K), CW env g (.int .i64 (nth (xsOf v) i) :: caps) K tg ↔ K (.bool (p (nth (xsOf v) i))) := fun i hi K tg => callsTo_iff (hp i hi)
  clear hp
  repeat' (first | (apply brI <;> intro hb hb2 <;> (try simp [-Int.not_le, -Int.not_lt, -Nat.not_le, -Nat.not_lt, -Nat.add_left_cancel_iff] at hb2)) | (refine draw_listA (by rfl) (by kernel_rfl) ?_) | (refine draw_listB (by simp [allocsOf, isAlloc]; rfl) (by kernel_rfl) ?_) | simp (maxSteps := 2000000) (disch := first | omega | assumption | simp [*]) [*, -Int.not_le, -Int.not_lt, -Nat.not_le, -Nat.not_lt, -Nat.add_left_cancel_iff, wrap_i64, wrap_u64, Tryz.f41, isI_len hv])
  refine W_loopG (xsOf v).length (fun i s h => h = hnil ∧ s 8 = .int .i64 i ∧ s 7 = .int .i64 (xsOf v).length ∧ s 0 = v ∧ s 1 = .fn g caps ∧ ∀ j, j < i → p (nth (xsOf v) j) = false) ?_ ?_
  · simp
  rintro i s h hi ⟨rfl, h8, h7, h0, h1, hj⟩
  by_cases hi2 : i < (xsOf v).length
  · have hp3 := hp2 i hi2
    by_cases hpi : p (nth (xsOf v) i) = true
    · rw [idxI_some hi2 hpi hj]
      clear hp2 hj
      repeat' (first | (apply brI <;> intro hb hb2 <;> (try simp [-Int.not_le, -Int.not_lt, -Nat.not_le, -Nat.not_lt, -Nat.add_left_cancel_iff] at hb2)) | (refine draw_listA (by rfl) (by kernel_rfl) ?_) | (refine draw_listB (by simp [allocsOf, isAlloc]; rfl) (by kernel_rfl) ?_) | simp (maxSteps := 2000000) (disch := first | omega | assumption | simp [*]) [*, -Int.not_le, -Int.not_lt, -Nat.not_le, -Nat.not_lt, -Nat.add_left_cancel_iff, wrap_i64, wrap_u64, h8, h7, h0, h1, isI_len hv, isI_index hv, isI_load hv])
    · have hpf : p (nth (xsOf v) i) = false := by simpa using hpi
      have hj2 : ∀ j, j < i + 1 → p (nth (xsOf v) j) = false := fun j hj9 => by
        by_cases e : j = i
        · subst e; exact hpf
        · exact hj j (by omega)
      clear hp2 hj hpi
      repeat' (first | (apply brI <;> intro hb hb2 <;> (try simp [-Int.not_le, -Int.not_lt, -Nat.not_le, -Nat.not_lt, -Nat.add_left_cancel_iff] at hb2)) | (refine draw_listA (by rfl) (by kernel_rfl) ?_) | (refine draw_listB (by simp [allocsOf, isAlloc]; rfl) (by kernel_rfl) ?_) | simp (maxSteps := 2000000) (disch := first | omega | assumption | simp [*]) [*, -Int.not_le, -Int.not_lt, -Nat.not_le, -Nat.not_lt, -Nat.add_left_cancel_iff, wrap_i64, wrap_u64, h8, h7, h0, h1, isI_len hv, isI_index hv, isI_load hv])
      all_goals first | exact hj2 | skip
  · obtain rfl : i = (xsOf v).length := by omega
    rw [idxI_none hj]
    clear hp2 hj
    repeat' (first | (apply brI <;> intro hb hb2 <;> (try simp [-Int.not_le, -Int.not_lt, -Nat.not_le, -Nat.not_lt, -Nat.add_left_cancel_iff] at hb2)) | (refine draw_listA (by rfl) (by kernel_rfl) ?_) | (refine draw_listB (by simp [allocsOf, isAlloc]; rfl) (by kernel_rfl) ?_) | simp (maxSteps := 2000000) (disch := first | omega | assumption | simp [*]) [*, -Int.not_le, -Int.not_lt, -Nat.not_le, -Nat.not_lt, -Nat.add_left_cancel_iff, wrap_i64, wrap_u64, h8, h7, h0, h1, isI_len hv])
theorem indexFuncN_s {v : AV} {g : Nat} {caps : List AV} {p : Int → Bool} (hv : IsI v) (hx : env.ext g = none) (ho : env.open_ g = false) (hdp : env.deep g = false) (hl : ∀ h, lows h caps = caps) (hp : ∀ i, i < (xsOf v).length → EvC env g (.int .i64 (nth (xsOf v) i) :: caps) (.bool (p (nth (xsOf v) i)))) {K : AV → Prop} {tg : Tg K} : CW env 41 [v, .fn g caps] K tg ↔ K (.int .i64 (idxI p (xsOf v))) := callsTo_iff (indexFuncN_c hv hx ho hdp hl hp)
attribute [simp] indexFuncN_s
theorem sub_diff {a : Nat} {x : Int} : decide (diff a x.toNat = 0) = PSub (a : Int) x := by
  rw [Bool.eq_iff_iff, decide_eq_true_iff, diff_iff]
  simp [PSub]
theorem explore1_c {a b : Nat} {x : Int} (ha : a < 64) (hb : b < 64) (h0 : 0 ≤ x) (h1 : x < 256) : EvC env 42 [.int .i64 x, .cp true [.int .i64 a] 0, .cp true [.int .i64 b] 0] (.bool (PSub (a : Int) x && !PSub (b : Int) x)) := by
  refine evC_of (F := Tryz.f42) rfl rfl (Nat.le_of_ble_eq_true rfl) ?_
  have s1 := sub_diff (a := a) (x := x)
  have s2 := sub_diff (a := b) (x := x)
  repeat' (first | (apply brI <;> intro hb hb2 <;> (try simp [-Int.not_le, -Int.not_lt, -Nat.not_le, -Nat.not_lt, -Nat.add_left_cancel_iff] at hb2)) | (refine draw_listA (by rfl) (by kernel_rfl) ?_) | (refine draw_listB (by simp [allocsOf, isAlloc]; rfl) (by kernel_rfl) ?_) | simp (maxSteps := 2000000) (disch := first | omega | assumption | simp [*]) [*, -Int.not_le, -Int.not_lt, -Nat.not_le, -Nat.not_lt, -Nat.add_left_cancel_iff, wrap_i64, wrap_u64, Tryz.f42])
theorem explore1_s {a b : Nat} {x : Int} (ha : a < 64) (hb : b < 64) (h0 : 0 ≤ x) (h1 : x < 256) {K : AV → Prop} {tg : Tg K} : CW env 42 [.int .i64 x, .cp true [.int .i64 a] 0, .cp true [.int .i64 b] 0] K tg ↔ K (.bool (PSub (a : Int) x && !PSub (b : Int) x)) := callsTo_iff (explore1_c ha hb h0 h1)
attribute [simp] explore1_s
theorem hold_ctr {E : List Int} {N a b : Nat} (hc : PCtx N E) (ha : a < 2 ^ N) (hb : b < 2 ^ N) : HoldC (N : Int) E a b ↔ ctrE E a b < 0 := by
  have hN : N ≤ 6 := by have := hc.2.1; omega
  rw [hold_clo hc ha hb]
  unfold HoldC
  rw [Int.toNat_natCast, ← cloN_cast, psub_nat]
  exact ⟨fun h => h.2.2.2, fun h => ⟨hc, pset_nat (by omega) ha, pset_nat (by omega) hb, h⟩⟩
def kxI (ks : List Int) : Nat := if ks = [] then 113 else 44
theorem kxI_or (ks : List Int) : kxI ks = 113 ∨ kxI ks = 44 := by unfold kxI; split <;> simp
noncomputable def exR (n : Int) (E ks : List Int) : AV := .agg [bufLR 42 120 0 4 (qAV (exS n E ks).q), bufLR 40 86 0 2 (rAV (exS n E ks).r), .int .i64 (exN n E ks), bufR 3 (kxI ks) 0 (rowsE E (exS n E ks).ks)]
theorem exR_no {n : Int} {E ks : List Int} (h : ¬ KnoC n E ks) : exR n E ks = .agg [.sl 0 .lit [], .sl 0 .lit [], .int .i64 0, .sl 0 .lit []] := by
  unfold exR exS exN; rw [if_neg h, if_neg h]; simp [qAV, rAV, rowsE, bufLR]
theorem xst_ks (E : List Int) (N : Nat) (s : XS) : s.ks.length ≤ (xst E N s).ks.length := by
  unfold xst
  split
  · exact Nat.le_refl _
  · split
    · exact Nat.le_refl _
    · simp
theorem xat_ks (E : List Int) (N : Nat) (s : XS) : ∀ i, s.ks.length ≤ (xat E N s i).ks.length
  | 0 => Nat.le_refl _
  | i + 1 => Nat.le_trans (xat_ks E N s i) (xst_ks E N _)
def GoodK (n : Int) (E ks : List Int) (i : Nat) : Prop := PCtx n E ∧ (0 ≤ nth ks i ∧ nth ks i < E.length) ∧ inX (ks.take i) (nth ks i) = false
theorem xhs_keep {k1 k2 k3 k4 k5 : Nat} {h h' : Heap} {n : Int} {v : AV} {E : List Int} {A A' : XS} (hX : XHs k1 k2 k3 k4 k5 h n v E A) (hk : 12 ≤ k1 ∧ 12 ≤ k2 ∧ 12 ≤ k3 ∧ 12 ≤ k4 ∧ 12 ≤ k5) (hh : ∀ x, x ≠ 9 → x ≠ 10 → x ≠ 11 → h' x = h x)
    (hq : A'.q = A.q) (hr : A'.r = A.r) (hs : A'.ks = A.ks) : XHs k1 k2 k3 k4 k5 h' n v E A' := by
  obtain ⟨qv, rv, xv, kq, kx, hkq, hkx, e2, e4, e6, hQ, hR, hX⟩ := hX
  refine ⟨qv, rv, xv, kq, kx, hkq, hkx, (hh _ (by decide) (by decide) (by decide)).trans e2, (hh _ (by decide) (by decide) (by decide)).trans e4, (hh _ (by decide) (by decide) (by decide)).trans e6, ?_, ?_, ?_⟩
  · rw [hq]; exact hQ.keep (hh _ (by omega) (by omega) (by omega))
  · rw [hr]; exact hR.keep (hh _ (by omega) (by omega) (by omega))
  · rw [hs]; exact hX.keep (hh _ (by omega) (by omega) (by omega))
theorem iExplore_c {n : Int} {v k : AV} (hv : IsI v) (hk : IsI k) (hl : (xsOf v).length ≤ 1048576) (hl2 : (xsOf k).length ≤ 1048576) : EvC env 7 [.agg [.int .i64 n, v], k] (.tup [exR n (xsOf v) (xsOf k), .bool (decide (KnoC n (xsOf v) (xsOf k)))]) := by
  refine evC_of (F := Tryz.f7) rfl rfl (Nat.le_of_ble_eq_true rfl) ?_
  have hvl := hv.len
  have hkl := hk.len
  have hkl2 : (ksN (xsOf k)).length = (xsOf k).length := by simp [ksN]
  repeat' (first | (apply brI <;> intro hb hb2 <;> (try simp [-Int.not_le, -Int.not_lt, -Nat.not_le, -Nat.not_lt, -Nat.add_left_cancel_iff] at hb2)) | simp (maxSteps := 2000000) (disch := first | omega | assumption | simp [*]) [*, -Int.not_le, -Int.not_lt, -Nat.not_le, -Nat.not_lt, -Nat.add_left_cancel_iff, wrap_i64, wrap_u64, Tryz.f7, isI_cells hv, isI_one hv, isI_low hv, isI_len hv, isI_low hk, isI_len hk])
  refine W_loopG (xsOf k).length (fun i s h => s 18 = .int .i64 i ∧ s 17 = .int .i64 (xsOf k).length ∧ s 16 = k ∧ s 1 = k ∧ s 2 = .vp 2 0 0 ∧ s 4 = .vp 4 0 0 ∧ s 6 = .vp 6 0 0 ∧ (∀ j, j < i → GoodK n (xsOf v) (xsOf k) j) ∧ h 9 = none ∧ ∃ xv, h 2 = some (.var 0 26 (.agg [.int .i64 n, v])) ∧ h 4 = some (.var 0 32 (.agg [.sl 0 .lit [], .sl 0 .lit [], .int .i64 0, .sl 0 .lit []])) ∧
      h 6 = some (.var 0 32 (.agg [.sl 0 .lit [], .sl 0 .lit [], .int .i64 n, xv])) ∧ Buf h 3 44 0 xv (rowsE (xsOf v) ((ksN (xsOf k)).take i))) ?_ ?_
  · refine ⟨by simp, by simp, by simp, by simp, by simp, by simp, by simp, fun j hj => by omega, by simp [hset], .sl 0 .lit [], by simp [hset], by simp [hset], by simp [hset], by simp [rowsE]; exact buf_nil ..⟩
  rintro i s h hi ⟨h18, h17, h16, h1, h2, h4, h6, hG, e9, xv, e2, e4, e6, hB⟩
  have ox := hB.one
  have cx := hB.cells
  have hBl : (rowsE (xsOf v) ((ksN (xsOf k)).take i)).length < 1073741824 := by rw [rowsE_len, List.length_take]; omega
  by_cases hi2 : i < (xsOf k).length
  · obtain ⟨ci, cxs⟩ := cutI_I hk (i := i) (by omega)
    have cl := isI_low ci
    by_cases hg : GoodK n (xsOf v) (xsOf k) i
    · have hG2 : ∀ j, j < i + 1 → GoodK n (xsOf v) (xsOf k) j := fun j hj => by
        by_cases e : j = i
        · subst e; exact hg
        · exact hG j (by omega)
      obtain ⟨hp, ⟨k0, k1⟩, kn⟩ := hg
      have ht := rows_take (E := xsOf v) hi2
      clear hG
      repeat' (first | (apply brI <;> intro hb hb2 <;> (try simp [-Int.not_le, -Int.not_lt, -Nat.not_le, -Nat.not_lt, -Nat.add_left_cancel_iff] at hb2)) | (refine draw_listA (by rfl) (by kernel_rfl) ?_) | (refine draw_listB (by simp [allocsOf, isAlloc]; rfl) (by kernel_rfl) ?_) | simp (maxSteps := 2000000) (disch := first | omega | assumption | simp [*]) [*, -Int.not_le, -Int.not_lt, -Nat.not_le, -Nat.not_lt, -Nat.add_left_cancel_iff, wrap_i64, wrap_u64, h18, h17, h16, h1, h2, h4, h6, e2, e4, e6, isI_len hk, isI_index hk, isI_load hk, cutI_slice hk, isI_index hv, isI_load hv, isI_cells hv, isI_one hv, isI_low hv, isI_len hv])
      refine wa_push hB (by simp) (by simp) hBl fun x' h' hB' hk' => ?_
      rw [← ht] at hB'
      have f2 := (hk' 2 (by decide)).trans e2
      have f4 := (hk' 4 (by decide)).trans e4
      have f6 := (hk' 6 (by decide)).trans e6
      have f9 := (hk' 9 (by decide)).trans e9
      have ox' := hB'.one
      have cx' := hB'.cells
      clear hB hk' ht
      repeat' (first | (apply brI <;> intro hb hb2 <;> (try simp [-Int.not_le, -Int.not_lt, -Nat.not_le, -Nat.not_lt, -Nat.add_left_cancel_iff] at hb2)) | (refine draw_listA (by rfl) (by kernel_rfl) ?_) | (refine draw_listB (by simp [allocsOf, isAlloc]; rfl) (by kernel_rfl) ?_) | simp (maxSteps := 2000000) (disch := first | omega | assumption | simp [*]) [*, -Int.not_le, -Int.not_lt, -Nat.not_le, -Nat.not_lt, -Nat.add_left_cancel_iff, wrap_i64, wrap_u64, h18, h17, h16, h1, h2, h4, h6, f2, f4, f6])
      exact ⟨hG2, hB'.keep (hset_other _ _ (by decide))⟩
    · have hno : ¬ KnoC n (xsOf v) (xsOf k) := fun h => hg ⟨h.1, h.2 i hi2⟩
      have hval := exR_no hno
      have hd : decide (KnoC n (xsOf v) (xsOf k)) = false := decide_eq_false hno
      rw [hval, hd]
      clear hval hd hno hG hB
      by_cases hp : PCtx n (xsOf v)
      · by_cases k0 : 0 ≤ nth (xsOf k) i
        · by_cases k1 : nth (xsOf k) i < (xsOf v).length
          · have kn : inX ((xsOf k).take i) (nth (xsOf k) i) = true := by
              cases h : inX ((xsOf k).take i) (nth (xsOf k) i) with
              | true => rfl
              | false => exact absurd ⟨hp, ⟨k0, k1⟩, h⟩ hg
            clear hg
            repeat' (first | (apply brI <;> intro hb hb2 <;> (try simp [-Int.not_le, -Int.not_lt, -Nat.not_le, -Nat.not_lt, -Nat.add_left_cancel_iff] at hb2)) | (refine draw_listA (by rfl) (by kernel_rfl) ?_) | (refine draw_listB (by simp [allocsOf, isAlloc]; rfl) (by kernel_rfl) ?_) | simp (maxSteps := 2000000) (disch := first | omega | assumption | simp [*]) [*, -Int.not_le, -Int.not_lt, -Nat.not_le, -Nat.not_lt, -Nat.add_left_cancel_iff, wrap_i64, wrap_u64, h18, h17, h16, h1, h2, h4, h6, e2, e4, e6, isI_len hk, isI_index hk, isI_load hk, cutI_slice hk, isI_cells hv, isI_one hv, isI_low hv, isI_len hv])
          · clear hg
            repeat' (first | (apply brI <;> intro hb hb2 <;> (try simp [-Int.not_le, -Int.not_lt, -Nat.not_le, -Nat.not_lt, -Nat.add_left_cancel_iff] at hb2)) | (refine draw_listA (by rfl) (by kernel_rfl) ?_) | (refine draw_listB (by simp [allocsOf, isAlloc]; rfl) (by kernel_rfl) ?_) | simp (maxSteps := 2000000) (disch := first | omega | assumption | simp [*]) [*, -Int.not_le, -Int.not_lt, -Nat.not_le, -Nat.not_lt, -Nat.add_left_cancel_iff, wrap_i64, wrap_u64, h18, h17, h16, h1, h2, h4, h6, e2, e4, e6, isI_len hk, isI_index hk, isI_load hk, cutI_slice hk, isI_cells hv, isI_one hv, isI_low hv, isI_len hv])
        · clear hg
          repeat' (first | (apply brI <;> intro hb hb2 <;> (try simp [-Int.not_le, -Int.not_lt, -Nat.not_le, -Nat.not_lt, -Nat.add_left_cancel_iff] at hb2)) | (refine draw_listA (by rfl) (by kernel_rfl) ?_) | (refine draw_listB (by simp [allocsOf, isAlloc]; rfl) (by kernel_rfl) ?_) | simp (maxSteps := 2000000) (disch := first | omega | assumption | simp [*]) [*, -Int.not_le, -Int.not_lt, -Nat.not_le, -Nat.not_lt, -Nat.add_left_cancel_iff, wrap_i64, wrap_u64, h18, h17, h16, h1, h2, h4, h6, e2, e4, e6, isI_len hk, isI_index hk, isI_load hk, cutI_slice hk, isI_cells hv, isI_one hv, isI_low hv, isI_len hv])
      · clear hg
        repeat' (first | (apply brI <;> intro hb hb2 <;> (try simp [-Int.not_le, -Int.not_lt, -Nat.not_le, -Nat.not_lt, -Nat.add_left_cancel_iff] at hb2)) | (refine draw_listA (by rfl) (by kernel_rfl) ?_) | (refine draw_listB (by simp [allocsOf, isAlloc]; rfl) (by kernel_rfl) ?_) | simp (maxSteps := 2000000) (disch := first | omega | assumption | simp [*]) [*, -Int.not_le, -Int.not_lt, -Nat.not_le, -Nat.not_lt, -Nat.add_left_cancel_iff, wrap_i64, wrap_u64, h18, h17, h16, h1, h2, h4, h6, e2, e4, e6, isI_len hk, isI_index hk, isI_load hk, cutI_slice hk, isI_cells hv, isI_one hv, isI_low hv, isI_len hv])
  · obtain rfl : i = (xsOf k).length := by omega
    rw [List.take_of_length_le (by omega)] at hB
    by_cases hp : PCtx n (xsOf v)
    · have hK : KnoC n (xsOf v) (xsOf k) := ⟨hp, fun j hj => (hG j hj).2⟩
      have hc := hp
      obtain ⟨N, rfl⟩ : ∃ N : Nat, n = N := ⟨n.toNat, by have := hc.1; omega⟩
      have hN : N ≤ 6 := by have := hc.2.1; omega
      have h64 := pow64 hN
      obtain ⟨hnd, hks⟩ := ksN_ok hK
      obtain ⟨T, ⟨hT6, hTf, hTn, hTI⟩, hend⟩ := xend_T hc (xi_start hnd hks)
      obtain ⟨kx0, hkx0⟩ : ∃ kx0, kxI (xsOf k) = kx0 := ⟨_, rfl⟩
      have hkxo : kx0 = 113 ∨ kx0 = 44 := by rw [← hkx0]; exact kxI_or _
      have hval : exR N (xsOf v) (xsOf k) = .agg [bufLR 42 120 0 4 (qAV (xat (xsOf v) N (xs0 (xsOf k)) T).q), bufLR 40 86 0 2 (rAV (xat (xsOf v) N (xs0 (xsOf k)) T).r), .int .i64 N, bufR 3 kx0 0 (rowsE (xsOf v) (xat (xsOf v) N (xs0 (xsOf k)) T).ks)] := by
        unfold exR exS exN
        rw [if_pos hK, if_pos hK, Int.toNat_natCast, hkx0]
        rw [show xend (xsOf v) N (xs0 (xsOf k)) = xat (xsOf v) N (xs0 (xsOf k)) T from hend]
      have hfl : (if (N : Int) ≤ 8 then (2 : Int) ^ N - 1 else 0) = ((2 ^ N - 1 : Nat) : Int) := by
        rw [if_pos (by omega)]
        have : 0 < 2 ^ N := Nat.pow_pos (by decide)
        have h2 : ((2 ^ N : Nat) : Int) = (2 : Int) ^ N := by simp
        omega
      obtain ⟨full, hfull⟩ : ∃ full, 2 ^ N - 1 = full := ⟨_, rfl⟩
      rw [hfull] at hfl hTf hTn
      rw [hval, decide_eq_true hK]
      have hB0 : Buf h 3 kx0 0 xv (rowsE (xsOf v) (ksN (xsOf k))) := by
        rw [← hkx0]; unfold kxI
        split
        · rename_i he
          rw [he] at hB ⊢
          rcases hB with ⟨_, rfl⟩ | ⟨hx, _⟩
          · exact buf_nil ..
          · exact absurd rfl hx
        · exact hB
      have hko0 : ∀ i, rowsE (xsOf v) (xat (xsOf v) N (xs0 (xsOf k)) i).ks = [] → 113 = kx0 := fun i he => by
        have h1 := xat_ks (xsOf v) N (xs0 (xsOf k)) i
        have h2 : (xat (xsOf v) N (xs0 (xsOf k)) i).ks.length = 0 := by rw [← rowsE_len (xsOf v), he]; rfl
        have h3 : (xs0 (xsOf k)).ks.length = (xsOf k).length := hkl2
        have h4 : xsOf k = [] := List.eq_nil_of_length_eq_zero (by omega)
        rw [← hkx0]; unfold kxI; rw [if_pos h4]
      clear hval hend hB hBl
      obtain ⟨S, hS⟩ : ∃ S, xs0 (xsOf k) = S := ⟨_, rfl⟩
      rw [hS]
      have hTI2 : ∀ i, i ≤ T → XI (xsOf v) N (xat (xsOf v) N S i) := by rw [← hS]; exact hTI
      have hTf2 : (xat (xsOf v) N S T).a = full := by rw [← hS]; exact hTf
      have hTn2 : ∀ i, i < T → (xat (xsOf v) N S i).a ≠ full := by rw [← hS]; exact hTn
      have hko2 : ∀ i, rowsE (xsOf v) (xat (xsOf v) N S i).ks = [] → 113 = kx0 := by rw [← hS]; exact hko0
      clear hTI hTf hTn hko0 hG
      repeat' (first | (apply brI <;> intro hb hb2 <;> (try simp [-Int.not_le, -Int.not_lt, -Nat.not_le, -Nat.not_lt, -Nat.add_left_cancel_iff] at hb2)) | (refine draw_listA (by rfl) (by kernel_rfl) ?_) | (refine draw_listB (by simp [allocsOf, isAlloc]; rfl) (by kernel_rfl) ?_) | simp (maxSteps := 2000000) (disch := first | omega | assumption | simp [*]) [*, -Int.not_le, -Int.not_lt, -Nat.not_le, -Nat.not_lt, -Nat.add_left_cancel_iff, wrap_i64, wrap_u64, h18, h17, h16, h1, h2, h4, h6, e2, e4, e6, isI_len hk, isI_cells hv, isI_one hv, isI_low hv, isI_len hv])
      refine W_loopG T (fun i s h => s 2 = .vp 2 0 0 ∧ s 4 = .vp 4 0 0 ∧ s 6 = .vp 6 0 0 ∧ (∃ g, s 9 = .vp 9 g 0 ∧ h 9 = some (.var g 3 (.int .i64 (xat (xsOf v) N S i).a))) ∧ XHs 120 120 86 kx0 kx0 h N v (xsOf v) (xat (xsOf v) N S i)) ?_ ?_
      · have hS0 : xat (xsOf v) N S 0 = ⟨0, [], [], ksN (xsOf k)⟩ := by rw [← hS]; rfl
        rw [hS0]
        refine ⟨by simp [h2], by simp [h4], by simp [h6], ⟨0, by simp [e9], by simp [hset, e9]⟩, .sl 0 .lit [], .sl 0 .lit [], xv, 120, kx0, .inl rfl, .inl rfl, (hset_other _ _ (by decide)).trans e2, (hset_other _ _ (by decide)).trans e4, (hset_other _ _ (by decide)).trans e6, bufL_nil .., bufL_nil .., hB0.keep (hset_other _ _ (by omega))⟩
      clear h18 h17 h16 h1 h2 h4 h6 e2 e4 e6 e9 hB0 ox cx s h hi xv
      rintro i s h hi ⟨h2, h4, h6, ⟨g9, h9, e9⟩, hXH⟩
      have hql := xat_q (xsOf v) N S i
      have hq0 : S.q.length = 0 := by rw [← hS]; rfl
      have hI := hTI2 i hi
      have hkoi := hko2 i
      have hsucc : xat (xsOf v) N S (i + 1) = xst (xsOf v) N (xat (xsOf v) N S i) := rfl
      obtain ⟨A, hA⟩ : ∃ A, xat (xsOf v) N S i = A := ⟨_, rfl⟩
      have hTni := fun h => hTn2 i h
      rw [hA] at e9 hXH hql hI hsucc hTni hkoi
      have hXH0 := hXH
      obtain ⟨qv, rv, xv, kq, kx, hkq, hkx, e2, e4, e6, hQ, hR, hX⟩ := hXH
      obtain rfl : kq = 120 := by omega
      obtain rfl : kx = kx0 := by omega
      have oq := hQ.one
      have cq := hQ.cells
      have lq := hQ.low
      have or' := hR.one
      have cr := hR.cells
      have lr := hR.low
      have ox := hX.one
      have cx := hX.cells
      have lx := hX.low
      have ha64 : A.a < 64 := by have := hI.a; omega
      by_cases hi2 : i < T
      · have hna := hTni hi2
        have hnai : ¬ ((A.a : Int) = (full : Int)) := by omega
        obtain ⟨b, hb, hb2, hfew, hcase⟩ := xstep hc hI (by rw [hfull]; exact hna)
        have hb64 : b < 64 := by omega
        have hXc := rowsE_ctx hc hI.nd hI.ks
        have hXl := hXc.2.2.1
        have hhold := hold_ctr hc hI.a hb2
        have hcl4 : ∀ (K : AV → Prop) (tg : Tg K), CW env 38 [.agg [.int .i64 N, bufC 0 (rowsE (xsOf v) A.ks)], .int .i64 A.a] K tg ↔ K (.int .i64 b) := fun K tg => callsTo_iff (by
          have hb9 : IsI (bufC 0 (rowsE (xsOf v) A.ks)) := isI_bufC (by unfold top63; omega)
          have hx9 : xsOf (bufC 0 (rowsE (xsOf v) A.ks)) = rowsE (xsOf v) A.ks := by simp
          have := iClosureOf_c (N := N) (s := (A.a : Int)) hb9 (by rw [hx9]; exact hXc) (pset_nat (by omega) hI.a)
          rw [hx9, ← cloN_cast, hb] at this
          exact this)
        obtain ⟨X, hXX⟩ : ∃ X, rowsE (xsOf v) A.ks = X := ⟨_, rfl⟩
        rw [hXX] at hX hcl4 hXl hXc hkoi
        simp only [hXX] at lx
        clear hTI2 hTn2 hTf2 hS hA hTni hnd hks hko2
        rcases hcase with ⟨hba, m, hst, hnx⟩ | ⟨hba, hct, m, hst, hnx⟩ | ⟨hba, kk, hct, hkk, hst⟩
        · subst hba
          have hnx1 : ∀ (K : AV → Prop) (tg : Tg K), CW env 39 [.int .i64 N, bufLC 0 2 (rAV A.r), .int .i64 A.a] K tg ↔ K (.tup [.int .i64 m, .bool true]) := fun K tg => callsTo_iff (by
            have := iNextM_c (N := N) (X := A.a) (rAV_C (r := A.r) (by omega)) hnx.1
            rw [hnx.2] at this; exact this)
          rw [hsucc, hst]
          clear hsucc hst hnx hK hb hhold
          repeat' (first | (apply brI <;> intro hb hb2 <;> (try simp [-Int.not_le, -Int.not_lt, -Nat.not_le, -Nat.not_lt, -Nat.add_left_cancel_iff] at hb2)) | (refine draw_listA (by rfl) (by kernel_rfl) ?_) | (refine draw_listB (by simp [allocsOf, isAlloc]; rfl) (by kernel_rfl) ?_) | simp (maxSteps := 2000000) (disch := first | omega | assumption | simp [*]) [*, -Int.not_le, -Int.not_lt, -Nat.not_le, -Nat.not_lt, -Nat.add_left_cancel_iff, wrap_i64, wrap_u64, h2, h4, h6, h9, e9, e2, e4, e6, isI_cells hv, isI_one hv, isI_low hv, isI_len hv])
          exact xhs_keep hXH0 (by omega) (fun x a b c => by rw [hset_other _ _ a, hset_other _ _ b]) rfl rfl rfl
        · have hnx1 : ∀ (K : AV → Prop) (tg : Tg K), CW env 39 [.int .i64 N, bufLC 0 2 (rAV A.r ++ [.agg [.int .i64 A.a, .int .i64 b]]), .int .i64 A.a] K tg ↔ K (.tup [.int .i64 m, .bool true]) := fun K tg => callsTo_iff (by
            have := iNextM_c (N := N) (X := A.a) (rAV_C (r := A.r ++ [(A.a, b)]) (by rw [List.length_append, List.length_singleton]; omega)) hnx.1
            rw [hnx.2, rAV_app] at this; exact this)
          have hbai : ¬ ((A.a : Int) = (b : Int)) := by omega
          have hh : HoldC (N : Int) (xsOf v) A.a b := hhold.2 (by rw [hct]; decide)
          rw [hsucc, hst]
          clear hsucc hst hnx hK hb hhold hXH0
          repeat' (first | (apply brI <;> intro hb hb2 <;> (try simp [-Int.not_le, -Int.not_lt, -Nat.not_le, -Nat.not_lt, -Nat.add_left_cancel_iff] at hb2)) | (refine draw_listA (by rfl) (by kernel_rfl) ?_) | (refine draw_listB (by simp [allocsOf, isAlloc]; rfl) (by kernel_rfl) ?_) | simp (maxSteps := 2000000) (disch := first | omega | assumption | simp [*]) [*, -Int.not_le, -Int.not_lt, -Nat.not_le, -Nat.not_lt, -Nat.add_left_cancel_iff, wrap_i64, wrap_u64, h2, h4, h6, h9, e9, e2, e4, e6, isI_cells hv, isI_one hv, isI_low hv, isI_len hv])
          refine wa_pushL (hR.keep (by repeat rw [hset_other _ _ (by omega)])) (by simp) (by simp) (by decide) ⟨rfl, rfl⟩ (fun _ => rfl) (by simp [rAV]; omega) fun r2 m2 hR2 hk2 => ?_
          have w2 := hk2 2 (by decide)
          have w4 := hk2 4 (by decide)
          have w6 := hk2 6 (by decide)
          have w9 := hk2 9 (by decide)
          have w10 := hk2 10 (by decide)
          have w11 := hk2 11 (by decide)
          simp [hset, e2, e4, e6, e9] at w2 w4 w6 w9 w10 w11
          have hQ2 := hQ.keep ((hk2 120 (by decide)).trans (by repeat rw [hset_other _ _ (by omega)]))
          have hX2 := hX.keep ((hk2 kx (by omega)).trans (by repeat rw [hset_other _ _ (by omega)]))
          have or2 := hR2.one
          have cr2 := hR2.cells
          have lr2 := hR2.low
          clear hk2 hQ hR hX e2 e4 e6 e9 or' cr lr
          repeat' (first | (apply brI <;> intro hb hb2 <;> (try simp [-Int.not_le, -Int.not_lt, -Nat.not_le, -Nat.not_lt, -Nat.add_left_cancel_iff] at hb2)) | (refine draw_listA (by rfl) (by kernel_rfl) ?_) | (refine draw_listB (by simp [allocsOf, isAlloc]; rfl) (by kernel_rfl) ?_) | simp (maxSteps := 2000000) (disch := first | omega | assumption | simp [*]) [*, -Int.not_le, -Int.not_lt, -Nat.not_le, -Nat.not_lt, -Nat.add_left_cancel_iff, wrap_i64, wrap_u64, h2, h4, h6, h9, w2, w4, w6, w9, w10, w11, isI_cells hv, isI_one hv, isI_low hv, isI_len hv])
          refine wa_pushL (hQ2.keep (by repeat rw [hset_other _ _ (by omega)])) (by simp) (by simp) (by decide) ⟨rfl, rfl⟩ (fun _ => rfl) (by simp [qAV]; omega) fun q3 m3 hQ3 hk3 => ?_
          have z2 := hk3 2 (by decide)
          have z4 := hk3 4 (by decide)
          have z6 := hk3 6 (by decide)
          have z9 := hk3 9 (by decide)
          simp [hset, w2, w4, w6, w9] at z2 z4 z6 z9
          have hR3 := hR2.keep ((hk3 86 (by decide)).trans (by repeat rw [hset_other _ _ (by omega)]))
          have hX3 := hX2.keep ((hk3 kx (by omega)).trans (by repeat rw [hset_other _ _ (by omega)]))
          have oq3 := hQ3.one
          have cq3 := hQ3.cells
          clear hk3 hQ2 hR2 hX2 w2 w4 w6 w9 w10 w11 oq cq lq
          repeat' (first | (apply brI <;> intro hb hb2 <;> (try simp [-Int.not_le, -Int.not_lt, -Nat.not_le, -Nat.not_lt, -Nat.add_left_cancel_iff] at hb2)) | (refine draw_listA (by rfl) (by kernel_rfl) ?_) | (refine draw_listB (by simp [allocsOf, isAlloc]; rfl) (by kernel_rfl) ?_) | simp (maxSteps := 2000000) (disch := first | omega | assumption | simp [*]) [*, -Int.not_le, -Int.not_lt, -Nat.not_le, -Nat.not_lt, -Nat.add_left_cancel_iff, wrap_i64, wrap_u64, h2, h4, h6, h9, z2, z4, z6, z9, isI_cells hv, isI_one hv, isI_low hv, isI_len hv])
          refine ⟨q3, r2, xv, 120, kx, .inl rfl, .inl rfl, (hset_other _ _ (by decide)).trans ((hset_other _ _ (by decide)).trans z2), (hset_other _ _ (by decide)).trans ((hset_other _ _ (by decide)).trans z4), (hset_other _ _ (by decide)).trans (hset_same ..), ?_, ?_, ?_⟩
          · show BufL _ _ _ _ _ _ (qAV (A.q ++ [_]))
            rw [qAV_app]; exact hQ3.keep (by repeat rw [hset_other _ _ (by omega)])
          · show BufL _ _ _ _ _ _ (rAV (A.r ++ [_]))
            rw [rAV_app]; exact hR3.keep (by repeat rw [hset_other _ _ (by omega)])
          · show Buf _ _ _ _ _ (rowsE _ A.ks)
            rw [hXX]; exact hX3.keep (by repeat rw [hset_other _ _ (by omega)])
        · have hbai : ¬ ((A.a : Int) = (b : Int)) := by omega
          have hh : ¬ HoldC (N : Int) (xsOf v) A.a b := fun h => by have := hhold.1 h; rw [hct] at this; omega
          have hix : ∀ (K : AV → Prop) (tg : Tg K), CW env 41 [v, .fn 42 [.cp true [.int .i64 A.a] 0, .cp true [.int .i64 b] 0]] K tg ↔ K (.int .i64 (kk : Nat)) := fun K tg => callsTo_iff (by
            have := indexFuncN_c (v := v) (g := 42) (caps := [.cp true [.int .i64 A.a] 0, .cp true [.int .i64 b] 0]) (p := fun row => PSub (A.a : Int) row && !PSub (b : Int) row) hv rfl rfl rfl (fun h => by simp) fun j hj => explore1_c ha64 hb64 (pctx_row hc hj).1 (pctx_row hc hj).2.2
            have e : idxI (fun row => PSub (A.a : Int) row && !PSub (b : Int) row) (xsOf v) = (kk : Nat) := hct
            rw [e] at this; exact this)
          rw [hsucc, hst]
          clear hsucc hst hK hb hhold hXH0
          repeat' (first | (apply brI <;> intro hb hb2 <;> (try simp [-Int.not_le, -Int.not_lt, -Nat.not_le, -Nat.not_lt, -Nat.add_left_cancel_iff] at hb2)) | (refine draw_listA (by rfl) (by kernel_rfl) ?_) | (refine draw_listB (by simp [allocsOf, isAlloc]; rfl) (by kernel_rfl) ?_) | simp (maxSteps := 2000000) (disch := first | omega | assumption | simp [*]) [*, -Int.not_le, -Int.not_lt, -Nat.not_le, -Nat.not_lt, -Nat.add_left_cancel_iff, wrap_i64, wrap_u64, h2, h4, h6, h9, e9, e2, e4, e6, isI_cells hv, isI_one hv, isI_low hv, isI_len hv, isI_index hv, isI_load hv])
          refine wa_push' (hX.keep (by repeat rw [hset_other _ _ (by omega)])) (by simp) (by simp) hkoi (by omega) fun x2 m2 hX2 hk2 => ?_
          have w2 := hk2 2 (by omega)
          have w4 := hk2 4 (by omega)
          have w6 := hk2 6 (by omega)
          have w9 := hk2 9 (by omega)
          have w10 := hk2 10 (by omega)
          have w11 := hk2 11 (by omega)
          simp [hset, e2, e4, e6, e9] at w2 w4 w6 w9 w10 w11
          have hQ2 := hQ.keep ((hk2 120 (by omega)).trans (by repeat rw [hset_other _ _ (by omega)]))
          have hR2 := hR.keep ((hk2 86 (by omega)).trans (by repeat rw [hset_other _ _ (by omega)]))
          have ox2 := hX2.one
          have cx2 := hX2.cells
          clear hk2 hQ hR hX e2 e4 e6 e9 ox cx lx
          repeat' (first | (apply brI <;> intro hb hb2 <;> (try simp [-Int.not_le, -Int.not_lt, -Nat.not_le, -Nat.not_lt, -Nat.add_left_cancel_iff] at hb2)) | (refine draw_listA (by rfl) (by kernel_rfl) ?_) | (refine draw_listB (by simp [allocsOf, isAlloc]; rfl) (by kernel_rfl) ?_) | simp (maxSteps := 2000000) (disch := first | omega | assumption | simp [*]) [*, -Int.not_le, -Int.not_lt, -Nat.not_le, -Nat.not_lt, -Nat.add_left_cancel_iff, wrap_i64, wrap_u64, h2, h4, h6, h9, w2, w4, w6, w9, w10, w11, isI_cells hv, isI_one hv, isI_low hv, isI_len hv])
          refine wa_pushL (hQ2.keep (by repeat rw [hset_other _ _ (by omega)])) (by simp) (by simp) (by decide) ⟨rfl, rfl⟩ (fun _ => rfl) (by simp [qAV]; omega) fun q3 m3 hQ3 hk3 => ?_
          have z2 := hk3 2 (by decide)
          have z4 := hk3 4 (by decide)
          have z6 := hk3 6 (by decide)
          have z9 := hk3 9 (by decide)
          simp [hset, w2, w4, w6, w9] at z2 z4 z6 z9
          have hR3 := hR2.keep ((hk3 86 (by decide)).trans (by repeat rw [hset_other _ _ (by omega)]))
          have hX3 := hX2.keep ((hk3 kx (by omega)).trans (by repeat rw [hset_other _ _ (by omega)]))
          have oq3 := hQ3.one
          have cq3 := hQ3.cells
          clear hk3 hQ2 hR2 hX2 w2 w4 w6 w9 w10 w11 oq cq lq
          repeat' (first | (apply brI <;> intro hb hb2 <;> (try simp [-Int.not_le, -Int.not_lt, -Nat.not_le, -Nat.not_lt, -Nat.add_left_cancel_iff] at hb2)) | (refine draw_listA (by rfl) (by kernel_rfl) ?_) | (refine draw_listB (by simp [allocsOf, isAlloc]; rfl) (by kernel_rfl) ?_) | simp (maxSteps := 2000000) (disch := first | omega | assumption | simp [*]) [*, -Int.not_le, -Int.not_lt, -Nat.not_le, -Nat.not_lt, -Nat.add_left_cancel_iff, wrap_i64, wrap_u64, h2, h4, h6, h9, z2, z4, z6, z9, isI_cells hv, isI_one hv, isI_low hv, isI_len hv])
          refine ⟨q3, rv, x2, 120, kx, .inl rfl, .inl rfl, (hset_other _ _ (by decide)).trans ((hset_other _ _ (by decide)).trans z2), (hset_other _ _ (by decide)).trans ((hset_other _ _ (by decide)).trans z4), (hset_other _ _ (by decide)).trans (hset_same ..), ?_, ?_, ?_⟩
          · show BufL _ _ _ _ _ _ (qAV (A.q ++ [_]))
            rw [qAV_app]; exact hQ3.keep (by repeat rw [hset_other _ _ (by omega)])
          · exact hR3.keep (by repeat rw [hset_other _ _ (by omega)])
          · show Buf _ _ _ _ _ (rowsE _ (A.ks ++ [_]))
            rw [rowsE_app, hXX]; exact hX3.keep (by repeat rw [hset_other _ _ (by omega)])
      · obtain rfl : i = T := by omega
        have haf : (A.a : Int) = (full : Int) := by rw [← hA, hTf2]
        have hend : ∀ h', (∀ x, x ≠ 4 → h' x = h x) → expo h' qv = bufLR 42 120 0 4 (qAV A.q) ∧ expo h' rv = bufLR 40 86 0 2 (rAV A.r) ∧ expo h' xv = bufR 3 kx 0 (rowsE (xsOf v) A.ks) := fun h' e =>
          ⟨(hQ.keep (e _ (by omega))).expo, (hR.keep (e _ (by omega))).expo, (hX.keep (e _ (by omega))).expo⟩
        rw [hA]
        clear hTI2 hTn2 hTf2 hS hA hTni hnd hks hQ hR hX hXH0 hko2 hkoi
        repeat' (first | (apply brI <;> intro hb hb2 <;> (try simp [-Int.not_le, -Int.not_lt, -Nat.not_le, -Nat.not_lt, -Nat.add_left_cancel_iff] at hb2)) | (refine draw_listA (by rfl) (by kernel_rfl) ?_) | (refine draw_listB (by simp [allocsOf, isAlloc]; rfl) (by kernel_rfl) ?_) | simp (maxSteps := 2000000) (disch := first | omega | assumption | simp [*]) [*, -Int.not_le, -Int.not_lt, -Nat.not_le, -Nat.not_lt, -Nat.add_left_cancel_iff, wrap_i64, wrap_u64, h2, h4, h6, h9, e9, e2, e4, e6, isI_cells hv, isI_one hv, isI_low hv, isI_len hv])
        exact hend _ fun x hx => hset_other _ _ hx
    · have hno : ¬ KnoC n (xsOf v) (xsOf k) := fun h => hp h.1
      have hval := exR_no hno
      have hd : decide (KnoC n (xsOf v) (xsOf k)) = false := decide_eq_false hno
      rw [hval, hd]
      clear hval hd hno hG hB
      repeat' (first | (apply brI <;> intro hb hb2 <;> (try simp [-Int.not_le, -Int.not_lt, -Nat.not_le, -Nat.not_lt, -Nat.add_left_cancel_iff] at hb2)) | (refine draw_listA (by rfl) (by kernel_rfl) ?_) | (refine draw_listB (by simp [allocsOf, isAlloc]; rfl) (by kernel_rfl) ?_) | simp (maxSteps := 2000000) (disch := first | omega | assumption | simp [*]) [*, -Int.not_le, -Int.not_lt, -Nat.not_le, -Nat.not_lt, -Nat.add_left_cancel_iff, wrap_i64, wrap_u64, h18, h17, h16, h1, h2, h4, h6, e2, e4, e6, isI_len hk, isI_cells hv, isI_one hv, isI_low hv, isI_len hv])
theorem iExplore_s {n : Int} {v k : AV} (hv : IsI v) (hk : IsI k) (hl : (xsOf v).length ≤ 1048576) (hl2 : (xsOf k).length ≤ 1048576) {K : AV → Prop} {tg : Tg K} : CW env 7 [.agg [.int .i64 n, v], k] K tg ↔ K (.tup [exR n (xsOf v) (xsOf k), .bool (decide (KnoC n (xsOf v) (xsOf k)))]) := callsTo_iff (iExplore_c hv hk hl hl2)
attribute [simp] iExplore_s
end Go.Proofs.YtlglhokpaplifaaGreatDoor
