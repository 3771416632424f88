/- Exploration: the reference. Conditions: none. -/
import Derived.Test.YtlglhokpaplifaaGreatDoorExplW
namespace Go.Proofs.YtlglhokpaplifaaGreatDoor
open Ev
set_option linter.unusedVariables false
set_option linter.unusedSimpArgs false
set_option maxHeartbeats 4000000

theorem ctr_m1 {E : List Int} {a b : Nat} (h : ctrE E a b < 0) : ctrE E a b = -1 := by
  unfold ctrE idxI at *
  cases hf : E.findIdx? (fun row => PSub (a : Int) row && !PSub (b : Int) row) with
  | none => rfl
  | some k => rw [hf] at h; simp only at h; omega
def NxF (N : Nat) (r : List (Nat × Nat)) (a m : Nat) : Prop := NxtC (N : Int) (bufLC 0 2 (rAV r)) (a : Int) ∧ nxV (candB (bufLC 0 2 (rAV r)) a) N = .tup [.int .i64 m, .bool true]
theorem nxf_spec {N a m : Nat} {r : List (Nat × Nat)} (h : NxF N r a m) : nextM (N : Int) (bufLC 0 2 (rAV r)) (a : Int) = .tup [.int .i64 m, .bool true] := by
  unfold nextM; rw [if_pos h.1]; simpa using h.2
/-- one step, in all it may be -/
theorem xstep {E : List Int} {N : Nat} {s : XS} (hc : PCtx N E) (h : XI E N s) (hf : s.a ≠ 2 ^ N - 1) : ∃ b, cloN (rowsE E s.ks) N s.a = b ∧ b < 2 ^ N ∧ s.r.length ≤ 32 ∧
    ((b = s.a ∧ ∃ m, xst E N s = { s with a := m } ∧ NxF N s.r s.a m) ∨
     (b ≠ s.a ∧ ctrE E s.a b = -1 ∧ ∃ m, xst E N s = { s with a := m, q := s.q ++ [(s.a, b, true, -1)], r := s.r ++ [(s.a, b)] } ∧ NxF N (s.r ++ [(s.a, b)]) s.a m) ∨
     (b ≠ s.a ∧ ∃ k, ctrE E s.a b = (k : Nat) ∧ k < E.length ∧ xst E N s = { s with q := s.q ++ [(s.a, b, false, ((k : Nat) : Int))], ks := s.ks ++ [k] })) := by
  have hN : N ≤ 6 := by have := hc.2.1; omega
  have hcl := clo_cl hc
  have hclx := clo_cl (rowsE_ctx hc h.nd h.ks)
  have hr2 : ∀ p ∈ s.r, p.1 < 2 ^ N ∧ p.2 < 2 ^ N := fun p hp => ⟨(h.r p hp).1, by rw [(h.r p hp).2.1]; exact hcl.lt _ (h.r p hp).1⟩
  have hfew := xi_few hc h
  obtain ⟨b, hb⟩ : ∃ b, cloN (rowsE E s.ks) N s.a = b := ⟨_, rfl⟩
  have hb2 : b < 2 ^ N := by rw [← hb]; exact hclx.lt _ h.a
  refine ⟨b, hb, hb2, hfew, ?_⟩
  by_cases e : b = s.a
  · exact .inl ⟨e, _, xst_same (by rw [hb]; exact e), next_eq hN hr2 (by omega) h.a (nxt_ok hN h.a hf fun p hp => (hr2 p hp).2)⟩
  · by_cases hx : ctrE E s.a b < 0
    · have hr3 : ∀ p ∈ s.r ++ [(s.a, b)], p.1 < 2 ^ N ∧ p.2 < 2 ^ N := fun p hp => by
        rcases List.mem_append.1 hp with hp | hp
        · exact hr2 p hp
        · obtain rfl := List.mem_singleton.1 hp; exact ⟨h.a, hb2⟩
      exact .inr (.inl ⟨e, ctr_m1 hx, _, xst_acc hb e hx, next_eq hN hr3 (by rw [List.length_append, List.length_singleton]; omega) h.a (nxt_ok hN h.a hf fun p hp => (hr3 p hp).2)⟩)
    · obtain ⟨k, k1, k2, _, _⟩ := ctr_pos hx
      exact .inr (.inr ⟨e, k, k1, k2, xst_ex hb e k1⟩)
/-- what an exploration comes to -/
noncomputable def exS (n : Int) (E ks : List Int) : XS := if KnoC n E ks then xend E n.toNat (xs0 ks) else ⟨0, [], [], []⟩
noncomputable def exN (n : Int) (E ks : List Int) : Int := if KnoC n E ks then n else 0
noncomputable def exV (n : Int) (E ks : List Int) : AV := .agg [bufLC 0 4 (qAV (exS n E ks).q), bufLC 0 2 (rAV (exS n E ks).r), .int .i64 (exN n E ks), bufC 0 (rowsE E (exS n E ks).ks)]
def zeroX : AV := .agg [.sl 0 .lit [], .sl 0 .lit [], .int .i64 0, .sl 0 .lit []]
theorem exV_no {n : Int} {E ks : List Int} (h : ¬ KnoC n E ks) : exV n E ks = .agg [.sl 0 .lit [], .sl 0 .lit [], .int .i64 0, .sl 0 .lit []] := by
  unfold exV exS exN; rw [if_neg h, if_neg h]; rfl
theorem rows_take {E ks : List Int} {i : Nat} (hi : i < ks.length) : rowsE E ((ksN ks).take (i + 1)) = rowsE E ((ksN ks).take i) ++ [nth E (nth ks i).toNat] := by
  have h2 : i < (ksN ks).length := by simpa [ksN] using hi
  rw [List.take_add_one, List.getElem?_eq_getElem h2]
  simp [rowsE, ksN, nth_eq hi]
/-- what stands in the memory on the way -/
def XHs (k1 k2 k3 k4 k5 : Nat) (h : Heap) (n : Int) (v : AV) (E : List Int) (A : XS) : Prop := ∃ qv rv xv kq kx, (kq = k1 ∨ kq = k2) ∧ (kx = k4 ∨ kx = k5) ∧ h 2 = some (.var 0 26 (.agg [.int .i64 n, v])) ∧ h 4 = some (.var 0 32 (.agg [.sl 0 .lit [], .sl 0 .lit [], .int .i64 0, .sl 0 .lit []])) ∧
  h 6 = some (.var 0 32 (.agg [qv, rv, .int .i64 n, xv])) ∧ BufL h 42 kq 0 4 qv (qAV A.q) ∧ BufL h 40 k3 0 2 rv (rAV A.r) ∧ Buf h 3 kx 0 xv (rowsE E A.ks)
theorem sExplore_t {n : Int} {v k : AV} (hv : IsI v) (hk : IsI k) (hl : (xsOf v).length ≤ 1048576) : CallsTo env 8 [.agg [.int .i64 n, v], k] (fun r => noEx r = .tup [exV n (xsOf v) (xsOf k), .bool (decide (KnoC n (xsOf v) (xsOf k)))]) := by
  refine callsTo_mk (F := Tryz.f8) rfl rfl (Nat.le_of_ble_eq_true rfl) ?_
  have hvl := hv.len
  have hkl := hk.len
  by_cases hK : KnoC n (xsOf v) (xsOf k)
  · have hc := hK.1
    obtain ⟨N, rfl⟩ : ∃ N : Nat, n = N := ⟨n.toNat, by have := hc.1; omega⟩
    have hN : N ≤ 6 := by have := hc.2.1; omega
    have h64 := pow64 hN
    obtain ⟨hnd, hks⟩ := ksN_ok hK
    obtain ⟨T, ⟨hT6, hTf, hTn, hTI⟩, hend⟩ := xend_T hc (xi_start hnd hks)
    have hkl2 : (ksN (xsOf k)).length = (xsOf k).length := by simp [ksN]
    have hk8 : (xsOf k).length ≤ 8 := by have := nodup_bound hnd hks; have := hc.2.2.1; omega
    have hki := fun i hi => (hK.2 i hi).1
    have hval : exV N (xsOf v) (xsOf k) = .agg [bufLC 0 4 (qAV (xat (xsOf v) N (xs0 (xsOf k)) T).q), bufLC 0 2 (rAV (xat (xsOf v) N (xs0 (xsOf k)) T).r), .int .i64 N, bufC 0 (rowsE (xsOf v) (xat (xsOf v) N (xs0 (xsOf k)) T).ks)] := by
      unfold exV exS exN
      rw [if_pos hK, if_pos hK, Int.toNat_natCast]
      rw [show xend (xsOf v) N (xs0 (xsOf k)) = xat (xsOf v) N (xs0 (xsOf k)) T from hend]
    have hfl : (if (N : Int) ≤ 8 then (2 : Int) ^ N - 1 else 0) = ((2 ^ N - 1 : Nat) : Int) := by
      rw [if_pos (by omega)]
      have : 0 < 2 ^ N := Nat.pow_pos (by decide)
      have h2 : ((2 ^ N : Nat) : Int) = (2 : Int) ^ N := by simp
      omega
    obtain ⟨full, hfull⟩ : ∃ full, 2 ^ N - 1 = full := ⟨_, rfl⟩
    rw [hfull] at hfl hTf hTn
    rw [hval, decide_eq_true hK]
    clear hval hend
    obtain ⟨S, hS⟩ : ∃ S, xs0 (xsOf k) = S := ⟨_, rfl⟩
    rw [hS]
    have hTI2 : ∀ i, i ≤ T → XI (xsOf v) N (xat (xsOf v) N S i) := by rw [← hS]; exact hTI
    have hTf2 : (xat (xsOf v) N S T).a = full := by rw [← hS]; exact hTf
    have hTn2 : ∀ i, i < T → (xat (xsOf v) N S i).a ≠ full := by rw [← hS]; exact hTn
    clear hTI hTf hTn
    repeat' (first | (apply brI <;> intro hb hb2 <;> (try simp [-Int.not_le, -Int.not_lt, -Nat.not_le, -Nat.not_lt, -Nat.add_left_cancel_iff] at hb2)) | simp (maxSteps := 2000000) (disch := first | omega | assumption | simp [*]) [*, -Int.not_le, -Int.not_lt, -Nat.not_le, -Nat.not_lt, -Nat.add_left_cancel_iff, wrap_i64, wrap_u64, Tryz.f8, isI_cells hv, isI_one hv, isI_low hv, isI_len hv, isI_low hk, isI_len hk])
    refine W_loopG (xsOf k).length (fun i s h => s 7 = .int .i64 i ∧ s 1 = k ∧ s 2 = .vp 2 0 0 ∧ s 4 = .vp 4 0 0 ∧ s 6 = .vp 6 0 0 ∧ ∃ xv, h 2 = some (.var 0 26 (.agg [.int .i64 N, v])) ∧ h 4 = some (.var 0 32 (.agg [.sl 0 .lit [], .sl 0 .lit [], .int .i64 0, .sl 0 .lit []])) ∧
      h 6 = some (.var 0 32 (.agg [.sl 0 .lit [], .sl 0 .lit [], .int .i64 N, xv])) ∧ Buf h 3 38 0 xv (rowsE (xsOf v) ((ksN (xsOf k)).take i))) ?_ ?_
    · refine ⟨by simp, by simp, by simp, by simp, by simp, .sl 0 .lit [], by simp [hset], by simp [hset], by simp [hset], by simp [rowsE]; exact buf_nil ..⟩
    rintro i s h hi ⟨h7, h1, h2, h4, h6, xv, e2, e4, e6, hB⟩
    have ox := hB.one
    have cx := hB.cells
    have hBl : (rowsE (xsOf v) ((ksN (xsOf k)).take i)).length < 1073741824 := by rw [rowsE_len, List.length_take]; omega
    by_cases hi2 : i < (xsOf k).length
    · obtain ⟨k0, k1⟩ := hki i hi2
      have ht := rows_take (E := xsOf v) hi2
      clear hki
      repeat' (first | (apply brI <;> intro hb hb2 <;> (try simp [-Int.not_le, -Int.not_lt, -Nat.not_le, -Nat.not_lt, -Nat.add_left_cancel_iff] at hb2)) | (refine draw_listA (by rfl) (by kernel_rfl) ?_) | (refine draw_listB (by simp [allocsOf, isAlloc]; rfl) (by kernel_rfl) ?_) | simp (maxSteps := 2000000) (disch := first | omega | assumption | simp [*]) [*, -Int.not_le, -Int.not_lt, -Nat.not_le, -Nat.not_lt, -Nat.add_left_cancel_iff, wrap_i64, wrap_u64, h7, h1, h2, h4, h6, e2, e4, e6, isI_len hk, isI_index hk, isI_load hk, isI_index hv, isI_load hv, isI_cells hv, isI_one hv, isI_low hv, isI_len hv])
      refine wa_push hB (by simp) (by simp) hBl fun x' h' hB' hk' => ?_
      rw [← ht] at hB'
      have f2 := (hk' 2 (by decide)).trans e2
      have f4 := (hk' 4 (by decide)).trans e4
      have f6 := (hk' 6 (by decide)).trans e6
      have ox' := hB'.one
      have cx' := hB'.cells
      clear hB hk' ht
      repeat' (first | (apply brI <;> intro hb hb2 <;> (try simp [-Int.not_le, -Int.not_lt, -Nat.not_le, -Nat.not_lt, -Nat.add_left_cancel_iff] at hb2)) | (refine draw_listA (by rfl) (by kernel_rfl) ?_) | (refine draw_listB (by simp [allocsOf, isAlloc]; rfl) (by kernel_rfl) ?_) | simp (maxSteps := 2000000) (disch := first | omega | assumption | simp [*]) [*, -Int.not_le, -Int.not_lt, -Nat.not_le, -Nat.not_lt, -Nat.add_left_cancel_iff, wrap_i64, wrap_u64, h7, h1, h2, h4, h6, f2, f4, f6])
      exact hB'.keep (hset_other _ _ (by decide))
    · obtain rfl : i = (xsOf k).length := by omega
      rw [List.take_of_length_le (by omega)] at hB
      clear hBl
      repeat' (first | (apply brI <;> intro hb hb2 <;> (try simp [-Int.not_le, -Int.not_lt, -Nat.not_le, -Nat.not_lt, -Nat.add_left_cancel_iff] at hb2)) | (refine draw_listA (by rfl) (by kernel_rfl) ?_) | (refine draw_listB (by simp [allocsOf, isAlloc]; rfl) (by kernel_rfl) ?_) | simp (maxSteps := 2000000) (disch := first | omega | assumption | simp [*]) [*, -Int.not_le, -Int.not_lt, -Nat.not_le, -Nat.not_lt, -Nat.add_left_cancel_iff, wrap_i64, wrap_u64, h7, h1, h2, h4, h6, e2, e4, e6, isI_len hk])
      refine W_loopG T (fun i s h => s 2 = .vp 2 0 0 ∧ s 4 = .vp 4 0 0 ∧ s 6 = .vp 6 0 0 ∧ s 8 = .int .i64 (xat (xsOf v) N S i).a ∧ XHs 69 93 101 38 80 h N v (xsOf v) (xat (xsOf v) N S i)) ?_ ?_
      · have hS0 : xat (xsOf v) N S 0 = ⟨0, [], [], ksN (xsOf k)⟩ := by rw [← hS]; rfl
        rw [hS0]
        refine ⟨by simp [h2], by simp [h4], by simp [h6], by simp, .sl 0 .lit [], .sl 0 .lit [], xv, 69, 38, .inl rfl, .inl rfl, e2, e4, e6, bufL_nil .., bufL_nil .., hB⟩
      clear h7 h1 h2 h4 h6 e2 e4 e6 hB ox cx s h hi xv
      rintro i s h hi ⟨h2, h4, h6, h8, hXH⟩
      have hql := xat_q (xsOf v) N S i
      have hq0 : S.q.length = 0 := by rw [← hS]; rfl
      have hI := hTI2 i hi
      have hsucc : xat (xsOf v) N S (i + 1) = xst (xsOf v) N (xat (xsOf v) N S i) := rfl
      obtain ⟨A, hA⟩ : ∃ A, xat (xsOf v) N S i = A := ⟨_, rfl⟩
      have hTni := fun h => hTn2 i h
      rw [hA] at h8 hXH hql hI hsucc hTni
      have hXH0 := hXH
      obtain ⟨qv, rv, xv, kq, kx, hkq, hkx, e2, e4, e6, hQ, hR, hX⟩ := hXH
      have oq := hQ.one
      have cq := hQ.cells
      have lq := hQ.low
      have or' := hR.one
      have cr := hR.cells
      have lr := hR.low
      have ox := hX.one
      have cx := hX.cells
      have lx := hX.low
      have ha64 : A.a < 64 := by have := hI.a; omega
      by_cases hi2 : i < T
      · have hna := hTni hi2
        have hnai : ¬ ((A.a : Int) = (full : Int)) := by omega
        obtain ⟨b, hb, hb2, hfew, hcase⟩ := xstep hc hI (by rw [hfull]; exact hna)
        have hb64 : b < 64 := by omega
        have hXc := rowsE_ctx hc hI.nd hI.ks
        have hXl := hXc.2.2.1
        have hcl4 : ∀ (K : AV → Prop) (tg : Tg K), CW env 46 [.agg [.int .i64 N, bufC 0 (rowsE (xsOf v) A.ks)], .int .i64 A.a] K tg ↔ K (.int .i64 b) := fun K tg => callsTo_iff (by
          have hb9 : IsI (bufC 0 (rowsE (xsOf v) A.ks)) := isI_bufC (by unfold top63; omega)
          have hx9 : xsOf (bufC 0 (rowsE (xsOf v) A.ks)) = rowsE (xsOf v) A.ks := by simp
          have := l4Closure_c (N := N) (s := (A.a : Int)) hb9 (by rw [hx9]; exact hXc) (pset_nat (by omega) hI.a)
          rw [hx9, ← cloN_cast, hb] at this
          exact this)
        obtain ⟨X, hXX⟩ : ∃ X, rowsE (xsOf v) A.ks = X := ⟨_, rfl⟩
        rw [hXX] at hX hcl4 hXl hXc
        simp only [hXX] at lx
        clear hTI2 hTn2 hTf2 hS hA hTni hki hnd hks
        rcases hcase with ⟨hba, m, hst, hnx⟩ | ⟨hba, hct, m, hst, hnx⟩ | ⟨hba, kk, hct, hkk, hst⟩
        · subst hba
          have hnx1 : ∀ (K : AV → Prop) (tg : Tg K), CW env 11 [.int .i64 N, bufLC 0 2 (rAV A.r), .int .i64 A.a] K tg ↔ K (.tup [.int .i64 m, .bool true]) := fun K tg => callsTo_iff (by
            have := sNextModel_c (n := (N : Int)) (x := (A.a : Int)) (rAV_C (r := A.r) (by omega))
            rw [nxf_spec hnx] at this; exact this)
          rw [hsucc, hst]
          clear hsucc hst hnx hK hb
          repeat' (first | (apply brI <;> intro hb hb2 <;> (try simp [-Int.not_le, -Int.not_lt, -Nat.not_le, -Nat.not_lt, -Nat.add_left_cancel_iff] at hb2)) | (refine draw_listA (by rfl) (by kernel_rfl) ?_) | (refine draw_listB (by simp [allocsOf, isAlloc]; rfl) (by kernel_rfl) ?_) | simp (maxSteps := 2000000) (disch := first | omega | assumption | simp [*]) [*, -Int.not_le, -Int.not_lt, -Nat.not_le, -Nat.not_lt, -Nat.add_left_cancel_iff, wrap_i64, wrap_u64, h2, h4, h6, h8, e2, e4, e6, isI_cells hv, isI_one hv, isI_low hv, isI_len hv])
          exact hXH0
        · have hnx1 : ∀ (K : AV → Prop) (tg : Tg K), CW env 11 [.int .i64 N, bufLC 0 2 (rAV A.r ++ [.agg [.int .i64 A.a, .int .i64 b]]), .int .i64 A.a] K tg ↔ K (.tup [.int .i64 m, .bool true]) := fun K tg => callsTo_iff (by
            have := sNextModel_c (n := (N : Int)) (x := (A.a : Int)) (rAV_C (r := A.r ++ [(A.a, b)]) (by rw [List.length_append, List.length_singleton]; omega))
            rw [nxf_spec hnx, rAV_app] at this; exact this)
          have hbai : ¬ ((A.a : Int) = (b : Int)) := by omega
          rw [hsucc, hst]
          clear hsucc hst hnx hK hb hXH0
          obtain ⟨kq', hkq', hQ', hko⟩ := bufL_site 93 hQ
          repeat' (first | (apply brI <;> intro hb hb2 <;> (try simp [-Int.not_le, -Int.not_lt, -Nat.not_le, -Nat.not_lt, -Nat.add_left_cancel_iff] at hb2)) | (refine draw_listA (by rfl) (by kernel_rfl) ?_) | (refine draw_listB (by simp [allocsOf, isAlloc]; rfl) (by kernel_rfl) ?_) | simp (maxSteps := 2000000) (disch := first | omega | assumption | simp [*]) [*, -Int.not_le, -Int.not_lt, -Nat.not_le, -Nat.not_lt, -Nat.add_left_cancel_iff, wrap_i64, wrap_u64, h2, h4, h6, h8, e2, e4, e6, isI_cells hv, isI_one hv, isI_low hv, isI_len hv])
          refine wa_pushL hQ' (by simp) (by simp) (by decide) ⟨rfl, rfl⟩ hko (by simp [qAV]; omega) fun q1 m1 hQ1 hk1 => ?_
          have u2 := (hk1 2 (by omega)).trans e2
          have u4 := (hk1 4 (by omega)).trans e4
          have u6 := (hk1 6 (by omega)).trans e6
          have hR1 := hR.keep (hk1 101 (by omega))
          have hX1 := hX.keep (hk1 kx (by omega))
          have oq1 := hQ1.one
          have cq1 := hQ1.cells
          clear hk1 hQ hQ' hR hX hko e2 e4 e6 oq cq lq
          repeat' (first | (apply brI <;> intro hb hb2 <;> (try simp [-Int.not_le, -Int.not_lt, -Nat.not_le, -Nat.not_lt, -Nat.add_left_cancel_iff] at hb2)) | (refine draw_listA (by rfl) (by kernel_rfl) ?_) | (refine draw_listB (by simp [allocsOf, isAlloc]; rfl) (by kernel_rfl) ?_) | simp (maxSteps := 2000000) (disch := first | omega | assumption | simp [*]) [*, -Int.not_le, -Int.not_lt, -Nat.not_le, -Nat.not_lt, -Nat.add_left_cancel_iff, wrap_i64, wrap_u64, h2, h4, h6, h8, u2, u4, u6, isI_cells hv, isI_one hv, isI_low hv, isI_len hv])
          refine wa_pushL (hR1.keep (hset_other _ _ (by decide))) (by simp) (by simp) (by decide) ⟨rfl, rfl⟩ (fun _ => rfl) (by simp [rAV]; omega) fun r2 m2 hR2 hk2 => ?_
          have w2 := (hk2 2 (by decide)).trans ((hset_other _ _ (by decide)).trans u2)
          have w4 := (hk2 4 (by decide)).trans ((hset_other _ _ (by decide)).trans u4)
          have w6 := (hk2 6 (by decide)).trans (hset_same ..)
          have hQ2 := hQ1.keep ((hk2 kq' (by omega)).trans (hset_other _ _ (by omega)))
          have hX2 := hX1.keep ((hk2 kx (by omega)).trans (hset_other _ _ (by omega)))
          have or2 := hR2.one
          have cr2 := hR2.cells
          have lr2 := hR2.low
          clear hk2 hQ1 hR1 hX1 u2 u4 u6 or' cr lr
          repeat' (first | (apply brI <;> intro hb hb2 <;> (try simp [-Int.not_le, -Int.not_lt, -Nat.not_le, -Nat.not_lt, -Nat.add_left_cancel_iff] at hb2)) | (refine draw_listA (by rfl) (by kernel_rfl) ?_) | (refine draw_listB (by simp [allocsOf, isAlloc]; rfl) (by kernel_rfl) ?_) | simp (maxSteps := 2000000) (disch := first | omega | assumption | simp [*]) [*, -Int.not_le, -Int.not_lt, -Nat.not_le, -Nat.not_lt, -Nat.add_left_cancel_iff, wrap_i64, wrap_u64, h2, h4, h6, h8, w2, w4, w6, isI_cells hv, isI_one hv, isI_low hv, isI_len hv])
          refine ⟨q1, r2, xv, kq', kx, by omega, hkx, (hset_other _ _ (by decide)).trans w2, (hset_other _ _ (by decide)).trans w4, hset_same .., ?_, ?_, ?_⟩
          · show BufL _ _ _ _ _ _ (qAV (A.q ++ [_]))
            rw [qAV_app]; exact hQ2.keep (hset_other _ _ (by omega))
          · show BufL _ _ _ _ _ _ (rAV (A.r ++ [_]))
            rw [rAV_app]; exact hR2.keep (hset_other _ _ (by omega))
          · show Buf _ _ _ _ _ (rowsE _ A.ks)
            rw [hXX]; exact hX2.keep (hset_other _ _ (by omega))
        · have hbai : ¬ ((A.a : Int) = (b : Int)) := by omega
          rw [hsucc, hst]
          clear hsucc hst hK hb hXH0
          obtain ⟨kq', hkq', hQ', hko⟩ := bufL_site 69 hQ
          obtain ⟨kx', hkx', hX', hkox⟩ := buf_site 80 hX
          repeat' (first | (apply brI <;> intro hb hb2 <;> (try simp [-Int.not_le, -Int.not_lt, -Nat.not_le, -Nat.not_lt, -Nat.add_left_cancel_iff] at hb2)) | (refine draw_listA (by rfl) (by kernel_rfl) ?_) | (refine draw_listB (by simp [allocsOf, isAlloc]; rfl) (by kernel_rfl) ?_) | simp (maxSteps := 2000000) (disch := first | omega | assumption | simp [*]) [*, -Int.not_le, -Int.not_lt, -Nat.not_le, -Nat.not_lt, -Nat.add_left_cancel_iff, wrap_i64, wrap_u64, h2, h4, h6, h8, e2, e4, e6, isI_cells hv, isI_one hv, isI_low hv, isI_len hv])
          refine wa_pushL hQ' (by simp) (by simp) (by decide) ⟨rfl, rfl⟩ hko (by simp [qAV]; omega) fun q1 m1 hQ1 hk1 => ?_
          have u2 := (hk1 2 (by omega)).trans e2
          have u4 := (hk1 4 (by omega)).trans e4
          have u6 := (hk1 6 (by omega)).trans e6
          have hR1 := hR.keep (hk1 101 (by omega))
          have hX1 := hX'.keep (hk1 kx' (by omega))
          have oq1 := hQ1.one
          have cq1 := hQ1.cells
          clear hk1 hQ hQ' hR hX hX' hko e2 e4 e6 oq cq lq
          repeat' (first | (apply brI <;> intro hb hb2 <;> (try simp [-Int.not_le, -Int.not_lt, -Nat.not_le, -Nat.not_lt, -Nat.add_left_cancel_iff] at hb2)) | (refine draw_listA (by rfl) (by kernel_rfl) ?_) | (refine draw_listB (by simp [allocsOf, isAlloc]; rfl) (by kernel_rfl) ?_) | simp (maxSteps := 2000000) (disch := first | omega | assumption | simp [*]) [*, -Int.not_le, -Int.not_lt, -Nat.not_le, -Nat.not_lt, -Nat.add_left_cancel_iff, wrap_i64, wrap_u64, h2, h4, h6, h8, u2, u4, u6, isI_cells hv, isI_one hv, isI_low hv, isI_len hv, isI_index hv, isI_load hv])
          refine wa_push' (hX1.keep (hset_other _ _ (by omega))) (by simp) (by simp) hkox (by omega) fun x2 m2 hX2 hk2 => ?_
          have w2 := (hk2 2 (by omega)).trans ((hset_other _ _ (by decide)).trans u2)
          have w4 := (hk2 4 (by omega)).trans ((hset_other _ _ (by decide)).trans u4)
          have w6 := (hk2 6 (by omega)).trans (hset_same ..)
          have hQ2 := hQ1.keep ((hk2 kq' (by omega)).trans (hset_other _ _ (by omega)))
          have hR2 := hR1.keep ((hk2 101 (by omega)).trans (hset_other _ _ (by omega)))
          have ox2 := hX2.one
          have cx2 := hX2.cells
          clear hk2 hQ1 hR1 hX1 u2 u4 u6 ox cx lx
          repeat' (first | (apply brI <;> intro hb hb2 <;> (try simp [-Int.not_le, -Int.not_lt, -Nat.not_le, -Nat.not_lt, -Nat.add_left_cancel_iff] at hb2)) | (refine draw_listA (by rfl) (by kernel_rfl) ?_) | (refine draw_listB (by simp [allocsOf, isAlloc]; rfl) (by kernel_rfl) ?_) | simp (maxSteps := 2000000) (disch := first | omega | assumption | simp [*]) [*, -Int.not_le, -Int.not_lt, -Nat.not_le, -Nat.not_lt, -Nat.add_left_cancel_iff, wrap_i64, wrap_u64, h2, h4, h6, h8, w2, w4, w6, isI_cells hv, isI_one hv, isI_low hv, isI_len hv])
          refine ⟨q1, rv, x2, kq', kx', by omega, by omega, (hset_other _ _ (by decide)).trans w2, (hset_other _ _ (by decide)).trans w4, hset_same .., ?_, ?_, ?_⟩
          · show BufL _ _ _ _ _ _ (qAV (A.q ++ [_]))
            rw [qAV_app]; exact hQ2.keep (hset_other _ _ (by omega))
          · exact hR2.keep (hset_other _ _ (by omega))
          · show Buf _ _ _ _ _ (rowsE _ (A.ks ++ [_]))
            rw [rowsE_app, hXX]; exact hX2.keep (hset_other _ _ (by omega))
      · obtain rfl : i = T := by omega
        have haf : (A.a : Int) = (full : Int) := by rw [← hA, hTf2]
        have hend : ∀ h', (∀ x, x ≠ 4 → h' x = h x) → noEx (expo h' qv) = bufLC 0 4 (qAV A.q) ∧ noEx (expo h' rv) = bufLC 0 2 (rAV A.r) ∧ noEx (expo h' xv) = bufC 0 (rowsE (xsOf v) A.ks) := fun h' e => by
          rw [(hQ.keep (e _ (by omega))).expo, (hR.keep (e _ (by omega))).expo, (hX.keep (e _ (by omega))).expo]
          simp
        rw [hA]
        clear hTI2 hTn2 hTf2 hS hA hTni hki hnd hks hQ hR hX hXH0
        repeat' (first | (apply brI <;> intro hb hb2 <;> (try simp [-Int.not_le, -Int.not_lt, -Nat.not_le, -Nat.not_lt, -Nat.add_left_cancel_iff] at hb2)) | (refine draw_listA (by rfl) (by kernel_rfl) ?_) | (refine draw_listB (by simp [allocsOf, isAlloc]; rfl) (by kernel_rfl) ?_) | simp (maxSteps := 2000000) (disch := first | omega | assumption | simp [*]) [*, -Int.not_le, -Int.not_lt, -Nat.not_le, -Nat.not_lt, -Nat.add_left_cancel_iff, wrap_i64, wrap_u64, h2, h4, h6, h8, e2, e4, e6, isI_cells hv, isI_one hv, isI_low hv, isI_len hv])
        exact hend _ fun x hx => hset_other _ _ hx
  · have hval := exV_no hK
    have hd : decide (KnoC n (xsOf v) (xsOf k)) = false := decide_eq_false hK
    rw [hval, hd]
    clear hval hK
    repeat' (first | (apply brI <;> intro hb hb2 <;> (try simp [-Int.not_le, -Int.not_lt, -Nat.not_le, -Nat.not_lt, -Nat.add_left_cancel_iff] at hb2)) | (refine draw_listA (by rfl) (by kernel_rfl) ?_) | (refine draw_listB (by simp [allocsOf, isAlloc]; rfl) (by kernel_rfl) ?_) | simp (maxSteps := 2000000) (disch := first | omega | assumption | simp [*]) [*, -Int.not_le, -Int.not_lt, -Nat.not_le, -Nat.not_lt, -Nat.add_left_cancel_iff, wrap_i64, wrap_u64, Tryz.f8, isI_cells hv, isI_one hv, isI_low hv, isI_len hv, isI_low hk, isI_len hk])
    all_goals (try simp [noEx, noExs])
end Go.Proofs.YtlglhokpaplifaaGreatDoor
