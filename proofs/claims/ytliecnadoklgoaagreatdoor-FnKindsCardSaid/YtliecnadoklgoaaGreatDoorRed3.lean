/- XRed3 XRed4, joined. Conditions: none. -/
import Derived.Test.YtliecnadoklgoaaGreatDoorRedB
/- What the reference clarifies and reduces. Conditions: none. -/
namespace Go.Proofs.YtliecnadoklgoaaGreatDoor
open Ev
set_option linter.unusedVariables false
set_option linter.unusedSimpArgs false
set_option maxHeartbeats 4000000

theorem or_same (a b : Nat) : (a ||| b) ||| b = a ||| b := by rw [Nat.or_assoc, Nat.or_self]
/-- whether a column is told before, up to j -/
def toldB (xs : List Int) (m j : Nat) : Bool := (List.range j).any fun n => decide (Col xs n = Col xs m)
theorem toldB_succ (xs : List Int) (m j : Nat) : toldB xs m (j + 1) = (toldB xs m j || decide (Col xs j = Col xs m)) := by
  unfold toldB; rw [List.range_succ, List.any_append]; simp
def goneTo (xs : List Int) (i : Nat) : Int := setOf (fun m => toldB xs m m) i
def goneIn (xs : List Int) (i j : Nat) : Int := if toldB xs i j = true then (((goneTo xs i).toNat ||| 2 ^ i : Nat) : Int) else goneTo xs i
theorem goneIn_zero (xs : List Int) (i : Nat) : goneIn xs i 0 = goneTo xs i := by unfold goneIn toldB; simp
theorem goneIn_end (xs : List Int) (i : Nat) : goneIn xs i i = goneTo xs (i + 1) := by
  unfold goneIn goneTo
  split
  · rename_i h; exact setOf_or _ _ h
  · rename_i h; exact setOf_skip _ _ (by simpa using h)
theorem goneIn_no {xs : List Int} {i j : Nat} (h : Col xs j ≠ Col xs i) : goneIn xs i (j + 1) = goneIn xs i j := by
  unfold goneIn; rw [toldB_succ]; simp [h]
theorem goneIn_yes {xs : List Int} {i j : Nat} (h : Col xs j = Col xs i) : (((goneIn xs i j).toNat ||| 2 ^ i : Nat) : Int) = goneIn xs i (j + 1) := by
  unfold goneIn; rw [toldB_succ]
  cases hb : toldB xs i j with
  | true => simp only [if_true, Bool.true_or, Int.toNat_natCast]; rw [or_same]
  | false => simp [h]
theorem goneTo_range {xs : List Int} {i : Nat} (h : i ≤ 8) : 0 ≤ goneTo xs i ∧ goneTo xs i < 256 := ⟨(setOf_range _ _).1, setOf_small _ h⟩
theorem goneIn_range {xs : List Int} {i j : Nat} (h : i < 8) : 0 ≤ goneIn xs i j ∧ goneIn xs i j < 256 := by
  have h1 := setOf_range (fun m => toldB xs m m) i
  have h2 := goneTo_range (xs := xs) (i := i) (by omega)
  unfold goneIn
  split
  · refine ⟨by omega, ?_⟩
    have a : (goneTo xs i).toNat < 2 ^ 8 := by omega
    have b : 2 ^ i < 2 ^ 8 := Nat.pow_lt_pow_right (by decide) h
    have := Nat.or_lt_two_pow a b
    omega
  · exact h2
def ClSt (h : Heap) (N : Int) (v : AV) (xs : List Int) (i : Nat) (a4 : AV) : Prop := ∃ (u : AV), a4 = .vp 4 0 0 ∧ h 4 = some (.var 0 26 (.agg [.int .i64 N, u])) ∧ Buf h 3 42 0 u (dedR xs i) ∧ h 1 = some (.var 0 26 (.agg [.int .i64 N, v])) ∧ h 2 = some (.var 0 26 (.agg [.int .i64 0, .sl 0 .lit []]))
theorem sClarify_t {N : Nat} {v : AV} (hv : IsI v) (hp : PCtx N (xsOf v)) : CallsTo env 107 [.agg [.int .i64 N, v]] (fun r => DoR (clN (xsOf v) N) (clR (xsOf v) N) r) := by
  refine callsTo_mk (F := Tryz.f107) rfl rfl (Nat.le_of_ble_eq_true rfl) ?_
  have hvl := hv.len
  have h8 : (xsOf v).length ≤ 8 := hp.2.2.1
  have hN6 : (N : Int) ≤ 6 := hp.2.1
  repeat' (first | (apply brI <;> intro hb hb2 <;> (try simp [-Int.not_le, -Int.not_lt, -Nat.not_le, -Nat.not_lt, -Nat.add_left_cancel_iff] at hb2)) | (refine draw_listA (by rfl) (by kernel_rfl) ?_) | (refine draw_listB (by simp [allocsOf, isAlloc]; rfl) (by kernel_rfl) ?_) | simp (maxSteps := 2000000) (disch := first | omega | assumption | simp [*]) [*, -Int.not_le, -Int.not_lt, -Nat.not_le, -Nat.not_lt, -Nat.add_left_cancel_iff, wrap_i64, wrap_u64, Tryz.f107, isI_cells hv, isI_one hv, isI_low hv, isI_len hv])
  refine W_loopG (xsOf v).length (fun i s h' => ClSt h' N v (xsOf v) i (s 4) ∧ s 5 = .int .i64 i ∧ s 1 = .vp 1 0 0 ∧ s 2 = .vp 2 0 0) ?_ ?_
  · refine ⟨⟨.sl 0 .lit [], by simp [*, nextG, hset, hnil], by simp [hset, hnil, nextG], buf_nil .., by simp [hset, hnil], by simp [hset, hnil]⟩, ?_⟩
    simp [*]
  rintro i s h2 hi ⟨⟨u, h4, e4, hB, e1, e2⟩, h5, h1, hs2⟩
  have ou := hB.one
  have cu := hB.cells
  have hul := hB.low
  have hdl := dedR_len (xsOf v) i
  have hI : IsI (bufC 0 (dedR (xsOf v) i)) := isI_bufC (by unfold top63; omega)
  by_cases hi2 : i < (xsOf v).length
  · have hin : ∀ (K : AV → Prop) (tg : Tg K), CW env 199 [bufC 0 (dedR (xsOf v) i), .int .i64 (nth (xsOf v) i)] K tg ↔ K (.bool (inB (dedR (xsOf v) i) (nth (xsOf v) i))) := fun K tg => callsTo_iff (by simpa using l2In_c (x := nth (xsOf v) i) hI)
    cases hb : inB (dedR (xsOf v) i) (nth (xsOf v) i) with
    | true =>
      have hst : ClSt h2 N v (xsOf v) (i + 1) (.vp 4 0 0) := ⟨u, rfl, e4, by unfold dedR; rw [if_pos hb]; exact hB, e1, e2⟩
      clear hB e2
      repeat' (first | (apply brI <;> intro hb hb2 <;> (try simp [-Int.not_le, -Int.not_lt, -Nat.not_le, -Nat.not_lt, -Nat.add_left_cancel_iff] at hb2)) | (refine draw_listA (by rfl) (by kernel_rfl) ?_) | (refine draw_listB (by simp [allocsOf, isAlloc]; rfl) (by kernel_rfl) ?_) | simp (maxSteps := 2000000) (disch := first | omega | assumption | simp [*]) [*, -Int.not_le, -Int.not_lt, -Nat.not_le, -Nat.not_lt, -Nat.add_left_cancel_iff, wrap_i64, wrap_u64, h4, e4, h5, h1, hs2, e1, hul, isI_cells hv, isI_one hv, isI_low hv, isI_len hv, isI_index hv, isI_load hv])
    | false =>
      repeat' (first | (apply brI <;> intro hb hb2 <;> (try simp [-Int.not_le, -Int.not_lt, -Nat.not_le, -Nat.not_lt, -Nat.add_left_cancel_iff] at hb2)) | (refine draw_listA (by rfl) (by kernel_rfl) ?_) | (refine draw_listB (by simp [allocsOf, isAlloc]; rfl) (by kernel_rfl) ?_) | simp (maxSteps := 2000000) (disch := first | omega | assumption | simp [*]) [*, -Int.not_le, -Int.not_lt, -Nat.not_le, -Nat.not_lt, -Nat.add_left_cancel_iff, wrap_i64, wrap_u64, h4, e4, h5, h1, hs2, e1, hul, isI_cells hv, isI_one hv, isI_low hv, isI_len hv, isI_index hv, isI_load hv])
      refine wa_push hB (by simp) (by simp) (by omega) ?_
      intro u6 hA hB6 hk6
      have o6 := hB6.one
      have c6 := hB6.cells
      have e64 := (hk6 4 (by omega)).trans e4
      have e61 := (hk6 1 (by omega)).trans e1
      have e62 := (hk6 2 (by omega)).trans e2
      have hend : ∀ h', h' 4 = some (.var 0 26 (.agg [.int .i64 N, u6])) → (∀ y, y ≠ 4 → h' y = hA y) → ClSt h' N v (xsOf v) (i + 1) (.vp 4 0 0) := fun h' a1 a2 => ⟨u6, rfl, a1, by unfold dedR; rw [if_neg (by rw [hb]; simp)]; exact hB6.keep (a2 _ (by omega)), (a2 _ (by omega)).trans e61, (a2 _ (by omega)).trans e62⟩
      clear hk6 e4 e1 e2 hB hB6
      repeat' (first | (apply brI <;> intro hb hb2 <;> (try simp [-Int.not_le, -Int.not_lt, -Nat.not_le, -Nat.not_lt, -Nat.add_left_cancel_iff] at hb2)) | (refine draw_listA (by rfl) (by kernel_rfl) ?_) | (refine draw_listB (by simp [allocsOf, isAlloc]; rfl) (by kernel_rfl) ?_) | simp (maxSteps := 2000000) (disch := first | omega | assumption | simp [*]) [*, -Int.not_le, -Int.not_lt, -Nat.not_le, -Nat.not_lt, -Nat.add_left_cancel_iff, wrap_i64, wrap_u64, h4, e64, h5, h1, e61, hs2])
      all_goals first | exact hend _ (hset_same ..) fun y hy => hset_other _ _ hy | skip
  · obtain rfl : i = (xsOf v).length := by omega
    obtain ⟨X, hX⟩ : ∃ X, dedR (xsOf v) (xsOf v).length = X := ⟨_, rfl⟩
    have hcX : PCtx N X := by rw [← hX]; exact clX_ctx hp
    have hres1 : clN (xsOf v) N = (elemsTo (keepC X N) 8).length := by rw [← hX]; rfl
    have hres2 : clR (xsOf v) N = packR X (keepC X N) X.length := by rw [← hX]; rfl
    rw [hX] at hB hul hdl hI
    have hcc : ∀ (k : Nat) (K : AV → Prop) (tg : Tg K), k < N → (CW env 200 [.agg [.int .i64 N, bufC 0 X], .int .i64 k] K tg ↔ K (.int .i64 (Col X k))) := fun k K tg hk => callsTo_iff (by simpa using l3Column_c (m := k) hI (by simpa using hcX) hk)
    repeat' (first | (apply brI <;> intro hb hb2 <;> (try simp [-Int.not_le, -Int.not_lt, -Nat.not_le, -Nat.not_lt, -Nat.add_left_cancel_iff] at hb2)) | (refine draw_listA (by rfl) (by kernel_rfl) ?_) | (refine draw_listB (by simp [allocsOf, isAlloc]; rfl) (by kernel_rfl) ?_) | simp (maxSteps := 2000000) (disch := first | omega | assumption | simp [*]) [*, -Int.not_le, -Int.not_lt, -Nat.not_le, -Nat.not_lt, -Nat.add_left_cancel_iff, wrap_i64, wrap_u64, h4, e4, h5, h1, hs2, e1, e2, isI_len hv])
    refine W_loopP N (fun i s => s 7 = .int .i64 i ∧ s 6 = .int .i64 (goneTo X i) ∧ s 4 = .vp 4 0 0 ∧ s 2 = .vp 2 0 0) rfl ?_ ?_
    · simp [*, goneTo, setOf]
    rintro m s3 hm ⟨g7, g6, g4, g2⟩
    by_cases hm2 : m < N
    · have hcm := fun K tg => hcc m K tg hm2
      have hgr := goneTo_range (xs := X) (i := m) (by omega)
      repeat' (first | (apply brI <;> intro hb hb2 <;> (try simp [-Int.not_le, -Int.not_lt, -Nat.not_le, -Nat.not_lt, -Nat.add_left_cancel_iff] at hb2)) | (refine draw_listA (by rfl) (by kernel_rfl) ?_) | (refine draw_listB (by simp [allocsOf, isAlloc]; rfl) (by kernel_rfl) ?_) | simp (maxSteps := 2000000) (disch := first | omega | assumption | simp [*]) [*, -Int.not_le, -Int.not_lt, -Nat.not_le, -Nat.not_lt, -Nat.add_left_cancel_iff, wrap_i64, wrap_u64, g7, g6, g4, g2, e4, hul])
      refine W_loopP m (fun j s => s 8 = .int .i64 j ∧ s 7 = .int .i64 m ∧ s 6 = .int .i64 (goneIn X m j) ∧ s 4 = .vp 4 0 0 ∧ s 2 = .vp 2 0 0) rfl ?_ ?_
      · simp [*, goneIn_zero]
      rintro j s4 hj ⟨k8, k7, k6, k4, k2⟩
      have hgi := goneIn_range (xs := X) (i := m) (j := j) (by omega)
      by_cases hj2 : j < m
      · have hcj := fun K tg => hcc j K tg (by omega)
        have hpw := pow_small (i := m) (by omega)
        clear hcc
        by_cases he : Col X j = Col X m
        · have hy := goneIn_yes he
          repeat' (first | (apply brI <;> intro hb hb2 <;> (try simp [-Int.not_le, -Int.not_lt, -Nat.not_le, -Nat.not_lt, -Nat.add_left_cancel_iff] at hb2)) | (refine draw_listA (by rfl) (by kernel_rfl) ?_) | (refine draw_listB (by simp [allocsOf, isAlloc]; rfl) (by kernel_rfl) ?_) | simp (maxSteps := 2000000) (disch := first | omega | assumption | simp [*]) [*, -Int.not_le, -Int.not_lt, -Nat.not_le, -Nat.not_lt, -Nat.add_left_cancel_iff, wrap_i64, wrap_u64, k8, k7, k6, k4, k2, e4, hul, bits_or, pow_toNat])
        · have hn := goneIn_no he
          repeat' (first | (apply brI <;> intro hb hb2 <;> (try simp [-Int.not_le, -Int.not_lt, -Nat.not_le, -Nat.not_lt, -Nat.add_left_cancel_iff] at hb2)) | (refine draw_listA (by rfl) (by kernel_rfl) ?_) | (refine draw_listB (by simp [allocsOf, isAlloc]; rfl) (by kernel_rfl) ?_) | simp (maxSteps := 2000000) (disch := first | omega | assumption | simp [*]) [*, -Int.not_le, -Int.not_lt, -Nat.not_le, -Nat.not_lt, -Nat.add_left_cancel_iff, wrap_i64, wrap_u64, k8, k7, k6, k4, k2, e4, hul])
      · obtain rfl : j = m := by omega
        have hge := goneIn_end X j
        clear hcc
        repeat' (first | (apply brI <;> intro hb hb2 <;> (try simp [-Int.not_le, -Int.not_lt, -Nat.not_le, -Nat.not_lt, -Nat.add_left_cancel_iff] at hb2)) | (refine draw_listA (by rfl) (by kernel_rfl) ?_) | (refine draw_listB (by simp [allocsOf, isAlloc]; rfl) (by kernel_rfl) ?_) | simp (maxSteps := 2000000) (disch := first | omega | assumption | simp [*]) [*, -Int.not_le, -Int.not_lt, -Nat.not_le, -Nat.not_lt, -Nat.add_left_cancel_iff, wrap_i64, wrap_u64, k8, k7, k6, k4, k2, e4, hul])
    · obtain rfl : m = N := by omega
      have hda := sDropAttributes_t (N := m) (o := goneTo X m) hI (by simpa using hcX) (by unfold goneTo; exact setOf_pset _ (by omega))
      have hkk : (2 : Int) ^ m - 1 - goneTo X m = keepC X m := rfl
      rw [hkk] at hda
      simp only [xsOf_bufC] at hda
      clear hcc
      repeat' (first | (apply brI <;> intro hb hb2 <;> (try simp [-Int.not_le, -Int.not_lt, -Nat.not_le, -Nat.not_lt, -Nat.add_left_cancel_iff] at hb2)) | (refine draw_listA (by rfl) (by kernel_rfl) ?_) | (refine draw_listB (by simp [allocsOf, isAlloc]; rfl) (by kernel_rfl) ?_) | simp (maxSteps := 2000000) (disch := first | omega | assumption | simp [*]) [*, -Int.not_le, -Int.not_lt, -Nat.not_le, -Nat.not_lt, -Nat.add_left_cancel_iff, wrap_i64, wrap_u64, g7, g6, g4, g2, e4, hul])
      refine cw_to hda ?_
      intro r hr
      unfold DoR at hr
      have hrl : (packR X (keepC X m) X.length).length ≤ 8 := by rw [packR_len]; exact hcX.2.2.1
      have hIr : IsI (bufC 0 (packR X (keepC X m) X.length)) := isI_bufC (by unfold top63; omega)
      have o9 := isI_one hIr
      have c9 := isI_cells hIr
      rw [hres1, hres2]
      have hend : ∀ h', DoR ((elemsTo (keepC X m) 8).length : Nat) (packR X (keepC X m) X.length) (.tup [.agg [.int .i64 ((elemsTo (keepC X m) 8).length : Nat), expo h' (bufC 0 (packR X (keepC X m) X.length))], .bool true]) := fun h' => by unfold DoR; simp [noEx, noExs]
      generalize bufC 0 (packR X (keepC X m) X.length) = W at *
      repeat' (first | (apply brI <;> intro hb hb2 <;> (try simp [-Int.not_le, -Int.not_lt, -Nat.not_le, -Nat.not_lt, -Nat.add_left_cancel_iff] at hb2)) | (refine draw_listA (by rfl) (by kernel_rfl) ?_) | (refine draw_listB (by simp [allocsOf, isAlloc]; rfl) (by kernel_rfl) ?_) | simp (maxSteps := 2000000) (disch := first | omega | assumption | simp [*]) [*, -Int.not_le, -Int.not_lt, -Nat.not_le, -Nat.not_lt, -Nat.add_left_cancel_iff, wrap_i64, wrap_u64, hr, g4, g2, e2])
      all_goals first | exact hend _ | skip
end Go.Proofs.YtliecnadoklgoaaGreatDoor
/- What the reference reduces. Conditions: none. -/
namespace Go.Proofs.YtliecnadoklgoaaGreatDoor
open Ev
set_option linter.unusedVariables false
set_option linter.unusedSimpArgs false
set_option maxHeartbeats 4000000

theorem sReduceContext_t {N : Nat} {v : AV} (hv : IsI v) (hp : PCtx N (xsOf v)) : CallsTo env 28 [.agg [.int .i64 N, v]] (fun r => DoR (rdN (xsOf v) N) (rdR (xsOf v) N) r) := by
  refine callsTo_mk (F := Tryz.f28) rfl rfl (Nat.le_of_ble_eq_true rfl) ?_
  repeat' (first | (apply brI <;> intro hb hb2 <;> (try simp [-Int.not_le, -Int.not_lt, -Nat.not_le, -Nat.not_lt, -Nat.add_left_cancel_iff] at hb2)) | (refine draw_listA (by rfl) (by kernel_rfl) ?_) | (refine draw_listB (by simp [allocsOf, isAlloc]; rfl) (by kernel_rfl) ?_) | simp (maxSteps := 2000000) (disch := first | omega | assumption | simp [*]) [*, -Int.not_le, -Int.not_lt, -Nat.not_le, -Nat.not_lt, -Nat.add_left_cancel_iff, wrap_i64, wrap_u64, Tryz.f28, isI_cells hv, isI_one hv, isI_low hv, isI_len hv])
  refine cw_to (sClarify_t hv hp) ?_
  intro r hr
  unfold DoR at hr
  have hcY := clR_ctx hp
  have hcZ := rdZ_ctx hp
  have hd2 : rdZ (xsOf v) N = stayR (clR (xsOf v) N) (goO (clR (xsOf v) N) (clN (xsOf v) N)) (clR (xsOf v) N).length := rfl
  have hd3 : rdN (xsOf v) N = (elemsTo (2 ^ (clN (xsOf v) N) - 1 - goA (rdZ (xsOf v) N) (clN (xsOf v) N)) 8).length := rfl
  have hd4 : rdR (xsOf v) N = packR (rdZ (xsOf v) N) (2 ^ (clN (xsOf v) N) - 1 - goA (rdZ (xsOf v) N) (clN (xsOf v) N)) (rdZ (xsOf v) N).length := rfl
  rw [hd3, hd4]
  clear hd3 hd4
  obtain ⟨Z, hZ⟩ : ∃ Z, rdZ (xsOf v) N = Z := ⟨_, rfl⟩
  obtain ⟨Y, hY⟩ : ∃ Y, clR (xsOf v) N = Y := ⟨_, rfl⟩
  obtain ⟨M, hM⟩ : ∃ M, clN (xsOf v) N = M := ⟨_, rfl⟩
  rw [hZ, hY, hM] at hd2
  rw [hY, hM] at hcY hr
  rw [hZ, hM] at hcZ
  rw [hZ, hM]
  clear hZ hY hM
  have hM6 : (M : Int) ≤ 6 := hcY.2.1
  have hYl := hcY.2.2.1
  have hZl := hcZ.2.2.1
  have hIy : IsI (bufC 0 Y) := isI_bufC (by unfold top63; omega)
  have hIz : IsI (bufC 0 Z) := isI_bufC (by unfold top63; omega)
  have oy := isI_one hIy
  have cy := isI_cells hIy
  have oz := isI_one hIz
  have cz := isI_cells hIz
  have hro : ∀ (g : Nat) (K : AV → Prop) (tg : Tg K), g < Y.length → (CW env 108 [.agg [.int .i64 M, bufC 0 Y], .int .i64 g] K tg ↔ K (.bool (decide (upO Y M g Y.length = nth Y g)))) := fun g K tg hg => callsTo_iff (by simpa using sIsReducibleObject_c (g := g) hIy (by simpa using hcY) (by simpa using hg))
  have hra : ∀ (m : Nat) (K : AV → Prop) (tg : Tg K), m < M → (CW env 110 [.agg [.int .i64 M, bufC 0 Z], .int .i64 m] K tg ↔ K (.bool (decide (upC Z m M = Col Z m)))) := fun m K tg hm => callsTo_iff (by simpa using sIsReducibleAttribute_c (m := m) hIz (by simpa using hcZ) hm)
  have hdo := sDropObjects_t (n := (M : Int)) (o := goO Y M) hIy (by simpa using hcY) (by rw [xsOf_bufC]; exact setOf_pset _ hYl)
  have hda := sDropAttributes_t (N := M) (o := goA Z M) hIz (by simpa using hcZ) (setOf_pset _ (by omega))
  simp only [xsOf_bufC] at hdo hda
  rw [← hd2] at hdo
  have hly : ∀ {E : Env} {t : Nat}, slT E t = true → lenV E t (bufC 0 Y) = some (.int .i64 Y.length) := fun ht => by simpa using isI_len hIy ht
  have hloy := fun h => isI_low hIy h
  have hloz := fun h => isI_low hIz h
  clear hcY hcZ hd2 hIy hIz
  obtain ⟨WY, hWY⟩ : ∃ W, bufC 0 Y = W := ⟨_, rfl⟩
  obtain ⟨WZ, hWZ⟩ : ∃ W, bufC 0 Z = W := ⟨_, rfl⟩
  rw [hWY] at hr oy cy hdo hly hloy
  simp only [hWY] at hro
  rw [hWZ] at oz cz hda hloz
  simp only [hWZ] at hra
  repeat' (first | (apply brI <;> intro hb hb2 <;> (try simp [-Int.not_le, -Int.not_lt, -Nat.not_le, -Nat.not_lt, -Nat.add_left_cancel_iff] at hb2)) | (refine draw_listA (by rfl) (by kernel_rfl) ?_) | (refine draw_listB (by simp [allocsOf, isAlloc]; rfl) (by kernel_rfl) ?_) | simp (maxSteps := 2000000) (disch := first | omega | assumption | simp [*]) [*, -Int.not_le, -Int.not_lt, -Nat.not_le, -Nat.not_lt, -Nat.add_left_cancel_iff, wrap_i64, wrap_u64, hr, hly, hloy])
  refine W_loopP Y.length (fun i s => s 7 = .int .i64 i ∧ s 6 = .int .i64 (setOf (fun g => decide (upO Y M g Y.length = nth Y g)) i) ∧ s 4 = .vp 4 0 0 ∧ s 2 = .vp 2 0 0) rfl ?_ ?_
  · simp [*, setOf]
  rintro i s hi ⟨h7, h6, h4, h2⟩
  by_cases hi2 : i < Y.length
  · have hri := fun K tg => hro i K tg hi2
    have r2 := setOf_range (fun g => decide (upO Y M g Y.length = nth Y g)) i
    have r3 := setOf_small (fun g => decide (upO Y M g Y.length = nth Y g)) (n := i) (by omega)
    have hpw := pow_small (i := i) (by omega)
    clear hro hra hdo hda
    by_cases hc : upO Y M i Y.length = nth Y i
    · have hy := setOf_or (fun g => decide (upO Y M g Y.length = nth Y g)) i (by simpa using hc)
      repeat' (first | (apply brI <;> intro hb hb2 <;> (try simp [-Int.not_le, -Int.not_lt, -Nat.not_le, -Nat.not_lt, -Nat.add_left_cancel_iff] at hb2)) | (refine draw_listA (by rfl) (by kernel_rfl) ?_) | (refine draw_listB (by simp [allocsOf, isAlloc]; rfl) (by kernel_rfl) ?_) | simp (maxSteps := 2000000) (disch := first | omega | assumption | simp [*]) [*, -Int.not_le, -Int.not_lt, -Nat.not_le, -Nat.not_lt, -Nat.add_left_cancel_iff, wrap_i64, wrap_u64, h7, h6, h4, h2, hly, hloy, bits_or, pow_toNat])
    · have hy := setOf_skip (fun g => decide (upO Y M g Y.length = nth Y g)) i (by simpa using hc)
      repeat' (first | (apply brI <;> intro hb hb2 <;> (try simp [-Int.not_le, -Int.not_lt, -Nat.not_le, -Nat.not_lt, -Nat.add_left_cancel_iff] at hb2)) | (refine draw_listA (by rfl) (by kernel_rfl) ?_) | (refine draw_listB (by simp [allocsOf, isAlloc]; rfl) (by kernel_rfl) ?_) | simp (maxSteps := 2000000) (disch := first | omega | assumption | simp [*]) [*, -Int.not_le, -Int.not_lt, -Nat.not_le, -Nat.not_lt, -Nat.add_left_cancel_iff, wrap_i64, wrap_u64, h7, h6, h4, h2, hly, hloy])
  · obtain rfl : i = Y.length := by omega
    clear hro
    have hgo : setOf (fun g => decide (upO Y M g Y.length = nth Y g)) Y.length = goO Y M := rfl
    rw [hgo] at h6
    repeat' (first | (apply brI <;> intro hb hb2 <;> (try simp [-Int.not_le, -Int.not_lt, -Nat.not_le, -Nat.not_lt, -Nat.add_left_cancel_iff] at hb2)) | (refine draw_listA (by rfl) (by kernel_rfl) ?_) | (refine draw_listB (by simp [allocsOf, isAlloc]; rfl) (by kernel_rfl) ?_) | simp (maxSteps := 2000000) (disch := first | omega | assumption | simp [*]) [*, -Int.not_le, -Int.not_lt, -Nat.not_le, -Nat.not_lt, -Nat.add_left_cancel_iff, wrap_i64, wrap_u64, h7, h6, h4, h2, hly, hloy])
    refine cw_to hdo ?_
    intro r2 hr2
    unfold DoR at hr2
    rw [hWZ] at hr2
    clear hdo
    repeat' (first | (apply brI <;> intro hb hb2 <;> (try simp [-Int.not_le, -Int.not_lt, -Nat.not_le, -Nat.not_lt, -Nat.add_left_cancel_iff] at hb2)) | (refine draw_listA (by rfl) (by kernel_rfl) ?_) | (refine draw_listB (by simp [allocsOf, isAlloc]; rfl) (by kernel_rfl) ?_) | simp (maxSteps := 2000000) (disch := first | omega | assumption | simp [*]) [*, -Int.not_le, -Int.not_lt, -Nat.not_le, -Nat.not_lt, -Nat.add_left_cancel_iff, wrap_i64, wrap_u64, hr2, h2, hloz])
    refine W_loopP M (fun i s => s 10 = .int .i64 i ∧ s 6 = .int .i64 (setOf (fun m => decide (upC Z m M = Col Z m)) i) ∧ s 8 = .vp 8 0 0 ∧ s 2 = .vp 2 0 0) rfl ?_ ?_
    · simp [*, setOf]
    rintro m s3 hm ⟨g10, g6, g8, g2⟩
    by_cases hm2 : m < M
    · have hri := fun K tg => hra m K tg hm2
      have r2 := setOf_range (fun m => decide (upC Z m M = Col Z m)) m
      have r3 := setOf_small (fun m => decide (upC Z m M = Col Z m)) (n := m) (by omega)
      have hpw := pow_small (i := m) (by omega)
      clear hra hda
      by_cases hc : upC Z m M = Col Z m
      · have hy := setOf_or (fun m => decide (upC Z m M = Col Z m)) m (by simpa using hc)
        repeat' (first | (apply brI <;> intro hb hb2 <;> (try simp [-Int.not_le, -Int.not_lt, -Nat.not_le, -Nat.not_lt, -Nat.add_left_cancel_iff] at hb2)) | (refine draw_listA (by rfl) (by kernel_rfl) ?_) | (refine draw_listB (by simp [allocsOf, isAlloc]; rfl) (by kernel_rfl) ?_) | simp (maxSteps := 2000000) (disch := first | omega | assumption | simp [*]) [*, -Int.not_le, -Int.not_lt, -Nat.not_le, -Nat.not_lt, -Nat.add_left_cancel_iff, wrap_i64, wrap_u64, g10, g6, g8, g2, hloz, bits_or, pow_toNat])
      · have hy := setOf_skip (fun m => decide (upC Z m M = Col Z m)) m (by simpa using hc)
        repeat' (first | (apply brI <;> intro hb hb2 <;> (try simp [-Int.not_le, -Int.not_lt, -Nat.not_le, -Nat.not_lt, -Nat.add_left_cancel_iff] at hb2)) | (refine draw_listA (by rfl) (by kernel_rfl) ?_) | (refine draw_listB (by simp [allocsOf, isAlloc]; rfl) (by kernel_rfl) ?_) | simp (maxSteps := 2000000) (disch := first | omega | assumption | simp [*]) [*, -Int.not_le, -Int.not_lt, -Nat.not_le, -Nat.not_lt, -Nat.add_left_cancel_iff, wrap_i64, wrap_u64, g10, g6, g8, g2, hloz])
    · obtain rfl : m = M := by omega
      clear hra
      have hga : setOf (fun k => decide (upC Z k m = Col Z k)) m = goA Z m := rfl
      rw [hga] at g6
      repeat' (first | (apply brI <;> intro hb hb2 <;> (try simp [-Int.not_le, -Int.not_lt, -Nat.not_le, -Nat.not_lt, -Nat.add_left_cancel_iff] at hb2)) | (refine draw_listA (by rfl) (by kernel_rfl) ?_) | (refine draw_listB (by simp [allocsOf, isAlloc]; rfl) (by kernel_rfl) ?_) | simp (maxSteps := 2000000) (disch := first | omega | assumption | simp [*]) [*, -Int.not_le, -Int.not_lt, -Nat.not_le, -Nat.not_lt, -Nat.add_left_cancel_iff, wrap_i64, wrap_u64, g10, g6, g8, g2, hloz])
      refine cw_to hda ?_
      intro r3 hr3
      have hend : ∀ h', DoR ((elemsTo (2 ^ m - 1 - goA Z m) 8).length : Nat) (packR Z (2 ^ m - 1 - goA Z m) Z.length) (.tup [.agg [.int .i64 ((elemsTo (2 ^ m - 1 - goA Z m) 8).length : Nat), expo h' (bufC 0 (packR Z (2 ^ m - 1 - goA Z m) Z.length))], .bool true]) := fun h' => by unfold DoR; simp [noEx, noExs]
      unfold DoR at hr3
      have hIr : IsI (bufC 0 (packR Z (2 ^ m - 1 - goA Z m) Z.length)) := isI_bufC (by rw [packR_len]; unfold top63; omega)
      have o9 := isI_one hIr
      have c9 := isI_cells hIr
      clear hda hIr
      generalize bufC 0 (packR Z (2 ^ m - 1 - goA Z m) Z.length) = W at *
      repeat' (first | (apply brI <;> intro hb hb2 <;> (try simp [-Int.not_le, -Int.not_lt, -Nat.not_le, -Nat.not_lt, -Nat.add_left_cancel_iff] at hb2)) | (refine draw_listA (by rfl) (by kernel_rfl) ?_) | (refine draw_listB (by simp [allocsOf, isAlloc]; rfl) (by kernel_rfl) ?_) | simp (maxSteps := 2000000) (disch := first | omega | assumption | simp [*]) [*, -Int.not_le, -Int.not_lt, -Nat.not_le, -Nat.not_lt, -Nat.add_left_cancel_iff, wrap_i64, wrap_u64, hr3, g2])
      all_goals first | exact hend _ | skip
/-- reduced, where there is a context -/
def RdR (n : Int) (xs : List Int) (r : AV) : Prop := ∃ (m : Int) (rows : List Int) (ok : Bool), noEx r = .tup [.agg [.int .i64 m, bufC 0 rows], .bool ok] ∧ 0 ≤ m ∧ m ≤ 6 ∧ rows.length ≤ 8 ∧ (ok = true → PCtx n xs ∧ m = rdN xs n.toNat ∧ rows = rdR xs n.toNat)
theorem sClarifyNo_t {n : Int} {v : AV} (hv : IsI v) (hp : ¬ PCtx n (xsOf v)) : CallsTo env 107 [.agg [.int .i64 n, v]] (fun r => noEx r = .tup [.agg [.int .i64 0, .sl 0 .lit []], .bool false]) := by
  refine callsTo_mk (F := Tryz.f107) rfl rfl (Nat.le_of_ble_eq_true rfl) ?_
  repeat' (first | (apply brI <;> intro hb hb2 <;> (try simp [-Int.not_le, -Int.not_lt, -Nat.not_le, -Nat.not_lt, -Nat.add_left_cancel_iff] at hb2)) | (refine draw_listA (by rfl) (by kernel_rfl) ?_) | (refine draw_listB (by simp [allocsOf, isAlloc]; rfl) (by kernel_rfl) ?_) | simp (maxSteps := 2000000) (disch := first | omega | assumption | simp [*]) [*, -Int.not_le, -Int.not_lt, -Nat.not_le, -Nat.not_lt, -Nat.add_left_cancel_iff, wrap_i64, wrap_u64, Tryz.f107, isI_cells hv, isI_one hv, isI_low hv, isI_len hv])
theorem sReduceNo_t {n : Int} {v : AV} (hv : IsI v) (hp : ¬ PCtx n (xsOf v)) : CallsTo env 28 [.agg [.int .i64 n, v]] (fun r => RdR n (xsOf v) r) := by
  refine callsTo_mk (F := Tryz.f28) rfl rfl (Nat.le_of_ble_eq_true rfl) ?_
  have hend : RdR n (xsOf v) (.tup [.agg [.int .i64 0, .sl 0 .lit []], .bool false]) := ⟨0, [], false, by simp [noEx, noExs, bufC], by omega, by omega, by simp, fun h => by cases h⟩
  repeat' (first | (apply brI <;> intro hb hb2 <;> (try simp [-Int.not_le, -Int.not_lt, -Nat.not_le, -Nat.not_lt, -Nat.add_left_cancel_iff] at hb2)) | (refine draw_listA (by rfl) (by kernel_rfl) ?_) | (refine draw_listB (by simp [allocsOf, isAlloc]; rfl) (by kernel_rfl) ?_) | simp (maxSteps := 2000000) (disch := first | omega | assumption | simp [*]) [*, -Int.not_le, -Int.not_lt, -Nat.not_le, -Nat.not_lt, -Nat.add_left_cancel_iff, wrap_i64, wrap_u64, Tryz.f28, isI_cells hv, isI_one hv, isI_low hv, isI_len hv])
  refine cw_to (sClarifyNo_t hv hp) ?_
  intro r hr
  repeat' (first | (apply brI <;> intro hb hb2 <;> (try simp [-Int.not_le, -Int.not_lt, -Nat.not_le, -Nat.not_lt, -Nat.add_left_cancel_iff] at hb2)) | (refine draw_listA (by rfl) (by kernel_rfl) ?_) | (refine draw_listB (by simp [allocsOf, isAlloc]; rfl) (by kernel_rfl) ?_) | simp (maxSteps := 2000000) (disch := first | omega | assumption | simp [*]) [*, -Int.not_le, -Int.not_lt, -Nat.not_le, -Nat.not_lt, -Nat.add_left_cancel_iff, wrap_i64, wrap_u64, hr])
theorem rd_small {N : Nat} {xs : List Int} (hc : PCtx N xs) : rdN xs N ≤ 6 ∧ (rdR xs N).length ≤ 8 := by
  have hcY := clR_ctx hc
  have hcZ := rdZ_ctx hc
  have h6 := hcY.2.1
  refine ⟨?_, by unfold rdR; rw [packR_len]; exact hcZ.2.2.1⟩
  unfold rdN rdKp goA
  rw [elems_not (by omega)]
  exact Nat.le_trans (List.length_filter_le ..) (by simp; omega)
theorem sReduce_c {n : Int} {v : AV} (hv : IsI v) : CallsTo env 28 [.agg [.int .i64 n, v]] (RdR n (xsOf v)) := by
  by_cases hp : PCtx n (xsOf v)
  · obtain ⟨N, rfl⟩ : ∃ N : Nat, n = N := ⟨n.toNat, by have := hp.1; omega⟩
    obtain ⟨r, h1, h2⟩ := sReduceContext_t hv hp
    obtain ⟨h3, h4⟩ := rd_small hp
    exact ⟨r, h1, _, _, true, h2, by omega, by omega, h4, fun _ => ⟨hp, by simp, by simp⟩⟩
  · exact sReduceNo_t hv hp
end Go.Proofs.YtliecnadoklgoaaGreatDoor
