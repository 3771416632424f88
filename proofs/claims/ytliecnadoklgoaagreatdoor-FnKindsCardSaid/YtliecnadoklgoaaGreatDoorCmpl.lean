/- Complements: both sides, and the law of IsComplemented. Conditions: none. -/
import Derived.Test.YtliecnadoklgoaaGreatDoorLatP
namespace Go.Proofs.YtliecnadoklgoaaGreatDoor
open Ev
set_option linter.unusedVariables false
set_option linter.unusedSimpArgs false
set_option maxHeartbeats 4000000

/-- two concepts that are complements -/
def compB (N : Nat) (xs F S : List Int) (a b : Nat) : Bool := decide (andI (nth S a) (nth S b) = nth S 0) && decide (IntS xs N (andI (nth F a) (nth F b)) = 2 ^ N - 1)
noncomputable def cmplL (n : Int) (xs : List Int) (a : Int) : List Int := if PCtx n xs ∧ 0 ≤ a ∧ a < (conL n xs).length then selTo (compB n.toNat xs (fsts (conW n xs)) (snds (conW n xs)) a.toNat) (conL n xs).length else []
theorem cmplL_len (n : Int) (xs : List Int) (a : Int) : (cmplL n xs a).length ≤ 64 := by
  unfold cmplL; split
  · exact Nat.le_trans (selTo_len _ _) (conL_len _ _)
  · simp
theorem l6Exists_c {v : AV} {a : Int} (hP : IsP v) : EvC env 103 [v, .int .i64 a] (.bool (decide (0 ≤ a) && decide (a ≤ ((fsts v).length : Int) - 1))) := by
  refine evC_of (F := Tryz.f103) rfl rfl (Nat.le_of_ble_eq_true rfl) ?_
  have := hP.len
  unfold top63 at this
  repeat' (first | (apply brI <;> intro hb hb2 <;> (try simp [-Int.not_le, -Int.not_lt, -Nat.not_le, -Nat.not_lt, -Nat.add_left_cancel_iff] at hb2)) | (refine draw_listA (by rfl) (by kernel_rfl) ?_) | (refine draw_listB (by simp [allocsOf, isAlloc]; rfl) (by kernel_rfl) ?_) | simp (maxSteps := 2000000) (disch := first | omega | assumption | simp [*]) [*, -Int.not_le, -Int.not_lt, -Nat.not_le, -Nat.not_lt, -Nat.add_left_cancel_iff, wrap_i64, wrap_u64, Tryz.f103, isP_len hP])
theorem l6Exists_s {v : AV} {a : Int} (hP : IsP v) {K : AV → Prop} {tg : Tg K} : CW env 103 [v, .int .i64 a] K tg ↔ K (.bool (decide (0 ≤ a) && decide (a ≤ ((fsts v).length : Int) - 1))) := callsTo_iff (l6Exists_c hP)
attribute [simp] l6Exists_s
theorem sComplementsOf_c {n a : Int} {v : AV} (hv : IsI v) : EvC env 24 [.agg [.int .i64 n, v], .int .i64 a] (bufR 3 60 1 (cmplL n (xsOf v) a)) := by
  refine evC_of (F := Tryz.f24) rfl rfl (Nat.le_of_ble_eq_true rfl) ?_
  have hP := conW_P n (xsOf v)
  have hw := sCon_noEx n (xsOf v) 101
  have hfl := conW_len n (xsOf v)
  have hL := conL_len n (xsOf v)
  by_cases hc : PCtx n (xsOf v)
  · obtain ⟨N, rfl⟩ : ∃ N : Nat, n = N := ⟨n.toNat, by have := hc.1; omega⟩
    by_cases ha : 0 ≤ a ∧ a < (conL N (xsOf v)).length
    · obtain ⟨A, rfl⟩ : ∃ A : Nat, a = A := ⟨a.toNat, by omega⟩
      have hn := hc.2.1
      have hN8 : N ≤ 8 := by omega
      have hN8' : (N : Int) ≤ 8 := by omega
      have hV : cmplL N (xsOf v) A = selTo (compB N (xsOf v) (fsts (conW N (xsOf v))) (snds (conW N (xsOf v))) A) (conL N (xsOf v)).length := by unfold cmplL; rw [if_pos ⟨hc, ha⟩]; rfl
      rw [hV]
      have hF := sets_F N (xsOf v)
      have hS := sets_S N (xsOf v)
      have hlens := hP.lens
      have hpl : ∀ k, k < (fsts (conW N (xsOf v))).length → PSet (xsOf v).length (nth (fsts (conW N (xsOf v))) k) = true := fun k hk => by
        rw [nthF (by omega)]; exact ext_pset _ _ hc.2.2.1
      obtain ⟨p, hpe⟩ : ∃ p, p = compB N (xsOf v) (fsts (conW N (xsOf v))) (snds (conW N (xsOf v))) A := ⟨_, rfl⟩
      rw [← hpe]
      rw [hfl] at hpl
      have hA : A < (conL N (xsOf v)).length := by omega
      have hA9 : (A : Int) ≤ ((conL N (xsOf v)).length : Int) - 1 := by omega
      clear ha hV
      generalize conW N (xsOf v) = w at *
      generalize (conL N (xsOf v)).length = len at *
      have fA := hF A (by omega)
      have sA := hS A (by omega)
      have s0 := hS 0 (by omega)
      have pA := hpl A hA
      have hll : (snds w).length = len := by omega
      clear hlens
      repeat' (first | (apply brI <;> intro hb hb2 <;> (try simp [-Int.not_le, -Int.not_lt, -Nat.not_le, -Nat.not_lt, -Nat.add_left_cancel_iff] at hb2)) | (refine draw_listA (by rfl) (by kernel_rfl) ?_) | (refine draw_listB (by simp [allocsOf, isAlloc]; rfl) (by kernel_rfl) ?_) | simp (maxSteps := 2000000) (disch := first | omega | assumption | simp [*]) [*, -Int.not_le, -Int.not_lt, -Nat.not_le, -Nat.not_lt, -Nat.add_left_cancel_iff, wrap_i64, wrap_u64, Tryz.f24, isI_cells hv, isI_one hv, isI_low hv, isI_len hv, isP_len hP])
      refine W_loopG len (fun i s h => s 7 = .int .i64 i ∧ s 6 = w ∧ s 1 = .int .i64 A ∧ s 2 = .vp 2 0 0 ∧ h 2 = some (.var 0 26 (.agg [.int .i64 N, v])) ∧ Buf h 3 60 1 (s 5) (selTo p i)) ?_ ?_
      · simp [*, selTo]
        exact buf_nil ..
      rintro i s h hi ⟨h7, h6, h1, h2, e2, hB⟩
      have hsl := selTo_len p i
      by_cases hi2 : i < len
      · have fi := hF i (by omega)
        have si := hS i (by omega)
        have pi := hpl i hi2
        have pE := andI_pset pA pi
        have hsu := selTo_succ p i
        have hpp : p i = (decide (andI (nth (snds w) A) (nth (snds w) i) = nth (snds w) 0) && decide (IntS (xsOf v) N (andI (nth (fsts w) A) (nth (fsts w) i)) = 2 ^ N - 1)) := by rw [hpe]; rfl
        have hE : (((nth (fsts w) A).toNat &&& (nth (fsts w) i).toNat : Nat) : Int) = andI (nth (fsts w) A) (nth (fsts w) i) := rfl
        have hG : (((nth (snds w) A).toNat &&& (nth (snds w) i).toNat : Nat) : Int) = andI (nth (snds w) A) (nth (snds w) i) := rfl
        generalize andI (nth (fsts w) A) (nth (fsts w) i) = E at *
        generalize andI (nth (snds w) A) (nth (snds w) i) = G at *
        clear hF hS hpl hpe
        by_cases hj : G = nth (snds w) 0
        · by_cases hm : IntS (xsOf v) N E = 2 ^ N - 1
          · have hpi : p i = true := by rw [hpp]; simp [hj, hm]
            rw [hpi] at hsu
            simp only [if_true] at hsu
            clear hpp hpi
            repeat' (first | (apply brI <;> intro hb hb2 <;> (try simp [-Int.not_le, -Int.not_lt, -Nat.not_le, -Nat.not_lt, -Nat.add_left_cancel_iff] at hb2)) | (refine draw_listA (by rfl) (by kernel_rfl) ?_) | (refine draw_listB (by simp [allocsOf, isAlloc]; rfl) (by kernel_rfl) ?_) | simp (maxSteps := 2000000) (disch := first | omega | assumption | simp [*]) [*, -Int.not_le, -Int.not_lt, -Nat.not_le, -Nat.not_lt, -Nat.add_left_cancel_iff, wrap_i64, wrap_u64, h7, h6, h1, h2, e2, bits_and, isI_cells hv, isI_one hv, isI_low hv, isI_len hv, isP_len hP, isP_index hP, isP_low hP, isP_noKey hP])
            refine wa_push hB (by simp) (by simp) (by omega) ?_
            intro v2 h2' hB2 hk2
            have e22 := (hk2 2 (by omega)).trans e2
            rw [← hsu] at hB2
            clear hsu hk2
            repeat' (first | (apply brI <;> intro hb hb2 <;> (try simp [-Int.not_le, -Int.not_lt, -Nat.not_le, -Nat.not_lt, -Nat.add_left_cancel_iff] at hb2)) | (refine draw_listA (by rfl) (by kernel_rfl) ?_) | (refine draw_listB (by simp [allocsOf, isAlloc]; rfl) (by kernel_rfl) ?_) | simp (maxSteps := 2000000) (disch := first | omega | assumption | simp [*]) [*, -Int.not_le, -Int.not_lt, -Nat.not_le, -Nat.not_lt, -Nat.add_left_cancel_iff, wrap_i64, wrap_u64, h7, h6, h1, h2, e22])
            exact hB2
          · have hpi : p i = false := by rw [hpp]; simp [hj, hm]
            rw [hpi] at hsu
            simp only [Bool.false_eq_true, if_false, List.append_nil] at hsu
            rw [← hsu] at hB
            clear hpp hpi hsu
            repeat' (first | (apply brI <;> intro hb hb2 <;> (try simp [-Int.not_le, -Int.not_lt, -Nat.not_le, -Nat.not_lt, -Nat.add_left_cancel_iff] at hb2)) | (refine draw_listA (by rfl) (by kernel_rfl) ?_) | (refine draw_listB (by simp [allocsOf, isAlloc]; rfl) (by kernel_rfl) ?_) | simp (maxSteps := 2000000) (disch := first | omega | assumption | simp [*]) [*, -Int.not_le, -Int.not_lt, -Nat.not_le, -Nat.not_lt, -Nat.add_left_cancel_iff, wrap_i64, wrap_u64, h7, h6, h1, h2, e2, bits_and, isI_cells hv, isI_one hv, isI_low hv, isI_len hv, isP_len hP, isP_index hP, isP_low hP, isP_noKey hP])
        · have hpi : p i = false := by rw [hpp]; simp [hj]
          rw [hpi] at hsu
          simp only [Bool.false_eq_true, if_false, List.append_nil] at hsu
          rw [← hsu] at hB
          clear hpp hpi hsu
          repeat' (first | (apply brI <;> intro hb hb2 <;> (try simp [-Int.not_le, -Int.not_lt, -Nat.not_le, -Nat.not_lt, -Nat.add_left_cancel_iff] at hb2)) | (refine draw_listA (by rfl) (by kernel_rfl) ?_) | (refine draw_listB (by simp [allocsOf, isAlloc]; rfl) (by kernel_rfl) ?_) | simp (maxSteps := 2000000) (disch := first | omega | assumption | simp [*]) [*, -Int.not_le, -Int.not_lt, -Nat.not_le, -Nat.not_lt, -Nat.add_left_cancel_iff, wrap_i64, wrap_u64, h7, h6, h1, h2, e2, bits_and, isI_cells hv, isI_one hv, isI_low hv, isI_len hv, isP_len hP, isP_index hP, isP_low hP, isP_noKey hP])
      · obtain rfl : i = len := by omega
        repeat' (first | (apply brI <;> intro hb hb2 <;> (try simp [-Int.not_le, -Int.not_lt, -Nat.not_le, -Nat.not_lt, -Nat.add_left_cancel_iff] at hb2)) | (refine draw_listA (by rfl) (by kernel_rfl) ?_) | (refine draw_listB (by simp [allocsOf, isAlloc]; rfl) (by kernel_rfl) ?_) | simp (maxSteps := 2000000) (disch := first | omega | assumption | simp [*]) [*, -Int.not_le, -Int.not_lt, -Nat.not_le, -Nat.not_lt, -Nat.add_left_cancel_iff, wrap_i64, wrap_u64, h7, h6, h1, h2, e2, isP_len hP, isP_low hP])
        rw [← hpe]; exact hB.expo
    · have hV : cmplL N (xsOf v) a = [] := by unfold cmplL; rw [if_neg fun h => ha h.2]
      rw [hV]
      have hgd : (decide (0 ≤ a) && decide (a ≤ ((conL N (xsOf v)).length : Int) - 1)) = false := by
        rw [Bool.eq_false_iff]; intro h; simp only [Bool.and_eq_true, decide_eq_true_eq] at h; exact ha ⟨h.1, by omega⟩
      have hpos := con_pos hc
      generalize conW N (xsOf v) = w at *
      generalize (conL N (xsOf v)).length = len at *
      clear ha hV
      repeat' (first | (apply brI <;> intro hb hb2 <;> (try simp [-Int.not_le, -Int.not_lt, -Nat.not_le, -Nat.not_lt, -Nat.add_left_cancel_iff] at hb2)) | (refine draw_listA (by rfl) (by kernel_rfl) ?_) | (refine draw_listB (by simp [allocsOf, isAlloc]; rfl) (by kernel_rfl) ?_) | simp (maxSteps := 2000000) (disch := first | omega | assumption | simp [*]) [*, -Int.not_le, -Int.not_lt, -Nat.not_le, -Nat.not_lt, -Nat.add_left_cancel_iff, wrap_i64, wrap_u64, Tryz.f24, isI_cells hv, isI_one hv, isI_low hv, isI_len hv, isP_len hP])
      refine W_loopG 0 (fun i s h => s 7 = .int .i64 0 ∧ s 6 = w ∧ s 1 = .int .i64 a ∧ s 2 = .vp 2 0 0 ∧ s 5 = .sl 1 .lit []) ?_ ?_
      · simp [*]
      rintro i s h hi ⟨h7, h6, h1, h2, h5⟩
      repeat' (first | (apply brI <;> intro hb hb2 <;> (try simp [-Int.not_le, -Int.not_lt, -Nat.not_le, -Nat.not_lt, -Nat.add_left_cancel_iff] at hb2)) | (refine draw_listA (by rfl) (by kernel_rfl) ?_) | (refine draw_listB (by simp [allocsOf, isAlloc]; rfl) (by kernel_rfl) ?_) | simp (maxSteps := 2000000) (disch := first | omega | assumption | simp [*]) [*, -Int.not_le, -Int.not_lt, -Nat.not_le, -Nat.not_lt, -Nat.add_left_cancel_iff, wrap_i64, wrap_u64, h7, h6, h1, h2, h5, isP_len hP, isP_low hP])
  · have hV : cmplL n (xsOf v) a = [] := by unfold cmplL; rw [if_neg fun h => hc h.1]
    have hl0 : (conL n (xsOf v)).length = 0 := by simp [conL, hc]
    rw [hl0] at hfl
    rw [hV]
    generalize conW n (xsOf v) = w at *
    clear hV hl0 hL
    repeat' (first | (apply brI <;> intro hb hb2 <;> (try simp [-Int.not_le, -Int.not_lt, -Nat.not_le, -Nat.not_lt, -Nat.add_left_cancel_iff] at hb2)) | (refine draw_listA (by rfl) (by kernel_rfl) ?_) | (refine draw_listB (by simp [allocsOf, isAlloc]; rfl) (by kernel_rfl) ?_) | simp (maxSteps := 2000000) (disch := first | omega | assumption | simp [*]) [*, -Int.not_le, -Int.not_lt, -Nat.not_le, -Nat.not_lt, -Nat.add_left_cancel_iff, wrap_i64, wrap_u64, Tryz.f24, isI_cells hv, isI_one hv, isI_low hv, isI_len hv, isP_len hP])
    refine W_loopG 0 (fun i s h => s 7 = .int .i64 0 ∧ s 6 = w ∧ s 1 = .int .i64 a ∧ s 2 = .vp 2 0 0 ∧ s 5 = .sl 1 .lit []) ?_ ?_
    · simp [*]
    rintro i s h hi ⟨h7, h6, h1, h2, h5⟩
    repeat' (first | (apply brI <;> intro hb hb2 <;> (try simp [-Int.not_le, -Int.not_lt, -Nat.not_le, -Nat.not_lt, -Nat.add_left_cancel_iff] at hb2)) | (refine draw_listA (by rfl) (by kernel_rfl) ?_) | (refine draw_listB (by simp [allocsOf, isAlloc]; rfl) (by kernel_rfl) ?_) | simp (maxSteps := 2000000) (disch := first | omega | assumption | simp [*]) [*, -Int.not_le, -Int.not_lt, -Nat.not_le, -Nat.not_lt, -Nat.add_left_cancel_iff, wrap_i64, wrap_u64, h7, h6, h1, h2, h5, isP_len hP, isP_low hP])
theorem sComplementsOf_s {n a : Int} {v : AV} (hv : IsI v) {K : AV → Prop} {tg : Tg K} : CW env 24 [.agg [.int .i64 n, v], .int .i64 a] K tg ↔ K (bufR 3 60 1 (cmplL n (xsOf v) a)) := callsTo_iff (sComplementsOf_c hv)
attribute [simp] sComplementsOf_s
/-- .. as the program asks it -/
def compQ (F S : List Int) (len top : Int) (a b : Nat) : Bool := decide (idxP (exP (andI (nth F a) (nth F b))) F S = len - 1) && decide (idxP (inP (andI (nth S a) (nth S b))) F S = top)
theorem compQ_eq {N : Nat} {xs : List Int} (hc : PCtx N xs) {a b : Nat} (ha : a < (conL N xs).length) (hb : b < (conL N xs).length) :
    compQ (fsts (conW N xs)) (snds (conW N xs)) (conL N xs).length 0 a b = compB N xs (fsts (conW N xs)) (snds (conW N xs)) a b := by
  unfold compQ compB
  rw [Bool.and_comm, Bool.eq_iff_iff]
  simp only [Bool.and_eq_true, decide_eq_true_eq]
  rw [meet_last hc ha hb, join_first hc, eq_comm]
theorem selTo_congr {p q : Nat → Bool} {n : Nat} (h : ∀ i, i < n → p i = q i) : selTo p n = selTo q n := by
  induction n with
  | zero => rfl
  | succ n ih => rw [selTo_succ, selTo_succ, ih fun i hi => h i (by omega), h n (by omega)]
theorem compl1_c {x a : Nat} {top : Int} {v : AV} (hP : IsP v) (hl : (fsts v).length ≤ 64) (hx : x < (fsts v).length) (ha : a < (fsts v).length) (hF : SetsP (fsts v)) (hS : SetsP (snds v)) : EvC env 187 [.int .i64 x, .cp true [v] 0, .cp true [.int .i64 a] 0, .cp true [.int .i64 top] 0] (.bool (compQ (fsts v) (snds v) (fsts v).length top a x)) := by
  refine evC_of (F := Tryz.f187) rfl rfl (Nat.le_of_ble_eq_true rfl) ?_
  have hm : ∀ (K : AV → Prop) (tg : Tg K), CW env 188 [v, .int .i64 a, .int .i64 x] K tg ↔ K (.int .i64 (idxP (exP (andI (nth (fsts v) a) (nth (fsts v) x))) (fsts v) (snds v))) := fun K tg => callsTo_iff (meet_c hP ha hx hF)
  have hj : ∀ (K : AV → Prop) (tg : Tg K), CW env 189 [v, .int .i64 a, .int .i64 x] K tg ↔ K (.int .i64 (idxP (inP (andI (nth (snds v) a) (nth (snds v) x))) (fsts v) (snds v))) := fun K tg => callsTo_iff (join_c hP ha hx hS)
  clear hF hS
  repeat' (first | (apply brI <;> intro hb hb2 <;> (try simp [-Int.not_le, -Int.not_lt, -Nat.not_le, -Nat.not_lt, -Nat.add_left_cancel_iff] at hb2)) | (refine draw_listA (by rfl) (by kernel_rfl) ?_) | (refine draw_listB (by simp [allocsOf, isAlloc]; rfl) (by kernel_rfl) ?_) | simp (maxSteps := 2000000) (disch := first | omega | assumption | simp [*]) [*, -Int.not_le, -Int.not_lt, -Nat.not_le, -Nat.not_lt, -Nat.add_left_cancel_iff, wrap_i64, wrap_u64, Tryz.f187, isP_len hP, isP_low hP, isP_low0 hP, isP_cells hP, isP_one hP, isP_noKey hP])
  · simp [compQ, hb2]
  · simp [compQ, hb2]
theorem compl1_s {x a : Nat} {top : Int} {v : AV} (hP : IsP v) (hl : (fsts v).length ≤ 64) (hx : x < (fsts v).length) (ha : a < (fsts v).length) (hF : SetsP (fsts v)) (hS : SetsP (snds v)) {K : AV → Prop} {tg : Tg K} : CW env 187 [.int .i64 x, .cp true [v] 0, .cp true [.int .i64 a] 0, .cp true [.int .i64 top] 0] K tg ↔ K (.bool (compQ (fsts v) (snds v) (fsts v).length top a x)) := callsTo_iff (compl1_c hP hl hx ha hF hS)
attribute [simp] compl1_s
theorem complements_c {a : Nat} {top : Int} {v : AV} (hP : IsP v) (hl : (fsts v).length ≤ 64) (ha : a < (fsts v).length) (hF : SetsP (fsts v)) (hS : SetsP (snds v)) : EvC env 90 [v, .int .i64 a, .int .i64 top] (rowR 1 3 9 (ints (selTo (compQ (fsts v) (snds v) (fsts v).length top a) (fsts v).length))) := by
  refine evC_of (F := Tryz.f90) rfl rfl (Nat.le_of_ble_eq_true rfl) ?_
  have hcs : EvC env 94 [v, .fn 187 [.cp true [v] 0, .cp true [.int .i64 a] 0, .cp true [.int .i64 top] 0]] (bufR 3 19 1 (selTo (compQ (fsts v) (snds v) (fsts v).length top a) (fsts v).length)) :=
    chosen_c hP hl rfl rfl (fun h => by simp [isP_low hP, isP_low0 hP]) fun i hi => compl1_c hP hl hi ha hF hS
  clear hF hS
  repeat' (first | (apply brI <;> intro hb hb2 <;> (try simp [-Int.not_le, -Int.not_lt, -Nat.not_le, -Nat.not_lt, -Nat.add_left_cancel_iff] at hb2)) | (refine draw_listA (by rfl) (by kernel_rfl) ?_) | (refine draw_listB (by simp [allocsOf, isAlloc]; rfl) (by kernel_rfl) ?_) | simp (maxSteps := 2000000) (disch := first | omega | assumption | simp [*]) [*, -Int.not_le, -Int.not_lt, -Nat.not_le, -Nat.not_lt, -Nat.add_left_cancel_iff, wrap_i64, wrap_u64, Tryz.f90, isP_low hP, isP_low0 hP, isP_cells hP, isP_one hP, isP_noKey hP])
  refine cf_row (by simpa [isP_low hP, isP_low0 hP, isP_cells hP] using hcs) (ownR_buf ..) (by simp) rfl ?_
  intro v2 h2 hR hh
  have o2 := hR.one
  have c2 := hR.cells
  repeat' (first | (apply brI <;> intro hb hb2 <;> (try simp [-Int.not_le, -Int.not_lt, -Nat.not_le, -Nat.not_lt, -Nat.add_left_cancel_iff] at hb2)) | (refine draw_listA (by rfl) (by kernel_rfl) ?_) | (refine draw_listB (by simp [allocsOf, isAlloc]; rfl) (by kernel_rfl) ?_) | simp (maxSteps := 2000000) (disch := first | omega | assumption | simp [*]) [*, -Int.not_le, -Int.not_lt, -Nat.not_le, -Nat.not_lt, -Nat.add_left_cancel_iff, wrap_i64, wrap_u64])
  rw [← rowX_row]
  exact (hR.keep (by simp [hset])).expoI
theorem complements_s {a : Nat} {top : Int} {v : AV} (hP : IsP v) (hl : (fsts v).length ≤ 64) (ha : a < (fsts v).length) (hF : SetsP (fsts v)) (hS : SetsP (snds v)) {K : AV → Prop} {tg : Tg K} : CW env 90 [v, .int .i64 a, .int .i64 top] K tg ↔ K (rowR 1 3 9 (ints (selTo (compQ (fsts v) (snds v) (fsts v).length top a) (fsts v).length))) := callsTo_iff (complements_c hP hl ha hF hS)
attribute [simp] complements_s
/-- the program's answer: nothing at all where there is no such concept -/
noncomputable def cmplV (T : Nat) (n : Int) (xs : List Int) (a : Int) : AV := if PCtx n xs ∧ 0 ≤ a ∧ a < (conL n xs).length then rowR 1 T 16 (ints (cmplL n xs a)) else .sl 0 .lit []
noncomputable def cmplK (n : Int) (xs : List Int) (a : Int) : Nat := if PCtx n xs ∧ 0 ≤ a ∧ a < (conL n xs).length then 1 else 0
theorem cmplV_w (T : Nat) (n : Int) (xs : List Int) (a : Int) : IsI (noEx (cmplV T n xs a)) ∧ xsOf (noEx (cmplV T n xs a)) = cmplL n xs a := by
  unfold cmplV
  split
  · rw [rowR_noEx]
    exact ⟨isI_no (by have := cmplL_len n xs a; unfold top63; omega), by simp⟩
  · rename_i h
    rw [cmplL, if_neg h]
    exact ⟨by simp, by simp [xsOf]⟩
theorem cmplV_own (T : Nat) (n : Int) (xs : List Int) (a : Int) : OwnR (cmplV T n xs a) 1 (cmplK n xs a) T 16 (ints (cmplL n xs a)) := by
  unfold cmplV cmplK
  split
  · exact ownR_row ..
  · rename_i h
    rw [cmplL, if_neg h]
    exact ownR_nil ..
def CmpC (n : Int) (xs : List Int) : Prop := PCtx n xs ∧ ∀ a, a < (conL n xs).length → cmplL n xs a ≠ []
noncomputable instance (n : Int) (xs : List Int) : Decidable (CmpC n xs) := Classical.propDecidable _
theorem sIsComplemented_c {n : Int} {v : AV} (hv : IsI v) : EvC env 20 [.agg [.int .i64 n, v]] (.bool (decide (CmpC n (xsOf v)))) := by
  refine evC_of (F := Tryz.f20) rfl rfl (Nat.le_of_ble_eq_true rfl) ?_
  have hP := conW_P n (xsOf v)
  have hw := sCon_noEx n (xsOf v) 101
  have hfl := conW_len n (xsOf v)
  have hL := conL_len n (xsOf v)
  have hpos : 0 < (conL n (xsOf v)).length ↔ PCtx n (xsOf v) := by
    constructor
    · intro h
      by_cases hc : PCtx n (xsOf v)
      · exact hc
      · simp [conL, hc] at h
    · intro hc
      obtain ⟨N, rfl⟩ : ∃ N : Nat, n = N := ⟨n.toNat, by have := hc.1; omega⟩
      exact con_pos hc
  obtain ⟨len, hlen⟩ : ∃ len, (conL n (xsOf v)).length = len := ⟨_, rfl⟩
  have hC : CmpC n (xsOf v) ↔ PCtx n (xsOf v) ∧ ∀ a, a < len → cmplL n (xsOf v) a ≠ [] := by unfold CmpC; rw [hlen]
  rw [hlen] at hfl hL hpos
  clear hlen
  generalize conW n (xsOf v) = w at *
  repeat' (first | (apply brI <;> intro hb hb2 <;> (try simp [-Int.not_le, -Int.not_lt, -Nat.not_le, -Nat.not_lt, -Nat.add_left_cancel_iff] at hb2)) | (refine draw_listA (by rfl) (by kernel_rfl) ?_) | (refine draw_listB (by simp [allocsOf, isAlloc]; rfl) (by kernel_rfl) ?_) | simp (maxSteps := 2000000) (disch := first | omega | assumption | simp [*]) [*, -Int.not_le, -Int.not_lt, -Nat.not_le, -Nat.not_lt, -Nat.add_left_cancel_iff, wrap_i64, wrap_u64, Tryz.f20, isI_cells hv, isI_one hv, isI_low hv, isI_len hv, isP_len hP])
  refine W_loopG len (fun i s h => s 4 = .int .i64 i ∧ s 3 = .int .i64 len ∧ s 1 = .vp 1 0 0 ∧ h 1 = some (.var 0 26 (.agg [.int .i64 n, v])) ∧ ∀ a, a < i → cmplL n (xsOf v) a ≠ []) ?_ ?_
  · simp [*]
  rintro i s h hi ⟨h4, h3, h1, e1, hA⟩
  by_cases hi2 : i < len
  · have hI : IsI (bufC 1 (cmplL n (xsOf v) i)) := isI_bufC (by have := cmplL_len n (xsOf v) i; unfold top63; omega)
    have hle := cmplL_len n (xsOf v) i
    by_cases hne : cmplL n (xsOf v) i = []
    · have hno : ¬ CmpC n (xsOf v) := fun h9 => (hC.1 h9).2 i hi2 hne
      clear hA hC hpos
      repeat' (first | (apply brI <;> intro hb hb2 <;> (try simp [-Int.not_le, -Int.not_lt, -Nat.not_le, -Nat.not_lt, -Nat.add_left_cancel_iff] at hb2)) | (refine draw_listA (by rfl) (by kernel_rfl) ?_) | (refine draw_listB (by simp [allocsOf, isAlloc]; rfl) (by kernel_rfl) ?_) | simp (maxSteps := 2000000) (disch := first | omega | assumption | simp [*]) [*, -Int.not_le, -Int.not_lt, -Nat.not_le, -Nat.not_lt, -Nat.add_left_cancel_iff, wrap_i64, wrap_u64, h4, h3, h1, e1, isI_cells hv, isI_one hv, isI_low hv, isI_len hv, isI_len hI])
    · have hA2 : ∀ a, a < i + 1 → cmplL n (xsOf v) a ≠ [] := fun a ha => by
        by_cases e : a = i
        · subst e; exact hne
        · exact hA a (by omega)
      have hlp : ¬ ((cmplL n (xsOf v) i).length : Int) = 0 := fun e => hne (List.eq_nil_of_length_eq_zero (by omega))
      clear hA hC hpos hne
      repeat' (first | (apply brI <;> intro hb hb2 <;> (try simp [-Int.not_le, -Int.not_lt, -Nat.not_le, -Nat.not_lt, -Nat.add_left_cancel_iff] at hb2)) | (refine draw_listA (by rfl) (by kernel_rfl) ?_) | (refine draw_listB (by simp [allocsOf, isAlloc]; rfl) (by kernel_rfl) ?_) | simp (maxSteps := 2000000) (disch := first | omega | assumption | simp [*]) [*, -Int.not_le, -Int.not_lt, -Nat.not_le, -Nat.not_lt, -Nat.add_left_cancel_iff, wrap_i64, wrap_u64, h4, h3, h1, e1, isI_cells hv, isI_one hv, isI_low hv, isI_len hv, isI_len hI])
      exact hA2
  · obtain rfl : i = len := by omega
    have hcc : CmpC n (xsOf v) ↔ 0 < i := by rw [hC, hpos]; exact ⟨fun h9 => h9.1, fun h9 => ⟨h9, hA⟩⟩
    clear hA hC hpos
    repeat' (first | (apply brI <;> intro hb hb2 <;> (try simp [-Int.not_le, -Int.not_lt, -Nat.not_le, -Nat.not_lt, -Nat.add_left_cancel_iff] at hb2)) | (refine draw_listA (by rfl) (by kernel_rfl) ?_) | (refine draw_listB (by simp [allocsOf, isAlloc]; rfl) (by kernel_rfl) ?_) | simp (maxSteps := 2000000) (disch := first | omega | assumption | simp [*]) [*, -Int.not_le, -Int.not_lt, -Nat.not_le, -Nat.not_lt, -Nat.add_left_cancel_iff, wrap_i64, wrap_u64, h4, h3, h1, e1, isI_cells hv, isI_one hv, isI_low hv])
theorem sIsComplemented_s {n : Int} {v : AV} (hv : IsI v) {K : AV → Prop} {tg : Tg K} : CW env 20 [.agg [.int .i64 n, v]] K tg ↔ K (.bool (decide (CmpC n (xsOf v)))) := callsTo_iff (sIsComplemented_c hv)
attribute [simp] sIsComplemented_s
theorem compQ_sel {N : Nat} {xs : List Int} (hc : PCtx N xs) {a : Nat} (ha : a < (conL N xs).length) :
    selTo (compQ (fsts (conW N xs)) (snds (conW N xs)) (conL N xs).length 0 a) (conL N xs).length = cmplL N xs a := by
  unfold cmplL
  rw [if_pos ⟨hc, by omega, by omega⟩]
  exact selTo_congr fun i hi => compQ_eq hc ha hi
theorem iIsComplemented_c {n : Int} {v : AV} (hv : IsI v) : EvC env 12 [.agg [.int .i64 n, v]] (.bool (decide (CmpC n (xsOf v)))) := by
  refine evC_of (F := Tryz.f12) rfl rfl (Nat.le_of_ble_eq_true rfl) ?_
  have hP := conW2_P n (xsOf v)
  have hw := iCon_noEx n (xsOf v) 101
  have hfl := conW_len n (xsOf v)
  have hL := conL_len n (xsOf v)
  have hFs := sets_F n (xsOf v)
  have hSs := sets_S n (xsOf v)
  by_cases hc : PCtx n (xsOf v)
  · obtain ⟨N, rfl⟩ : ∃ N : Nat, n = N := ⟨n.toNat, by have := hc.1; omega⟩
    have htop := top_first hc
    have hsel := fun (a : Nat) (ha : a < (conL (N : Int) (xsOf v)).length) => compQ_sel hc ha
    obtain ⟨len, hlen⟩ : ∃ len, (conL (N : Int) (xsOf v)).length = len := ⟨_, rfl⟩
    have hC : CmpC N (xsOf v) ↔ ∀ a, a < len → cmplL N (xsOf v) a ≠ [] := by unfold CmpC; rw [hlen]; exact ⟨fun h9 => h9.2, fun h9 => ⟨hc, h9⟩⟩
    rw [hlen] at hfl hL
    simp only [hlen] at hsel
    have htop2 : ∀ (K : AV → Prop) (tg : Tg K), CW env 89 [.agg [.int .i64 N, v]] K tg ↔ K (.int .i64 0) := fun K tg => callsTo_iff (by
      have := iTopOf_c (n := N) hv
      rw [if_pos hc, htop] at this; exact this)
    rw [← conW2_fsts] at hfl hFs hsel
    rw [← conW2_snds] at hSs hsel
    clear hlen htop
    generalize conW2 N (xsOf v) = w at *
    have hcm : ∀ (a : Nat) (K : AV → Prop) (tg : Tg K), a < len → (CW env 90 [w, .int .i64 a, .int .i64 0] K tg ↔ K (rowR 1 3 9 (ints (cmplL N (xsOf v) a)))) := fun a K tg ha => callsTo_iff (by
      have := complements_c (top := 0) hP (by omega) (show a < (fsts w).length by omega) hFs hSs
      rw [hfl, hsel a ha] at this; exact this)
    clear hFs hSs hsel
    repeat' (first | (apply brI <;> intro hb hb2 <;> (try simp [-Int.not_le, -Int.not_lt, -Nat.not_le, -Nat.not_lt, -Nat.add_left_cancel_iff] at hb2)) | (refine draw_listA (by rfl) (by kernel_rfl) ?_) | (refine draw_listB (by simp [allocsOf, isAlloc]; rfl) (by kernel_rfl) ?_) | simp (maxSteps := 2000000) (disch := first | omega | assumption | simp [*]) [*, -Int.not_le, -Int.not_lt, -Nat.not_le, -Nat.not_lt, -Nat.add_left_cancel_iff, wrap_i64, wrap_u64, Tryz.f12, isI_cells hv, isI_one hv, isI_low hv, isI_len hv, isP_len hP])
    refine W_loopG len (fun i s h => s 12 = .int .i64 i ∧ s 11 = .int .i64 len ∧ s 3 = w ∧ s 4 = .int .i64 0 ∧ s 1 = .vp 1 0 0 ∧ h 1 = some (.var 0 26 (.agg [.int .i64 N, v])) ∧ ∀ a, a < i → cmplL N (xsOf v) a ≠ []) ?_ ?_
    · simp [*]
    rintro i s h hi ⟨h12, h11, h3, h4, h1, e1, hA⟩
    by_cases hi2 : i < len
    · have hle := cmplL_len N (xsOf v) i
      have hI : IsI (.sl 1 .no (ints (cmplL N (xsOf v) i))) := isI_no (by unfold top63; omega)
      by_cases hne : cmplL N (xsOf v) i = []
      · have hno : ¬ CmpC N (xsOf v) := fun h9 => hC.1 h9 i hi2 hne
        clear hA hC
        repeat' (first | (apply brI <;> intro hb hb2 <;> (try simp [-Int.not_le, -Int.not_lt, -Nat.not_le, -Nat.not_lt, -Nat.add_left_cancel_iff] at hb2)) | (refine draw_listA (by rfl) (by kernel_rfl) ?_) | (refine draw_listB (by simp [allocsOf, isAlloc]; rfl) (by kernel_rfl) ?_) | simp (maxSteps := 2000000) (disch := first | omega | assumption | simp [*]) [*, -Int.not_le, -Int.not_lt, -Nat.not_le, -Nat.not_lt, -Nat.add_left_cancel_iff, wrap_i64, wrap_u64, h12, h11, h3, h4, h1, e1, isI_cells hv, isI_one hv, isI_low hv, isI_len hI, isP_low hP])
      · have hA2 : ∀ a, a < i + 1 → cmplL N (xsOf v) a ≠ [] := fun a ha => by
          by_cases e : a = i
          · subst e; exact hne
          · exact hA a (by omega)
        have hlp : ¬ ((cmplL N (xsOf v) i).length : Int) = 0 := fun e => hne (List.eq_nil_of_length_eq_zero (by omega))
        clear hA hC hne
        repeat' (first | (apply brI <;> intro hb hb2 <;> (try simp [-Int.not_le, -Int.not_lt, -Nat.not_le, -Nat.not_lt, -Nat.add_left_cancel_iff] at hb2)) | (refine draw_listA (by rfl) (by kernel_rfl) ?_) | (refine draw_listB (by simp [allocsOf, isAlloc]; rfl) (by kernel_rfl) ?_) | simp (maxSteps := 2000000) (disch := first | omega | assumption | simp [*]) [*, -Int.not_le, -Int.not_lt, -Nat.not_le, -Nat.not_lt, -Nat.add_left_cancel_iff, wrap_i64, wrap_u64, h12, h11, h3, h4, h1, e1, isI_cells hv, isI_one hv, isI_low hv, isI_len hI, isP_low hP])
        exact hA2
    · obtain rfl : i = len := by omega
      have hcc : CmpC N (xsOf v) := hC.2 hA
      clear hA hC
      repeat' (first | (apply brI <;> intro hb hb2 <;> (try simp [-Int.not_le, -Int.not_lt, -Nat.not_le, -Nat.not_lt, -Nat.add_left_cancel_iff] at hb2)) | (refine draw_listA (by rfl) (by kernel_rfl) ?_) | (refine draw_listB (by simp [allocsOf, isAlloc]; rfl) (by kernel_rfl) ?_) | simp (maxSteps := 2000000) (disch := first | omega | assumption | simp [*]) [*, -Int.not_le, -Int.not_lt, -Nat.not_le, -Nat.not_lt, -Nat.add_left_cancel_iff, wrap_i64, wrap_u64, h12, h11, h3, h4, h1, e1, isI_cells hv, isI_one hv, isI_low hv])
  · have hno : ¬ CmpC n (xsOf v) := fun h => hc h.1
    have hl0 : (conL n (xsOf v)).length = 0 := by simp [conL, hc]
    rw [hl0, ← conW2_fsts] at hfl
    clear hL hFs hSs hl0
    generalize conW2 n (xsOf v) = w at *
    repeat' (first | (apply brI <;> intro hb hb2 <;> (try simp [-Int.not_le, -Int.not_lt, -Nat.not_le, -Nat.not_lt, -Nat.add_left_cancel_iff] at hb2)) | (refine draw_listA (by rfl) (by kernel_rfl) ?_) | (refine draw_listB (by simp [allocsOf, isAlloc]; rfl) (by kernel_rfl) ?_) | simp (maxSteps := 2000000) (disch := first | omega | assumption | simp [*]) [*, -Int.not_le, -Int.not_lt, -Nat.not_le, -Nat.not_lt, -Nat.add_left_cancel_iff, wrap_i64, wrap_u64, Tryz.f12, isI_cells hv, isI_one hv, isI_low hv, isI_len hv, isP_len hP])
    refine W_loopG 0 (fun i s h => s 12 = .int .i64 0 ∧ s 11 = .int .i64 0 ∧ s 1 = .vp 1 0 0 ∧ h 1 = some (.var 0 26 (.agg [.int .i64 n, v]))) ?_ ?_
    · simp [*]
    rintro i s h hi ⟨h12, h11, h1, e1⟩
    repeat' (first | (apply brI <;> intro hb hb2 <;> (try simp [-Int.not_le, -Int.not_lt, -Nat.not_le, -Nat.not_lt, -Nat.add_left_cancel_iff] at hb2)) | (refine draw_listA (by rfl) (by kernel_rfl) ?_) | (refine draw_listB (by simp [allocsOf, isAlloc]; rfl) (by kernel_rfl) ?_) | simp (maxSteps := 2000000) (disch := first | omega | assumption | simp [*]) [*, -Int.not_le, -Int.not_lt, -Nat.not_le, -Nat.not_lt, -Nat.add_left_cancel_iff, wrap_i64, wrap_u64, h12, h11, h1, e1, isI_cells hv, isI_one hv, isI_low hv])
theorem iIsComplemented_s {n : Int} {v : AV} (hv : IsI v) {K : AV → Prop} {tg : Tg K} : CW env 12 [.agg [.int .i64 n, v]] K tg ↔ K (.bool (decide (CmpC n (xsOf v)))) := callsTo_iff (iIsComplemented_c hv)
attribute [simp] iIsComplemented_s
theorem has_c {v : AV} {a : Int} (hP : IsP v) (hl : (fsts v).length ≤ 64) : EvC env 102 [v, .int .i64 a] (.bool (decide (0 ≤ a) && decide (a ≤ ((fsts v).length : Int) - 1))) := by
  refine evC_of (F := Tryz.f102) rfl rfl (Nat.le_of_ble_eq_true rfl) ?_
  repeat' (first | (apply brI <;> intro hb hb2 <;> (try simp [-Int.not_le, -Int.not_lt, -Nat.not_le, -Nat.not_lt, -Nat.add_left_cancel_iff] at hb2)) | (refine draw_listA (by rfl) (by kernel_rfl) ?_) | (refine draw_listB (by simp [allocsOf, isAlloc]; rfl) (by kernel_rfl) ?_) | simp (maxSteps := 2000000) (disch := first | omega | assumption | simp [*]) [*, -Int.not_le, -Int.not_lt, -Nat.not_le, -Nat.not_lt, -Nat.add_left_cancel_iff, wrap_i64, wrap_u64, Tryz.f102, isP_len hP])
theorem has_s {v : AV} {a : Int} (hP : IsP v) (hl : (fsts v).length ≤ 64) {K : AV → Prop} {tg : Tg K} : CW env 102 [v, .int .i64 a] K tg ↔ K (.bool (decide (0 ≤ a) && decide (a ≤ ((fsts v).length : Int) - 1))) := callsTo_iff (has_c hP hl)
attribute [simp] has_s
theorem iComplementsOf_c {n a : Int} {v : AV} (hv : IsI v) : EvC env 23 [.agg [.int .i64 n, v], .int .i64 a] (cmplV 3 n (xsOf v) a) := by
  refine evC_of (F := Tryz.f23) rfl rfl (Nat.le_of_ble_eq_true rfl) ?_
  have hP := conW2_P n (xsOf v)
  have hw := iCon_noEx n (xsOf v) 101
  have hfl := conW_len n (xsOf v)
  have hL := conL_len n (xsOf v)
  have hFs := sets_F n (xsOf v)
  have hSs := sets_S n (xsOf v)
  rw [← conW2_fsts] at hfl
  by_cases hc : PCtx n (xsOf v) ∧ 0 ≤ a ∧ a < (conL n (xsOf v)).length
  · obtain ⟨hp, ha0, ha1⟩ := hc
    obtain ⟨N, rfl⟩ : ∃ N : Nat, n = N := ⟨n.toNat, by have := hp.1; omega⟩
    obtain ⟨A, rfl⟩ : ∃ A : Nat, a = A := ⟨a.toNat, by omega⟩
    have hV : cmplV 3 N (xsOf v) A = rowR 1 3 16 (ints (cmplL N (xsOf v) A)) := by unfold cmplV; rw [if_pos ⟨hp, ha0, ha1⟩]
    rw [hV]
    have htop := top_first hp
    have hA : A < (conL N (xsOf v)).length := by omega
    have hsel := compQ_sel hp hA
    have htop2 : ∀ (K : AV → Prop) (tg : Tg K), CW env 89 [.agg [.int .i64 N, v]] K tg ↔ K (.int .i64 0) := fun K tg => callsTo_iff (by
      have := iTopOf_c (n := N) hv
      rw [if_pos hp, htop] at this; exact this)
    rw [← conW2_fsts] at hFs hsel
    rw [← conW2_snds] at hSs hsel
    generalize conW2 N (xsOf v) = w at *
    rw [← hfl] at hL hA hsel
    have hA9 : (A : Int) ≤ ((fsts w).length : Int) - 1 := by omega
    have hcm : EvC env 90 [w, .int .i64 A, .int .i64 0] (rowR 1 3 9 (ints (cmplL N (xsOf v) A))) := by
      have := complements_c (top := 0) hP hL hA hFs hSs
      rw [hsel] at this; exact this
    clear hFs hSs hsel hV htop ha1 hfl
    repeat' (first | (apply brI <;> intro hb hb2 <;> (try simp [-Int.not_le, -Int.not_lt, -Nat.not_le, -Nat.not_lt, -Nat.add_left_cancel_iff] at hb2)) | (refine draw_listA (by rfl) (by kernel_rfl) ?_) | (refine draw_listB (by simp [allocsOf, isAlloc]; rfl) (by kernel_rfl) ?_) | simp (maxSteps := 2000000) (disch := first | omega | assumption | simp [*]) [*, -Int.not_le, -Int.not_lt, -Nat.not_le, -Nat.not_lt, -Nat.add_left_cancel_iff, wrap_i64, wrap_u64, Tryz.f23, isI_cells hv, isI_one hv, isI_low hv, isI_len hv, isP_len hP, isP_low hP])
    refine cf_row (by simpa [isP_low hP] using hcm) (ownR_row ..) (by simp) rfl ?_
    intro v2 h2 hR hh
    have o2 := hR.one
    have c2 := hR.cells
    repeat' (first | (apply brI <;> intro hb hb2 <;> (try simp [-Int.not_le, -Int.not_lt, -Nat.not_le, -Nat.not_lt, -Nat.add_left_cancel_iff] at hb2)) | (refine draw_listA (by rfl) (by kernel_rfl) ?_) | (refine draw_listB (by simp [allocsOf, isAlloc]; rfl) (by kernel_rfl) ?_) | simp (maxSteps := 2000000) (disch := first | omega | assumption | simp [*]) [*, -Int.not_le, -Int.not_lt, -Nat.not_le, -Nat.not_lt, -Nat.add_left_cancel_iff, wrap_i64, wrap_u64])
    rw [← rowX_row]
    exact (hR.keep (by simp [hset])).expoI
  · have hV : cmplV 3 n (xsOf v) a = .sl 0 .lit [] := by unfold cmplV; rw [if_neg hc]
    rw [hV]
    have hgd : (decide (0 ≤ a) && decide (a ≤ ((fsts (conW2 n (xsOf v))).length : Int) - 1)) = false := by
      rw [Bool.eq_false_iff]; intro h; simp only [Bool.and_eq_true, decide_eq_true_eq] at h
      by_cases hp : PCtx n (xsOf v)
      · exact hc ⟨hp, h.1, by omega⟩
      · have : (conL n (xsOf v)).length = 0 := by simp [conL, hp]
        omega
    rw [← hfl] at hL
    generalize conW2 n (xsOf v) = w at *
    clear hc hV hFs hSs hfl
    repeat' (first | (apply brI <;> intro hb hb2 <;> (try simp [-Int.not_le, -Int.not_lt, -Nat.not_le, -Nat.not_lt, -Nat.add_left_cancel_iff] at hb2)) | (refine draw_listA (by rfl) (by kernel_rfl) ?_) | (refine draw_listB (by simp [allocsOf, isAlloc]; rfl) (by kernel_rfl) ?_) | simp (maxSteps := 2000000) (disch := first | omega | assumption | simp [*]) [*, -Int.not_le, -Int.not_lt, -Nat.not_le, -Nat.not_lt, -Nat.add_left_cancel_iff, wrap_i64, wrap_u64, Tryz.f23, isI_cells hv, isI_one hv, isI_low hv, isI_len hv, isP_len hP, isP_low hP])
theorem iComplementsOf_s {n a : Int} {v : AV} (hv : IsI v) {K : AV → Prop} {tg : Tg K} : CW env 23 [.agg [.int .i64 n, v], .int .i64 a] K tg ↔ K (cmplV 3 n (xsOf v) a) := callsTo_iff (iComplementsOf_c hv)
attribute [simp] iComplementsOf_s
end Go.Proofs.YtliecnadoklgoaaGreatDoor
