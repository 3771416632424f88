/- XPath XSupL, joined. Conditions: none. -/
import Derived.Test.YtkkkgaapkibhkaaGreatDoorCmpl
import Derived.Test.YtkkkgaapkibhkaaGreatDoorLuxA
/- Confidence along paths: both sides and the law. Conditions: none. -/
namespace Go.Proofs.YtkkkgaapkibhkaaGreatDoor
open Ev
set_option linter.unusedVariables false
set_option linter.unusedSimpArgs false
set_option maxHeartbeats 4000000

def PathC (F path : List Int) : Prop := path ≠ [] ∧ (∀ k, k < path.length → 0 ≤ nth path k ∧ nth path k < F.length) ∧ ∀ k, k + 1 < path.length → PSub (nth F (nth path (k + 1)).toNat) (nth F (nth path k).toNat) = true
noncomputable instance (F path : List Int) : Decidable (PathC F path) := Classical.propDecidable _
noncomputable def pathA (F path : List Int) : Int := if PathC F path then (elemsTo (nth F (nth path (path.length - 1)).toNat) 8).length else 0
noncomputable def pathB (F path : List Int) : Int := if PathC F path then (elemsTo (nth F (nth path 0).toNat) 8).length else 0
theorem sPathConfidence_c {n : Int} {v u : AV} (hv : IsI v) (hu : IsI u) : EvC env 94 [.agg [.int .i64 n, v], u] (.tup [.int .i64 (pathA (fsts (conW n (xsOf v))) (xsOf u)), .int .i64 (pathB (fsts (conW n (xsOf v))) (xsOf u))]) := by
  refine evC_of (F := Tryz.f94) rfl rfl (Nat.le_of_ble_eq_true rfl) ?_
  have hP := conW_P n (xsOf v)
  have hw := sCon_noEx n (xsOf v) 102
  have hfl := conW_len n (xsOf v)
  have hL := conL_len n (xsOf v)
  have hF := sets_F n (xsOf v)
  have hul := hu.len
  unfold top63 at hul
  rw [← hfl] at hL
  clear hfl
  generalize conW n (xsOf v) = w at *
  repeat' (first | (apply br_intro <;> intro hb <;> (have hb2 := hb) <;> (try simp [-Int.not_le, -Int.not_lt, -Nat.not_le, -Nat.not_lt, -Nat.add_left_cancel_iff] at hb2)) | (refine draw_listA (by rfl) (by kernel_rfl) ?_) | (refine draw_listB (by simp [allocsOf, isAlloc]; rfl) (by kernel_rfl) ?_) | simp (maxSteps := 2000000) (disch := first | omega | assumption | simp [*]) [*, -Int.not_le, -Int.not_lt, -Nat.not_le, -Nat.not_lt, -Nat.add_left_cancel_iff, wrap_i64, wrap_u64, Tryz.f94, isI_cells hv, isI_one hv, isI_low hv, isI_len hv, isI_len hu, isI_low hu, isP_len hP])
  refine W_loopP (xsOf u).length (fun k s => s 7 = .int .i64 k ∧ s 6 = w ∧ s 1 = u ∧ (∀ j, j < k → 0 ≤ nth (xsOf u) j ∧ nth (xsOf u) j < (fsts w).length) ∧ ∀ j, j + 1 < k → PSub (nth (fsts w) (nth (xsOf u) (j + 1)).toNat) (nth (fsts w) (nth (xsOf u) j).toNat) = true) rfl ?_ ?_
  · simp [*]
  rintro k s hk ⟨h7, h6, h1, hA, hB⟩
  by_cases hk2 : k < (xsOf u).length
  · by_cases hr : 0 ≤ nth (xsOf u) k ∧ nth (xsOf u) k < (fsts w).length
    · have hA2 : ∀ j, j < k + 1 → 0 ≤ nth (xsOf u) j ∧ nth (xsOf u) j < (fsts w).length := fun j hj => by
        by_cases e : j = k
        · subst e; exact hr
        · exact hA j (by omega)
      obtain ⟨p, hp⟩ : ∃ p : Nat, nth (xsOf u) k = p := ⟨(nth (xsOf u) k).toNat, by omega⟩
      have hp1 : p < (fsts w).length := by omega
      have hp9 : (p : Int) ≤ ((fsts w).length : Int) - 1 := by omega
      have rp := hF p hp1
      cases k with
      | zero =>
        have hB2 : ∀ j, j + 1 < 0 + 1 → PSub (nth (fsts w) (nth (xsOf u) (j + 1)).toNat) (nth (fsts w) (nth (xsOf u) j).toNat) = true := fun j hj => by omega
        clear hA hB hF hr
        repeat' (first | (apply br_intro <;> intro hb <;> (have hb2 := hb) <;> (try simp [-Int.not_le, -Int.not_lt, -Nat.not_le, -Nat.not_lt, -Nat.add_left_cancel_iff] at hb2)) | (refine draw_listA (by rfl) (by kernel_rfl) ?_) | (refine draw_listB (by simp [allocsOf, isAlloc]; rfl) (by kernel_rfl) ?_) | simp (maxSteps := 2000000) (disch := first | omega | assumption | simp [*]) [*, -Int.not_le, -Int.not_lt, -Nat.not_le, -Nat.not_lt, -Nat.add_left_cancel_iff, wrap_i64, wrap_u64, h7, h6, h1, isI_len hu, isI_index hu, isI_load hu, isP_len hP, isP_index hP, isP_low hP, isP_noKey hP])
      | succ j =>
        have hrj := hA j (by omega)
        obtain ⟨q, hq⟩ : ∃ q : Nat, nth (xsOf u) j = q := ⟨(nth (xsOf u) j).toNat, by omega⟩
        have hq1 : q < (fsts w).length := by omega
        have rq := hF q hq1
        have hj2 : j < (xsOf u).length := by omega
        have hk3 : (j : Int) + 1 < (xsOf u).length := by omega
        cases hc : PSub (nth (fsts w) p) (nth (fsts w) q) with
        | true =>
          have hB2 : ∀ i, i + 1 < j + 1 + 1 → PSub (nth (fsts w) (nth (xsOf u) (i + 1)).toNat) (nth (fsts w) (nth (xsOf u) i).toNat) = true := fun i hi => by
            by_cases e : i = j
            · subst e; rw [hp, hq]; simpa using hc
            · exact hB i (by omega)
          clear hA hB hF hr hrj
          repeat' (first | (apply br_intro <;> intro hb <;> (have hb2 := hb) <;> (try simp [-Int.not_le, -Int.not_lt, -Nat.not_le, -Nat.not_lt, -Nat.add_left_cancel_iff] at hb2)) | (refine draw_listA (by rfl) (by kernel_rfl) ?_) | (refine draw_listB (by simp [allocsOf, isAlloc]; rfl) (by kernel_rfl) ?_) | simp (maxSteps := 2000000) (disch := first | omega | assumption | simp [*]) [*, -Int.not_le, -Int.not_lt, -Nat.not_le, -Nat.not_lt, -Nat.add_left_cancel_iff, wrap_i64, wrap_u64, h7, h6, h1, isI_len hu, isI_index hu, isI_load hu, isP_len hP, isP_index hP, isP_low hP, isP_noKey hP])
          all_goals exact ⟨hA2, fun i hi => hB2 i (by omega)⟩
        | false =>
          have hno : ¬ PathC (fsts w) (xsOf u) := fun h => by
            have := h.2.2 j hk2
            rw [hp, hq] at this
            simp [hc] at this
          have ea : pathA (fsts w) (xsOf u) = 0 := by unfold pathA; rw [if_neg hno]
          have eb : pathB (fsts w) (xsOf u) = 0 := by unfold pathB; rw [if_neg hno]
          clear hA hB hF hr hrj hno hA2
          repeat' (first | (apply br_intro <;> intro hb <;> (have hb2 := hb) <;> (try simp [-Int.not_le, -Int.not_lt, -Nat.not_le, -Nat.not_lt, -Nat.add_left_cancel_iff] at hb2)) | (refine draw_listA (by rfl) (by kernel_rfl) ?_) | (refine draw_listB (by simp [allocsOf, isAlloc]; rfl) (by kernel_rfl) ?_) | simp (maxSteps := 2000000) (disch := first | omega | assumption | simp [*]) [*, -Int.not_le, -Int.not_lt, -Nat.not_le, -Nat.not_lt, -Nat.add_left_cancel_iff, wrap_i64, wrap_u64, h7, h6, h1, isI_len hu, isI_index hu, isI_load hu, isP_len hP, isP_index hP, isP_low hP, isP_noKey hP])
    · have hno : ¬ PathC (fsts w) (xsOf u) := fun h => hr (h.2.1 k hk2)
      have ea : pathA (fsts w) (xsOf u) = 0 := by unfold pathA; rw [if_neg hno]
      have eb : pathB (fsts w) (xsOf u) = 0 := by unfold pathB; rw [if_neg hno]
      have hgd : (decide (0 ≤ nth (xsOf u) k) && decide (nth (xsOf u) k ≤ ((fsts w).length : Int) - 1)) = false := by
        rw [Bool.eq_false_iff]; intro h; simp only [Bool.and_eq_true, decide_eq_true_eq] at h; exact hr ⟨h.1, by omega⟩
      clear hA hB hF hr hno
      repeat' (first | (apply br_intro <;> intro hb <;> (have hb2 := hb) <;> (try simp [-Int.not_le, -Int.not_lt, -Nat.not_le, -Nat.not_lt, -Nat.add_left_cancel_iff] at hb2)) | (refine draw_listA (by rfl) (by kernel_rfl) ?_) | (refine draw_listB (by simp [allocsOf, isAlloc]; rfl) (by kernel_rfl) ?_) | simp (maxSteps := 2000000) (disch := first | omega | assumption | simp [*]) [*, -Int.not_le, -Int.not_lt, -Nat.not_le, -Nat.not_lt, -Nat.add_left_cancel_iff, wrap_i64, wrap_u64, h7, h6, h1, isI_len hu, isI_index hu, isI_load hu, isP_len hP, isP_index hP, isP_low hP, isP_noKey hP])
  · obtain rfl : k = (xsOf u).length := by omega
    by_cases hne : xsOf u = []
    · have hno : ¬ PathC (fsts w) (xsOf u) := fun h => h.1 hne
      have ea : pathA (fsts w) (xsOf u) = 0 := by unfold pathA; rw [if_neg hno]
      have eb : pathB (fsts w) (xsOf u) = 0 := by unfold pathB; rw [if_neg hno]
      have hl0 : (xsOf u).length = 0 := by rw [hne]; rfl
      clear hA hB hF hno hne
      repeat' (first | (apply br_intro <;> intro hb <;> (have hb2 := hb) <;> (try simp [-Int.not_le, -Int.not_lt, -Nat.not_le, -Nat.not_lt, -Nat.add_left_cancel_iff] at hb2)) | (refine draw_listA (by rfl) (by kernel_rfl) ?_) | (refine draw_listB (by simp [allocsOf, isAlloc]; rfl) (by kernel_rfl) ?_) | simp (maxSteps := 2000000) (disch := first | omega | assumption | simp [*]) [*, -Int.not_le, -Int.not_lt, -Nat.not_le, -Nat.not_lt, -Nat.add_left_cancel_iff, wrap_i64, wrap_u64, h7, h6, h1, isI_len hu, isP_len hP, isP_low hP])
    · obtain ⟨m, hm⟩ : ∃ m, (xsOf u).length = m + 1 := ⟨(xsOf u).length - 1, by have : (xsOf u).length ≠ 0 := fun e => hne (List.eq_nil_of_length_eq_zero e); omega⟩
      have hyes : PathC (fsts w) (xsOf u) := ⟨hne, hA, hB⟩
      have h0 := hA 0 (by omega)
      have hmm := hA m (by omega)
      obtain ⟨p, hp⟩ : ∃ p : Nat, nth (xsOf u) 0 = p := ⟨(nth (xsOf u) 0).toNat, by omega⟩
      obtain ⟨q, hq⟩ : ∃ q : Nat, nth (xsOf u) m = q := ⟨(nth (xsOf u) m).toNat, by omega⟩
      have hp1 : p < (fsts w).length := by omega
      have hq1 : q < (fsts w).length := by omega
      have ea : pathA (fsts w) (xsOf u) = (elemsTo (nth (fsts w) q) 8).length := by unfold pathA; rw [if_pos hyes, hm]; simp [hq]
      have eb : pathB (fsts w) (xsOf u) = (elemsTo (nth (fsts w) p) 8).length := by unfold pathB; rw [if_pos hyes]; simp [hp]
      have hm1 : m < (xsOf u).length := by omega
      have hm0 : 0 < (xsOf u).length := by omega
      clear hA hB hF hyes hne h0 hmm
      repeat' (first | (apply br_intro <;> intro hb <;> (have hb2 := hb) <;> (try simp [-Int.not_le, -Int.not_lt, -Nat.not_le, -Nat.not_lt, -Nat.add_left_cancel_iff] at hb2)) | (refine draw_listA (by rfl) (by kernel_rfl) ?_) | (refine draw_listB (by simp [allocsOf, isAlloc]; rfl) (by kernel_rfl) ?_) | simp (maxSteps := 2000000) (disch := first | omega | assumption | simp [*]) [*, -Int.not_le, -Int.not_lt, -Nat.not_le, -Nat.not_lt, -Nat.add_left_cancel_iff, wrap_i64, wrap_u64, h7, h6, h1, isI_len hu, isI_index hu, isI_load hu, isP_len hP, isP_index hP, isP_low hP, isP_noKey hP])
      all_goals omega
theorem sPathConfidence_s {n : Int} {v u : AV} (hv : IsI v) (hu : IsI u) {K : AV → Prop} {tg : Tg K} : CW env 94 [.agg [.int .i64 n, v], u] K tg ↔ K (.tup [.int .i64 (pathA (fsts (conW n (xsOf v))) (xsOf u)), .int .i64 (pathB (fsts (conW n (xsOf v))) (xsOf u))]) := callsTo_iff (sPathConfidence_c hv hu)
attribute [simp] sPathConfidence_s
theorem any_nth {xs : List Int} {f : Int → Bool} : xs.any f = true ↔ ∃ k, k < xs.length ∧ f (nth xs k) = true := by
  rw [List.any_eq_true]
  constructor
  · rintro ⟨x, hx, hf⟩
    obtain ⟨k, hk, rfl⟩ := List.getElem_of_mem hx
    exact ⟨k, hk, by rw [nth_eq hk]; exact hf⟩
  · rintro ⟨k, hk, hf⟩
    exact ⟨xs[k], List.getElem_mem hk, by rw [nth_eq hk] at hf; exact hf⟩
def outB (len : Nat) (x : Int) : Bool := !(decide (0 ≤ x) && decide (x ≤ (len : Int) - 1))
theorem path1_c {x : Int} {w : AV} (hP : IsP w) (hL : (fsts w).length ≤ 64) : EvC env 205 [.int .i64 x, .cp true [w] 0] (.bool (outB (fsts w).length x)) := by
  refine evC_of (F := Tryz.f205) rfl rfl (Nat.le_of_ble_eq_true rfl) ?_
  repeat' (first | (apply br_intro <;> intro hb <;> (have hb2 := hb) <;> (try simp [-Int.not_le, -Int.not_lt, -Nat.not_le, -Nat.not_lt, -Nat.add_left_cancel_iff] at hb2)) | (refine draw_listA (by rfl) (by kernel_rfl) ?_) | (refine draw_listB (by simp [allocsOf, isAlloc]; rfl) (by kernel_rfl) ?_) | simp (maxSteps := 2000000) (disch := first | omega | assumption | simp [*]) [*, -Int.not_le, -Int.not_lt, -Nat.not_le, -Nat.not_lt, -Nat.add_left_cancel_iff, wrap_i64, wrap_u64, Tryz.f205, isP_low hP, isP_low0 hP, isP_cells hP, isP_one hP, isP_noKey hP])
  all_goals simp [outB]
theorem path1_s {x : Int} {w : AV} (hP : IsP w) (hL : (fsts w).length ≤ 64) {K : AV → Prop} {tg : Tg K} : CW env 205 [.int .i64 x, .cp true [w] 0] K tg ↔ K (.bool (outB (fsts w).length x)) := callsTo_iff (path1_c hP hL)
attribute [simp] path1_s
theorem iPathConfidence_c {n : Int} {v u : AV} (hv : IsI v) (hu : IsI u) : EvC env 93 [.agg [.int .i64 n, v], u] (.tup [.int .i64 (pathA (fsts (conW n (xsOf v))) (xsOf u)), .int .i64 (pathB (fsts (conW n (xsOf v))) (xsOf u))]) := by
  refine evC_of (F := Tryz.f93) rfl rfl (Nat.le_of_ble_eq_true rfl) ?_
  have hP := conW2_P n (xsOf v)
  have hw := iCon_noEx n (xsOf v) 102
  have hfl := conW_len n (xsOf v)
  have hL := conL_len n (xsOf v)
  have hF := sets_F n (xsOf v)
  have hul := hu.len
  unfold top63 at hul
  rw [← hfl] at hL
  clear hfl
  rw [← conW2_fsts] at hL hF ⊢
  generalize conW2 n (xsOf v) = w at *
  have ow := isP_one hP
  have cw := isP_cells hP
  have hcs : ∀ (K : AV → Prop) (tg : Tg K), CW env 204 [u, .fn 205 [.cp true [w] 0]] K tg ↔ K (.bool ((xsOf u).any (outB (fsts w).length))) :=
    fun K tg => callsTo_iff (containsFunc_c hu rfl rfl (fun h => by simp [isP_low hP, isP_low0 hP]) fun x => path1_c hP hL)
  by_cases hne : xsOf u = []
  · have hno : ¬ PathC (fsts w) (xsOf u) := fun h => h.1 hne
    have ea : pathA (fsts w) (xsOf u) = 0 := by unfold pathA; rw [if_neg hno]
    have eb : pathB (fsts w) (xsOf u) = 0 := by unfold pathB; rw [if_neg hno]
    have hl0 : (xsOf u).length = 0 := by rw [hne]; rfl
    clear hF hno hne
    repeat' (first | (apply br_intro <;> intro hb <;> (have hb2 := hb) <;> (try simp [-Int.not_le, -Int.not_lt, -Nat.not_le, -Nat.not_lt, -Nat.add_left_cancel_iff] at hb2)) | (refine draw_listA (by rfl) (by kernel_rfl) ?_) | (refine draw_listB (by simp [allocsOf, isAlloc]; rfl) (by kernel_rfl) ?_) | simp (maxSteps := 2000000) (disch := first | omega | assumption | simp [*]) [*, -Int.not_le, -Int.not_lt, -Nat.not_le, -Nat.not_lt, -Nat.add_left_cancel_iff, wrap_i64, wrap_u64, Tryz.f93, isI_cells hv, isI_one hv, isI_low hv, isI_len hv, isI_len hu, isI_low hu, isP_len hP, isP_low hP])
  · cases hany : (xsOf u).any (outB (fsts w).length) with
    | true =>
      obtain ⟨k, hk, hb⟩ := any_nth.1 hany
      have hno : ¬ PathC (fsts w) (xsOf u) := fun h => by
        have h9 := h.2.1 k hk
        have : (decide (0 ≤ nth (xsOf u) k) && decide (nth (xsOf u) k ≤ ((fsts w).length : Int) - 1)) = true := by simp; omega
        unfold outB at hb
        rw [this] at hb
        cases hb
      have ea : pathA (fsts w) (xsOf u) = 0 := by unfold pathA; rw [if_neg hno]
      have eb : pathB (fsts w) (xsOf u) = 0 := by unfold pathB; rw [if_neg hno]
      have hl0 : ¬ ((xsOf u).length : Int) = 0 := by omega
      clear hF hno hb
      repeat' (first | (apply br_intro <;> intro hb <;> (have hb2 := hb) <;> (try simp [-Int.not_le, -Int.not_lt, -Nat.not_le, -Nat.not_lt, -Nat.add_left_cancel_iff] at hb2)) | (refine draw_listA (by rfl) (by kernel_rfl) ?_) | (refine draw_listB (by simp [allocsOf, isAlloc]; rfl) (by kernel_rfl) ?_) | simp (maxSteps := 2000000) (disch := first | omega | assumption | simp [*]) [*, -Int.not_le, -Int.not_lt, -Nat.not_le, -Nat.not_lt, -Nat.add_left_cancel_iff, wrap_i64, wrap_u64, Tryz.f93, isI_cells hv, isI_one hv, isI_low hv, isI_len hv, isI_len hu, isI_low hu, isP_len hP, isP_low hP, isP_low0 hP, isP_noKey hP])
    | false =>
      have hA : ∀ k, k < (xsOf u).length → 0 ≤ nth (xsOf u) k ∧ nth (xsOf u) k < (fsts w).length := fun k hk => by
        cases hb : outB (fsts w).length (nth (xsOf u) k) with
        | true => rw [any_nth.2 ⟨k, hk, hb⟩] at hany; cases hany
        | false =>
          unfold outB at hb
          simp at hb
          omega
      obtain ⟨m, hm⟩ : ∃ m, (xsOf u).length = m + 1 := ⟨(xsOf u).length - 1, by have : (xsOf u).length ≠ 0 := fun e => hne (List.eq_nil_of_length_eq_zero e); omega⟩
      have hl0 : ¬ ((xsOf u).length : Int) = 0 := by omega
      have hl1 : ¬ (m : Int) + 1 = 0 := by omega
      repeat' (first | (apply br_intro <;> intro hb <;> (have hb2 := hb) <;> (try simp [-Int.not_le, -Int.not_lt, -Nat.not_le, -Nat.not_lt, -Nat.add_left_cancel_iff] at hb2)) | (refine draw_listA (by rfl) (by kernel_rfl) ?_) | (refine draw_listB (by simp [allocsOf, isAlloc]; rfl) (by kernel_rfl) ?_) | simp (maxSteps := 2000000) (disch := first | omega | assumption | simp [*]) [*, -Int.not_le, -Int.not_lt, -Nat.not_le, -Nat.not_lt, -Nat.add_left_cancel_iff, wrap_i64, wrap_u64, Tryz.f93, isI_cells hv, isI_one hv, isI_low hv, isI_len hv, isI_len hu, isI_low hu, isP_len hP, isP_low hP, isP_low0 hP, isP_noKey hP])
      refine W_loopG m (fun i s h => s 7 = .int .i64 ((i : Int) + 1) ∧ s 6 = .vp 6 0 0 ∧ s 1 = u ∧ h 6 = some (.var 0 107 w) ∧ ∀ j, j < i → PSub (nth (fsts w) (nth (xsOf u) (j + 1)).toNat) (nth (fsts w) (nth (xsOf u) j).toNat) = true) ?_ ?_
      · simp [*]
      rintro j s h hj ⟨h7, h6, h1, e6, hB⟩
      by_cases hj2 : j < m
      · have hr0 := hA j (by omega)
        have hr1 := hA (j + 1) (by omega)
        obtain ⟨q, hq⟩ : ∃ q : Nat, nth (xsOf u) j = q := ⟨(nth (xsOf u) j).toNat, by omega⟩
        obtain ⟨p, hp⟩ : ∃ p : Nat, nth (xsOf u) (j + 1) = p := ⟨(nth (xsOf u) (j + 1)).toNat, by omega⟩
        have hq1 : q < (fsts w).length := by omega
        have hp1 : p < (fsts w).length := by omega
        have hbl : ∀ (K : AV → Prop) (tg : Tg K), CW env 112 [w, .int .i64 p, .int .i64 q] K tg ↔ K (.bool (PSub (nth (fsts w) p) (nth (fsts w) q))) := fun K tg => callsTo_iff (below_c hP hp1 hq1 hF)
        have hk1 : j < (xsOf u).length := by omega
        have hk2 : j + 1 < (xsOf u).length := by omega
        have hk3 : (j : Int) + 1 < (xsOf u).length := by omega
        have hj3 : (j : Int) < m := by omega
        have hload : ∀ h', loadV env h' 3 (elP u (j + 1)) = some (.int .i64 p) := fun h' => by rw [isI_load hu (by simp) hk2, hp]
        cases hc : PSub (nth (fsts w) p) (nth (fsts w) q) with
        | true =>
          have hB2 : ∀ i, i < j + 1 → PSub (nth (fsts w) (nth (xsOf u) (i + 1)).toNat) (nth (fsts w) (nth (xsOf u) i).toNat) = true := fun i hi => by
            by_cases e : i = j
            · subst e; rw [hp, hq]; simpa using hc
            · exact hB i (by omega)
          clear hA hB hF hr0 hr1 hany hne
          repeat' (first | (apply br_intro <;> intro hb <;> (have hb2 := hb) <;> (try simp [-Int.not_le, -Int.not_lt, -Nat.not_le, -Nat.not_lt, -Nat.add_left_cancel_iff] at hb2)) | (refine draw_listA (by rfl) (by kernel_rfl) ?_) | (refine draw_listB (by simp [allocsOf, isAlloc]; rfl) (by kernel_rfl) ?_) | simp (maxSteps := 2000000) (disch := first | omega | assumption | simp [*]) [*, -Int.not_le, -Int.not_lt, -Nat.not_le, -Nat.not_lt, -Nat.add_left_cancel_iff, wrap_i64, wrap_u64, h7, h6, h1, e6, isI_len hu, isI_index hu, isI_load hu, isP_len hP, isP_low hP])
          exact hB2
        | false =>
          have hno : ¬ PathC (fsts w) (xsOf u) := fun h => by
            have := h.2.2 j hk2
            rw [hp, hq] at this
            simp [hc] at this
          have ea : pathA (fsts w) (xsOf u) = 0 := by unfold pathA; rw [if_neg hno]
          have eb : pathB (fsts w) (xsOf u) = 0 := by unfold pathB; rw [if_neg hno]
          clear hA hB hF hr0 hr1 hany hne hno
          repeat' (first | (apply br_intro <;> intro hb <;> (have hb2 := hb) <;> (try simp [-Int.not_le, -Int.not_lt, -Nat.not_le, -Nat.not_lt, -Nat.add_left_cancel_iff] at hb2)) | (refine draw_listA (by rfl) (by kernel_rfl) ?_) | (refine draw_listB (by simp [allocsOf, isAlloc]; rfl) (by kernel_rfl) ?_) | simp (maxSteps := 2000000) (disch := first | omega | assumption | simp [*]) [*, -Int.not_le, -Int.not_lt, -Nat.not_le, -Nat.not_lt, -Nat.add_left_cancel_iff, wrap_i64, wrap_u64, h7, h6, h1, e6, isI_len hu, isI_index hu, isI_load hu, isP_len hP, isP_low hP])
      · obtain rfl : j = m := by omega
        have hyes : PathC (fsts w) (xsOf u) := ⟨hne, hA, fun k hk => hB k (by omega)⟩
        have h0 := hA 0 (by omega)
        have hmm := hA j (by omega)
        obtain ⟨p, hp⟩ : ∃ p : Nat, nth (xsOf u) 0 = p := ⟨(nth (xsOf u) 0).toNat, by omega⟩
        obtain ⟨q, hq⟩ : ∃ q : Nat, nth (xsOf u) j = q := ⟨(nth (xsOf u) j).toNat, by omega⟩
        have hp1 : p < (fsts w).length := by omega
        have hq1 : q < (fsts w).length := by omega
        have ea : pathA (fsts w) (xsOf u) = (elemsTo (nth (fsts w) q) 8).length := by unfold pathA; rw [if_pos hyes, hm]; simp [hq]
        have eb : pathB (fsts w) (xsOf u) = (elemsTo (nth (fsts w) p) 8).length := by unfold pathB; rw [if_pos hyes]; simp [hp]
        have hm1 : j < (xsOf u).length := by omega
        have hm0 : 0 < (xsOf u).length := by omega
        clear hA hB hF hyes hne h0 hmm hany
        repeat' (first | (apply br_intro <;> intro hb <;> (have hb2 := hb) <;> (try simp [-Int.not_le, -Int.not_lt, -Nat.not_le, -Nat.not_lt, -Nat.add_left_cancel_iff] at hb2)) | (refine draw_listA (by rfl) (by kernel_rfl) ?_) | (refine draw_listB (by simp [allocsOf, isAlloc]; rfl) (by kernel_rfl) ?_) | simp (maxSteps := 2000000) (disch := first | omega | assumption | simp [*]) [*, -Int.not_le, -Int.not_lt, -Nat.not_le, -Nat.not_lt, -Nat.add_left_cancel_iff, wrap_i64, wrap_u64, h7, h6, h1, e6, isI_len hu, isI_index hu, isI_load hu, isP_len hP, isP_index hP, isP_low hP, isP_noKey hP])
theorem iPathConfidence_s {n : Int} {v u : AV} (hv : IsI v) (hu : IsI u) {K : AV → Prop} {tg : Tg K} : CW env 93 [.agg [.int .i64 n, v], u] K tg ↔ K (.tup [.int .i64 (pathA (fsts (conW n (xsOf v))) (xsOf u)), .int .i64 (pathB (fsts (conW n (xsOf v))) (xsOf u))]) := callsTo_iff (iPathConfidence_c hv hu)
attribute [simp] iPathConfidence_s
end Go.Proofs.YtkkkgaapkibhkaaGreatDoor
/- Confidence between concepts; the rules of both bases; paths: plain Lean. Conditions: none. -/
namespace Go.Proofs.YtkkkgaapkibhkaaGreatDoor
open Ev
set_option linter.unusedVariables false
set_option linter.unusedSimpArgs false

theorem S_pset {n : Int} {xs : List Int} {k : Nat} (h : k < (conL n xs).length) : PSet n (nth (snds (conW n xs)) k) = true := by
  obtain ⟨hc, h1, _⟩ := closed_get h
  obtain ⟨N, rfl⟩ : ∃ N : Nat, n = N := ⟨n.toNat, by have := hc.1; omega⟩
  rw [nthS h]
  exact pset_nat (by have := hc.2.1; omega) (by simpa using h1)
theorem F_ext {n : Int} {xs : List Int} {k : Nat} (h : k < (conL n xs).length) : Ext xs (nth (snds (conW n xs)) k) = nth (fsts (conW n xs)) k := by rw [nthF h, nthS h]
theorem or_sub {s t : Int} (hs : 0 ≤ s) (ht : 0 ≤ t) (h : PSub s t = true) : ((s.toNat ||| t.toNat : Nat) : Int) = t := by
  refine int_bits (by omega) ht fun i => ?_
  rw [psub_all hs ht] at h
  have := h i
  rw [phas_nat hs, phas_nat ht] at this
  rw [Int.toNat_natCast, Nat.testBit_or]
  cases hx : s.toNat.testBit i with
  | false => simp
  | true => rw [this hx]; rfl
/-- the confidence of a rule from a concept to one below it -/
theorem conf_con {n : Int} {xs : List Int} {a b : Nat} (ha : a < (conL n xs).length) (hb : b < (conL n xs).length) (h : PSub (nth (fsts (conW n xs)) b) (nth (fsts (conW n xs)) a) = true) :
    confA n xs (nth (snds (conW n xs)) a) (nth (snds (conW n xs)) b) = cntI (nth (fsts (conW n xs)) b) ∧ confB n xs (nth (snds (conW n xs)) a) (nth (snds (conW n xs)) b) = cntI (nth (fsts (conW n xs)) a) := by
  have hc := (closed_get ha).1
  have pa := S_pset ha
  have pb := S_pset hb
  have hC : ConfC n xs (nth (snds (conW n xs)) a) (nth (snds (conW n xs)) b) := ⟨hc, pa, pb⟩
  rw [← con_galois ha hb] at h
  unfold confA confB
  rw [if_pos hC, if_pos hC, or_sub (pset_nn pa) (pset_nn pb) h]
  unfold supV
  rw [if_pos ⟨hc, pb⟩, if_pos ⟨hc, pa⟩, F_ext ha, F_ext hb]
  exact ⟨rfl, rfl⟩
/-- a rule of the strong ones -/
theorem str_conf {n : Int} {xs : List Int} {num den : Int} : ∀ e ∈ strL n xs num den, ¬ confA n xs (fstI e) (sndI e) * den < num * confB n xs (fstI e) (sndI e) := by
  unfold strL
  split
  · have hrow : ∀ a, a < (conL n xs).length → ∀ k, k ≤ (conL n xs).length → ∀ e ∈ strRow (strB (fsts (conW n xs)) num den) (snds (conW n xs)) a k, ¬ confA n xs (fstI e) (sndI e) * den < num * confB n xs (fstI e) (sndI e) := by
      intro a ha k
      induction k with
      | zero => intro _ e he; simp [strRow] at he
      | succ k ih =>
        intro hk e he
        simp only [strRow, List.mem_append] at he
        rcases he with he | he
        · exact ih (by omega) e he
        · split at he
          · rename_i hq
            simp only [List.mem_singleton] at he
            subst he
            simp only [strB, Bool.and_eq_true, decide_eq_true_eq] at hq
            obtain ⟨c1, c2⟩ := conf_con ha (by omega) hq.1.2
            rw [fstI_pr, sndI_pr, c1, c2]
            omega
          · simp at he
    have hall : ∀ a, a ≤ (conL n xs).length → ∀ e ∈ strAll (strB (fsts (conW n xs)) num den) (snds (conW n xs)) (conL n xs).length a, ¬ confA n xs (fstI e) (sndI e) * den < num * confB n xs (fstI e) (sndI e) := by
      intro a
      induction a with
      | zero => intro _ e he; simp [strAll] at he
      | succ a ih =>
        intro ha e he
        simp only [strAll, List.mem_append] at he
        rcases he with he | he
        · exact ih (by omega) e he
        · exact hrow a (by omega) _ (Nat.le_refl _) e he
    exact hall _ (Nat.le_refl _)
  · intro e he; simp at he
/-- a rule of the base -/
theorem lux_conf {n : Int} {xs : List Int} {least : Int} : ∀ e ∈ luxL n xs least, confA n xs (qA e) (qB e) = qC e ∧ confB n xs (qA e) (qB e) = qD e ∧ qC e < qD e := by
  have hfl := conW_len n xs
  have hrow : ∀ a, a < (conL n xs).length → ∀ j, j ≤ (nbL (fsts (conW n xs)) false a).length → ∀ e ∈ luxP (fsts (conW n xs)) (snds (conW n xs)) least (nbL (fsts (conW n xs)) false a) a j, confA n xs (qA e) (qB e) = qC e ∧ confB n xs (qA e) (qB e) = qD e ∧ qC e < qD e := by
    intro a ha j
    induction j with
    | zero => intro _ e he; simp [luxP] at he
    | succ j ih =>
      intro hj e he
      simp only [luxP, List.mem_append] at he
      rcases he with he | he
      · exact ih (by omega) e he
      · split at he
        · simp only [List.mem_singleton] at he
          subst he
          have hm : nth (nbL (fsts (conW n xs)) false a) j ∈ nbL (fsts (conW n xs)) false a := by rw [nth_eq (by omega)]; exact List.getElem_mem _
          generalize nth (nbL (fsts (conW n xs)) false a) j = x at hm
          simp only [nbL, selTo, List.mem_map, List.mem_filter, List.mem_range] at hm
          obtain ⟨b, ⟨hb, hnb⟩, rfl⟩ := hm
          rw [nb_down] at hnb
          simp only [covB, undB, Bool.and_eq_true, decide_eq_true_eq] at hnb
          obtain ⟨⟨hne, hs⟩, _⟩ := hnb
          have hb2 : b < (conL n xs).length := by omega
          obtain ⟨c1, c2⟩ := conf_con ha hb2 hs
          obtain ⟨q1, q2, q3, q4⟩ := qr_parts (nth (snds (conW n xs)) a) (nth (snds (conW n xs)) b) (cntI (nth (fsts (conW n xs)) b)) (cntI (nth (fsts (conW n xs)) a))
          rw [show (Int.ofNat b).toNat = b from rfl, q1, q2, q3, q4]
          exact ⟨c1, c2, cnt_strict (F_set8 hb2) (F_set8 ha) hs fun h => hne (F_inj hb2 ha h)⟩
        · simp at he
  have hall : ∀ a, a ≤ (conL n xs).length → ∀ e ∈ luxA (fsts (conW n xs)) (snds (conW n xs)) least a, confA n xs (qA e) (qB e) = qC e ∧ confB n xs (qA e) (qB e) = qD e ∧ qC e < qD e := by
    intro a
    induction a with
    | zero => intro _ e he; simp [luxA] at he
    | succ a ih =>
      intro ha e he
      simp only [luxA, List.mem_append] at he
      rcases he with he | he
      · exact ih (by omega) e he
      · unfold luxR at he
        split at he
        · simp at he
        · exact hrow a (by omega) _ (Nat.le_refl _) e he
  exact hall _ (Nat.le_refl _)
/-- along a path all come below the first -/
theorem path_sub {F path : List Int} (hs : SetsP F) (h : PathC F path) : ∀ k, k < path.length → PSub (nth F (nth path k).toNat) (nth F (nth path 0).toNat) = true
  | 0, hk => by
    have := h.2.1 0 hk
    have hr := hs (nth path 0).toNat (by omega)
    rw [psub_all hr.1 hr.1]; exact fun i hi => hi
  | k + 1, hk => by
    have ih := path_sub hs h k (by omega)
    have h1 := h.2.2 k hk
    have a0 := h.2.1 0 (by omega)
    have ak := h.2.1 k (by omega)
    have ak1 := h.2.1 (k + 1) hk
    have r0 := hs (nth path 0).toNat (by omega)
    have rk := hs (nth path k).toNat (by omega)
    have rk1 := hs (nth path (k + 1)).toNat (by omega)
    rw [psub_all rk.1 r0.1] at ih
    rw [psub_all rk1.1 rk.1] at h1
    rw [psub_all rk1.1 r0.1]
    exact fun i hi => ih i (h1 i hi)
theorem path_conf {n : Int} {xs path : List Int} (h : pathB (fsts (conW n xs)) path ≠ 0) :
    path ≠ [] ∧ (∀ k, k < path.length → 0 ≤ nth path k ∧ nth path k < (fsts (conW n xs)).length) ∧
    pathA (fsts (conW n xs)) path = confA n xs (nth (snds (conW n xs)) (nth path 0).toNat) (nth (snds (conW n xs)) (nth path (path.length - 1)).toNat) ∧
    pathB (fsts (conW n xs)) path = confB n xs (nth (snds (conW n xs)) (nth path 0).toNat) (nth (snds (conW n xs)) (nth path (path.length - 1)).toNat) := by
  unfold pathB at h
  split at h
  case isFalse => exact absurd rfl h
  rename_i hC
  have hfl := conW_len n xs
  have hpos : 0 < path.length := List.length_pos_iff.2 hC.1
  have a0 := hC.2.1 0 hpos
  have al := hC.2.1 (path.length - 1) (by omega)
  obtain ⟨c1, c2⟩ := conf_con (n := n) (xs := xs) (a := (nth path 0).toNat) (b := (nth path (path.length - 1)).toNat) (by omega) (by omega) (path_sub (sets_F n xs) hC _ (by omega))
  refine ⟨hC.1, hC.2.1, ?_, ?_⟩
  · unfold pathA; rw [if_pos hC, c1]; rfl
  · unfold pathB; rw [if_pos hC, c2]; rfl
end Go.Proofs.YtkkkgaapkibhkaaGreatDoor
