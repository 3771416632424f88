/- Scales and agreements: plain Lean. Conditions: none. -/
import Derived.Test.YtliecnadoklgoaaScaleE
import Derived.Test.YtliecnadoklgoaaExtI
namespace Go.Proofs.Ytliecnadoklgoaa
open Ev
set_option linter.unusedVariables false
set_option linter.unusedSimpArgs false

theorem ext_hasE (xs : List Int) (s : Int) (k : Nat) : PHas (Ext xs s) k = (decide (k < xs.length) && PSub s (nth xs k)) := setOf_has ..
theorem int_hasE (xs : List Int) (N : Nat) (o : Int) (m : Nat) : PHas (IntS xs N o) m = true ↔ m < N ∧ ∀ k, k < xs.length → PHas o k = true → PHas (nth xs k) m = true := by
  unfold IntS
  rw [setOf_has]
  simp only [comG, Bool.and_eq_true, decide_eq_true_eq, Bool.true_and, List.all_eq_true, List.mem_range, Bool.or_eq_true, Bool.not_eq_true']
  constructor
  · rintro ⟨h1, h2⟩
    exact ⟨h1, fun k hk ho => by rcases h2 k hk with h | h; · rw [ho] at h; cases h
                                 · exact h⟩
  · rintro ⟨h1, h2⟩
    refine ⟨h1, fun k hk => ?_⟩
    cases ho : PHas o k with
    | false => exact .inl rfl
    | true => exact .inr (h2 k hk ho)
theorem range_count (p : Nat → Bool) {m : Nat} : ∀ n, m ≤ n → (List.range n).countP (fun i => decide (i < m) && p i) = (List.range m).countP p
  | n, h => by
    induction n with
    | zero => obtain rfl : m = 0 := by omega
              rfl
    | succ n ih =>
      by_cases e : m = n + 1
      · subst e
        refine List.countP_congr fun i hi => ?_
        have := List.mem_range.mp hi
        simp [this]
      · rw [List.range_succ, List.countP_append, ih (by omega)]
        simp; omega
theorem hasAt_count (row : List Int) : ∀ C : List Kol, (List.range C.length).countP (hasAt C row) = C.countP (hasC row)
  | [] => rfl
  | c :: C => by
    rw [List.length_cons, List.range_succ_eq_map, List.countP_cons, List.countP_map, List.countP_cons, ← hasAt_count row C]
    rfl
theorem count_set {C : List Kol} {row : List Int} (h : C.length ≤ 8) : (elemsTo (setOf (hasAt C row) C.length) 8).length = C.countP (hasC row) := by
  have hs : PSet 8 (setOf (hasAt C row) C.length) = true := by
    rw [pset_iff]
    exact ⟨by decide, by decide, (setOf_range _ _).1, by simpa using setOf_small (hasAt C row) h⟩
  unfold elemsTo
  rw [List.length_map, ← List.countP_eq_length_filter, ← hasAt_count, ← range_count (hasAt C row) 8 h]
  refine List.countP_congr fun i _ => ?_
  rw [hs, setOf_has]; simp
/-- one value of each attribute -/
theorem count_one {a : Nat} {row : List Int} : ∀ n : Nat, (colsQ 0 a 0 n).countP (hasC row) = if 0 ≤ nth row a ∧ nth row a < (n : Int) then 1 else 0
  | 0 => by
    have h1 : ¬ (0 ≤ nth row a ∧ nth row a < ((0 : Nat) : Int)) := by omega
    rw [if_neg h1]; rfl
  | n + 1 => by
    rw [colsQ_succ, List.countP_append, count_one n]
    simp only [List.countP_cons, List.countP_nil, hasC, tst, if_true, Nat.zero_add]
    by_cases e : nth row a = (n : Int)
    · have h1 : ¬ (0 ≤ nth row a ∧ nth row a < (n : Int)) := by omega
      have h2 : 0 ≤ nth row a ∧ nth row a < ((n + 1 : Nat) : Int) := by omega
      rw [if_neg h1, if_pos h2]; simp [e]
    · have h3 : (0 ≤ nth row a ∧ nth row a < ((n + 1 : Nat) : Int)) ↔ (0 ≤ nth row a ∧ nth row a < (n : Int)) := by omega
      simp only [h3]
      simp [e]
theorem count_nom {lv row : List Int} (hr : RwP lv row) : ∀ k, k ≤ lv.length → (allC 0 lv k).countP (hasC row) = k
  | 0, _ => rfl
  | k + 1, h => by
    obtain ⟨h1, h2⟩ := hr.2 k (by omega)
    rw [allC, List.countP_append, count_nom hr k (by omega)]
    have : colsA 0 k (nth lv k) = colsQ 0 k 0 (nth lv k).toNat := rfl
    rw [this, count_one, if_pos ⟨h1, by omega⟩]
theorem nom_count {lv : List Int} {xss : List (List Int)} (h : ScC 0 lv xss) : ∀ i, i < (scX 0 lv xss).length → (elemsTo (nth (scX 0 lv xss) i) 8).length = lv.length := by
  intro i hi
  have e : scX 0 lv xss = scR 0 lv xss := if_pos h
  rw [e] at hi ⊢
  unfold scR at hi ⊢
  rw [tab_length] at hi
  rw [tab_nth _ hi, count_set (by have := h.2; omega)]
  exact count_nom (h.1.2.2.2 i hi) _ (Nat.le_refl _)
theorem agr_ctx {lv : List Int} {xss : List (List Int)} (h : AgC lv xss) : PCtx lv.length (agTo xss xss.length) := by
  refine ⟨by omega, by have := h.1.1; omega, h.2, fun k hk => ?_⟩
  have hm : nth (agTo xss xss.length) k ∈ agTo xss xss.length := by rw [nth_eq hk]; exact List.getElem_mem hk
  obtain ⟨a, i, h1, h2, h3⟩ := (mem_agTo _).1 hm
  rw [h3]
  unfold Agree
  rw [(h.1.2.2.2 i (by omega)).1]
  exact setOf_pset _ (by have := h.1.1; omega)
theorem agr_holds {lv : List Int} {xss : List (List Int)} (h : AgC lv xss) (f t : Int) : PFun lv xss f t ↔ HoldC lv.length (agTo xss xss.length) f t := by
  have hc := agr_ctx h
  have hN8 : lv.length ≤ 8 := by have := h.1.1; omega
  have key : PSet lv.length f = true → PSet lv.length t = true → (PSub t (Clo (agTo xss xss.length) lv.length f) = true ↔ ∀ k i, k < xss.length → i < k → FrK f t (Agree (nthL xss i) (nthL xss k))) := fun hf ht => by
    rw [psub_iff ht (show 0 ≤ Clo (agTo xss xss.length) lv.length f from (setOf_range _ _).1)]
    have hch : ∀ i : Nat, PHas (Clo (agTo xss xss.length) lv.length f) i = true ↔ i < lv.length ∧ ∀ k, k < (agTo xss xss.length).length → PSub f (nth (agTo xss xss.length) k) = true → PHas (nth (agTo xss xss.length) k) i = true := fun i => by
      unfold Clo
      rw [int_hasE]
      constructor
      · rintro ⟨h1, h2⟩
        exact ⟨h1, fun k hk hs => h2 k hk (by rw [ext_hasE]; simp [hk, hs])⟩
      · rintro ⟨h1, h2⟩
        exact ⟨h1, fun k hk hs => h2 k hk (by rw [ext_hasE, Bool.and_eq_true] at hs; exact hs.2)⟩
    constructor
    · intro hh k i hk hi hfs
      have hm : Agree (nthL xss i) (nthL xss k) ∈ agTo xss xss.length := (mem_agTo _).2 ⟨k, i, hk, hi, rfl⟩
      obtain ⟨j, hj, hje⟩ := List.mem_iff_getElem.mp hm
      have hjn : nth (agTo xss xss.length) j = Agree (nthL xss i) (nthL xss k) := by rw [nth_eq hj]; exact hje
      rw [psub_iff ht (show 0 ≤ Agree (nthL xss i) (nthL xss k) from (setOf_range _ _).1)]
      intro e he hte
      have := ((hch e).1 (hh e he hte)).2 j hj (by rw [hjn]; exact hfs)
      rw [hjn] at this; exact this
    · intro hh e he hte
      refine (hch e).2 ⟨he, fun k hk hfs => ?_⟩
      have hm : nth (agTo xss xss.length) k ∈ agTo xss xss.length := by rw [nth_eq hk]; exact List.getElem_mem hk
      obtain ⟨a, i, h1, h2, h3⟩ := (mem_agTo _).1 hm
      rw [h3] at hfs ⊢
      exact (psub_iff ht (show 0 ≤ Agree (nthL xss i) (nthL xss a) from (setOf_range _ _).1)).1 (hh a i h1 h2 hfs) e he hte
  constructor
  · rintro ⟨_, hf, ht, hh⟩
    exact ⟨hc, hf, ht, by simpa using (key hf ht).2 hh⟩
  · rintro ⟨_, hf, ht, hh⟩
    exact ⟨h.1, hf, ht, (key hf ht).1 (by simpa using hh)⟩
end Go.Proofs.Ytliecnadoklgoaa
