/- Models after a set: plain Lean. Conditions: none. -/
import Derived.Test.YtlglhokpaplifaaGreatDoorConA
import Derived.Test.YtlglhokpaplifaaGreatDoorSortF
namespace Go.Proofs.YtlglhokpaplifaaGreatDoor
open Ev
set_option linter.unusedVariables false
set_option linter.unusedSimpArgs false

/- a growing map, again and again until nothing grows -/
def GrowsTo (P : Nat → Nat) : Prop := ∀ t, t < 64 → t ≤ P t ∧ P t < 64
def itr (P : Nat → Nat) : Nat → Nat → Nat
  | 0, t => t
  | f + 1, t => if P t = t then t else itr P f (P t)
theorem itr_fuel {P : Nat → Nat} (hP : GrowsTo P) : ∀ (m t f g : Nat), t < 64 → 64 - t ≤ m → 64 - t ≤ f → 64 - t ≤ g → itr P f t = itr P g t
  | 0, t, _, _, ht, hm, _, _ => by omega
  | m + 1, t, f, g, ht, hm, hf, hg => by
    obtain ⟨f, rfl⟩ : ∃ f', f = f' + 1 := ⟨f - 1, by omega⟩
    obtain ⟨g, rfl⟩ : ∃ g', g = g' + 1 := ⟨g - 1, by omega⟩
    obtain ⟨h1, h2⟩ := hP t ht
    unfold itr
    by_cases e : P t = t
    · rw [if_pos e, if_pos e]
    · rw [if_neg e, if_neg e]
      exact itr_fuel hP m (P t) f g h2 (by omega) (by omega) (by omega)
def fixG (P : Nat → Nat) (t : Nat) : Nat := itr P 64 t
theorem fixG_at {P : Nat → Nat} {t : Nat} (e : P t = t) : fixG P t = t := by unfold fixG itr; rw [if_pos e]
theorem fixG_go {P : Nat → Nat} (hP : GrowsTo P) {t : Nat} (ht : t < 64) (e : P t ≠ t) : fixG P t = fixG P (P t) := by
  have h : fixG P t = itr P 63 (P t) := by unfold fixG; rw [itr]; rw [if_neg e]
  obtain ⟨h1, h2⟩ := hP t ht
  rw [h]
  exact itr_fuel hP 64 (P t) 63 64 h2 (by omega) (by omega) (by omega)
theorem itr_ge {P : Nat → Nat} (hP : GrowsTo P) : ∀ (f t : Nat), t < 64 → t ≤ itr P f t ∧ itr P f t < 64
  | 0, t, ht => ⟨Nat.le_refl _, ht⟩
  | f + 1, t, ht => by
    obtain ⟨h1, h2⟩ := hP t ht
    unfold itr
    by_cases e : P t = t
    · rw [if_pos e]; exact ⟨Nat.le_refl _, ht⟩
    · rw [if_neg e]
      obtain ⟨h3, h4⟩ := itr_ge hP f (P t) h2
      exact ⟨by omega, h4⟩
theorem fixG_lt {P : Nat → Nat} (hP : GrowsTo P) {t : Nat} (ht : t < 64) : fixG P t < 64 := (itr_ge hP 64 t ht).2
theorem fixG_iff {P : Nat → Nat} (hP : GrowsTo P) {t : Nat} (ht : t < 64) : fixG P t = t ↔ P t = t := by
  constructor
  · intro h
    refine Classical.byContradiction fun e => ?_
    rw [fixG_go hP ht e] at h
    obtain ⟨h1, h2⟩ := hP t ht
    have := (itr_ge hP 64 (P t) h2).1
    unfold fixG at h
    omega
  · exact fixG_at
/- rules -/
def ClosR (A B : Nat → Nat) (n s : Nat) : Prop := ∀ i, i < n → A i &&& s = A i → B i &&& s = B i
theorem or_ge (a b : Nat) : a ≤ a ||| b := Nat.left_le_or
theorem or_same {a b : Nat} : a ||| b = a ↔ b &&& a = b := by
  constructor
  · intro h
    apply Nat.eq_of_testBit_eq
    intro i
    have := congrArg (fun x => x.testBit i) h
    simp only [Nat.testBit_or] at this
    rw [Nat.testBit_and]
    revert this
    cases a.testBit i <;> cases b.testBit i <;> simp
  · intro h
    apply Nat.eq_of_testBit_eq
    intro i
    have := congrArg (fun x => x.testBit i) h
    simp only [Nat.testBit_and] at this
    rw [Nat.testBit_or]
    revert this
    cases a.testBit i <;> cases b.testBit i <;> simp
theorem or64 {a b : Nat} (ha : a < 64) (hb : b < 64) : a ||| b < 64 := Nat.or_lt_two_pow (n := 6) ha hb
/-- the reference's pass -/
def pas (A B : Nat → Nat) : Nat → Nat → Nat
  | 0, s => s
  | i + 1, s => if A i &&& pas A B i s = A i ∧ B i &&& pas A B i s ≠ B i then pas A B i s ||| B i else pas A B i s
theorem pas_ge (A B : Nat → Nat) (n s : Nat) : s ≤ pas A B n s := by
  induction n with
  | zero => exact Nat.le_refl _
  | succ n ih =>
    unfold pas; split
    · exact Nat.le_trans ih (or_ge _ _)
    · exact ih
theorem pas_lt {A B : Nat → Nat} {n s : Nat} (hs : s < 64) (hB : ∀ i, i < n → B i < 64) : pas A B n s < 64 := by
  induction n with
  | zero => exact hs
  | succ n ih =>
    have := ih fun i hi => hB i (by omega)
    unfold pas; split
    · exact or64 this (hB n (by omega))
    · exact this
theorem pas_iff {A B : Nat → Nat} {n s : Nat} : pas A B n s = s ↔ ClosR A B n s := by
  induction n with
  | zero => exact ⟨fun _ i hi => by omega, fun _ => rfl⟩
  | succ n ih =>
    have hge := pas_ge A B n s
    constructor
    · intro h
      have hn : pas A B n s = s := by
        unfold pas at h
        split at h
        · have := or_ge (pas A B n s) (B n); omega
        · exact h
      have hc := ih.1 hn
      unfold pas at h
      rw [hn] at h
      intro i hi hA
      by_cases e : i = n
      · subst e
        split at h
        · rename_i h2; exact absurd (or_same.1 h) h2.2
        · rename_i h2
          refine Classical.byContradiction fun hno => h2 ⟨hA, hno⟩
      · exact hc i (by omega) hA
    · intro h
      have hn := ih.2 fun i hi => h i (by omega)
      unfold pas
      rw [hn, if_neg fun h2 => h2.2 (h n (by omega) h2.1)]
theorem pas_grows {A B : Nat → Nat} {n : Nat} (hB : ∀ i, i < n → B i < 64) : GrowsTo (pas A B n) := fun t ht => ⟨pas_ge _ _ _ _, pas_lt ht hB⟩
/-- the program's step -/
def onc (A B : Nat → Nat) (s : Nat) : Nat → Nat
  | 0 => s
  | i + 1 => if A i &&& s = A i then onc A B s i ||| B i else onc A B s i
theorem onc_ge (A B : Nat → Nat) (n s : Nat) : s ≤ onc A B s n := by
  induction n with
  | zero => exact Nat.le_refl _
  | succ n ih =>
    unfold onc; split
    · exact Nat.le_trans ih (or_ge _ _)
    · exact ih
theorem onc_lt {A B : Nat → Nat} {n s : Nat} (hs : s < 64) (hB : ∀ i, i < n → B i < 64) : onc A B s n < 64 := by
  induction n with
  | zero => exact hs
  | succ n ih =>
    have := ih fun i hi => hB i (by omega)
    unfold onc; split
    · exact or64 this (hB n (by omega))
    · exact this
theorem onc_iff {A B : Nat → Nat} {n s : Nat} : onc A B s n = s ↔ ClosR A B n s := by
  induction n with
  | zero => exact ⟨fun _ i hi => by omega, fun _ => rfl⟩
  | succ n ih =>
    have hge := onc_ge A B n s
    constructor
    · intro h
      have hn : onc A B s n = s := by
        unfold onc at h
        split at h
        · have := or_ge (onc A B s n) (B n); omega
        · exact h
      have hc := ih.1 hn
      unfold onc at h
      rw [hn] at h
      intro i hi hA
      by_cases e : i = n
      · subst e
        rw [if_pos hA] at h
        exact or_same.1 h
      · exact hc i (by omega) hA
    · intro h
      have hn := ih.2 fun i hi => h i (by omega)
      unfold onc
      rw [hn]
      split
      · rename_i hA; exact or_same.2 (h n (by omega) hA)
      · rfl
theorem onc_grows {A B : Nat → Nat} {n : Nat} (hB : ∀ i, i < n → B i < 64) : GrowsTo (fun s => onc A B s n) := fun t ht => ⟨onc_ge _ _ _ _, onc_lt ht hB⟩
/- the next of them -/
def IsNx (cand : Nat → Bool) (N m : Nat) : Prop := m < 2 ^ N ∧ cand m = true ∧ ∀ s, s < 2 ^ N → cand s = true → Lect.rev6 m ≤ Lect.rev6 s
theorem rev6_inj {a b : Nat} (ha : a < 64) (hb : b < 64) (h : Lect.rev6 a = Lect.rev6 b) : a = b := by
  have h1 := (Lect.rev_rev ⟨a, ha⟩).1
  have h2 := (Lect.rev_rev ⟨b, hb⟩).1
  simp only at h1 h2
  rw [h] at h1
  exact h1.symm.trans h2
open Classical in
noncomputable def nxV (cand : Nat → Bool) (N : Nat) : AV := if h : ∃ m, IsNx cand N m then .tup [.int .i64 (Classical.choose h : Nat), .bool true] else .tup [.int .i64 0, .bool false]
theorem pow64 {N : Nat} (hN : N ≤ 6) : 2 ^ N ≤ 64 := by have : 2 ^ N ≤ 2 ^ 6 := Nat.pow_le_pow_right (by decide) hN; omega
theorem nxV_eq {cand : Nat → Bool} {N m : Nat} (hN : N ≤ 6) (h : IsNx cand N m) : nxV cand N = .tup [.int .i64 m, .bool true] := by
  have hex : ∃ m, IsNx cand N m := ⟨m, h⟩
  unfold nxV
  rw [dif_pos hex]
  have h2 := Classical.choose_spec hex
  generalize Classical.choose hex = m2 at *
  have hp := pow64 hN
  have : m2 = m := rev6_inj (by have := h2.1; omega) (by have := h.1; omega) (Nat.le_antisymm (h2.2.2 m h.1 h.2.1) (h.2.2 m2 h2.1 h2.2.1))
  rw [this]
theorem nxV_none {cand : Nat → Bool} {N : Nat} (h : ∀ s, s < 2 ^ N → cand s = false) : nxV cand N = .tup [.int .i64 0, .bool false] := by
  unfold nxV
  rw [dif_neg]
  rintro ⟨m, h1, h2, _⟩
  rw [h m h1] at h2
  cases h2
theorem lecN_sorted : ∀ N : Fin 7, (lecN N.val).Pairwise (fun x y => Lect.rev6 x < Lect.rev6 y) := by decide +kernel
theorem lecN_all : ∀ N : Fin 7, (List.range (2 ^ N.val)).all (fun s => (lecN N.val).contains s) = true := by decide +kernel
theorem lecN_mem {N s : Nat} (hN : N ≤ 6) (h : s < 2 ^ N) : s ∈ lecN N := by
  have := lecN_all ⟨N, by omega⟩
  simp only [List.all_eq_true, List.mem_range] at this
  simpa using this s h
theorem lecN_first {cand : Nat → Bool} {N i : Nat} (hN : N ≤ 6) (hi : i < (lecN N).length) (hc : cand (lecN N)[i] = true) (hno : ∀ j, (h : j < i) → cand ((lecN N)[j]'(by omega)) = false) : IsNx cand N (lecN N)[i] := by
  refine ⟨lecN_lt hN (List.getElem_mem hi), hc, fun s hs hcs => ?_⟩
  obtain ⟨j, hj, rfl⟩ := List.getElem_of_mem (lecN_mem hN hs)
  by_cases e : j < i
  · rw [hno j e] at hcs; cases hcs
  · by_cases e2 : i = j
    · subst e2; exact Nat.le_refl _
    · have := List.pairwise_iff_getElem.1 (lecN_sorted ⟨N, by omega⟩) i j hi hj (by omega)
      exact Nat.le_of_lt this
theorem lecN_none {cand : Nat → Bool} {N : Nat} (hN : N ≤ 6) (hno : ∀ j, (h : j < (lecN N).length) → cand (lecN N)[j] = false) : ∀ s, s < 2 ^ N → cand s = false := fun s hs => by
  obtain ⟨j, hj, rfl⟩ := List.getElem_of_mem (lecN_mem hN hs)
  exact hno j hj
/-- the reference's search, up to a set -/
def IsBest (cand : Nat → Bool) (k best : Nat) (found : Bool) : Prop := if found = true then best < k ∧ cand best = true ∧ ∀ s, s < k → cand s = true → Lect.rev6 best ≤ Lect.rev6 s else best = 0 ∧ ∀ s, s < k → cand s = false
theorem best_zero (cand : Nat → Bool) : IsBest cand 0 0 false := by unfold IsBest; simp
theorem best_skip {cand : Nat → Bool} {k best : Nat} {found : Bool} (h : IsBest cand k best found) (hk : cand k = false) : IsBest cand (k + 1) best found := by
  unfold IsBest at *
  split at h
  · rename_i hf
    rw [if_pos hf]
    refine ⟨by omega, h.2.1, fun s hs hc => ?_⟩
    by_cases e : s = k
    · subst e; rw [hk] at hc; cases hc
    · exact h.2.2 s (by omega) hc
  · rename_i hf
    rw [if_neg hf]
    refine ⟨h.1, fun s hs => ?_⟩
    by_cases e : s = k
    · subst e; exact hk
    · exact h.2 s (by omega)
theorem best_stay {cand : Nat → Bool} {k best : Nat} (h : IsBest cand k best true) (hk : befB k best = false) : IsBest cand (k + 1) best true := by
  unfold IsBest at *
  rw [if_pos rfl] at *
  refine ⟨by omega, h.2.1, fun s hs hc => ?_⟩
  by_cases e : s = k
  · subst e; unfold befB at hk; simp at hk; exact hk
  · exact h.2.2 s (by omega) hc
theorem best_take {cand : Nat → Bool} {k best : Nat} {found : Bool} (h : IsBest cand k best found) (hc : cand k = true) (hk : found = true → befB k best = true) : IsBest cand (k + 1) k true := by
  unfold IsBest at *
  rw [if_pos rfl]
  refine ⟨by omega, hc, fun s hs hcs => ?_⟩
  by_cases e : s = k
  · subst e; exact Nat.le_refl _
  · split at h
    · rename_i hf
      have h1 := h.2.2 s (by omega) hcs
      have h2 := hk hf
      unfold befB at h2; simp at h2
      omega
    · rw [h.2 s (by omega)] at hcs; cases hcs
theorem best_end {cand : Nat → Bool} {N best : Nat} {found : Bool} (hN : N ≤ 6) (h : IsBest cand (2 ^ N) best found) : nxV cand N = .tup [.int .i64 best, .bool found] := by
  unfold IsBest at h
  cases found with
  | true => rw [if_pos rfl] at h; exact nxV_eq hN h
  | false =>
    rw [if_neg (by decide)] at h
    rw [h.1]
    exact nxV_none h.2
end Go.Proofs.YtlglhokpaplifaaGreatDoor
