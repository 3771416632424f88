/- The first record of which something holds. Conditions: none. -/
import Derived.Test.YtkkkgaapkibhkaaGreatDoorBitA
namespace Go.Proofs.YtkkkgaapkibhkaaGreatDoor
open Ev
set_option linter.unusedVariables false
set_option linter.unusedSimpArgs false

/-- some record -/
def anyP (p : Int → Int → Bool) (xs ys : List Int) : Bool := (List.range xs.length).any fun k => p (nth xs k) (nth ys k)
/-- the first place, or -1 -/
def idxP (p : Int → Int → Bool) (xs ys : List Int) : Int := match (List.range xs.length).find? fun k => p (nth xs k) (nth ys k) with | some k => (k : Int) | none => -1
theorem idxP_none {p : Int → Int → Bool} {xs ys : List Int} (h : ∀ j, j < xs.length → p (nth xs j) (nth ys j) = false) : idxP p xs ys = -1 := by
  unfold idxP
  rw [List.find?_eq_none.2]
  intro k hk
  rw [h k (List.mem_range.1 hk)]; simp
theorem idxP_some {p : Int → Int → Bool} {xs ys : List Int} {i : Nat} (hi : i < xs.length) (hp : p (nth xs i) (nth ys i) = true) (h : ∀ j, j < i → p (nth xs j) (nth ys j) = false) : idxP p xs ys = i := by
  unfold idxP
  rw [List.find?_range_eq_some.2]
  exact ⟨hp, List.mem_range.2 hi, fun j hj => by simp [h j hj]⟩
theorem idxP_any {p : Int → Int → Bool} {xs ys : List Int} : (0 ≤ idxP p xs ys) ↔ anyP p xs ys = true := by
  unfold idxP anyP
  cases h : (List.range xs.length).find? fun k => p (nth xs k) (nth ys k) with
  | none =>
    rw [List.find?_eq_none] at h
    simp only [List.any_eq_true]
    exact ⟨fun h9 => absurd h9 (by decide), fun ⟨k, hk, hp⟩ => absurd hp (h k hk)⟩
  | some k =>
    have h1 := List.find?_some h
    have h2 := List.mem_of_find?_eq_some h
    simp only [List.any_eq_true]
    exact ⟨fun _ => ⟨k, h2, h1⟩, fun _ => Int.natCast_nonneg k⟩
theorem idxP_iff {p : Int → Int → Bool} {xs ys : List Int} {i : Nat} (hi : i < xs.length) (h : p (nth xs i) (nth ys i) = true → ∀ j, j < i → p (nth xs j) (nth ys j) = false) : idxP p xs ys = i ↔ p (nth xs i) (nth ys i) = true := by
  constructor
  · intro e
    unfold idxP at e
    cases hf : (List.range xs.length).find? fun k => p (nth xs k) (nth ys k) with
    | none => rw [hf] at e; simp only at e; omega
    | some k =>
      rw [hf] at e
      simp only at e
      have h1 := List.find?_some hf
      have : k = i := by omega
      rw [this] at h1; exact h1
  · intro hp; exact idxP_some hi hp (h hp)
theorem idxP_range {p : Int → Int → Bool} {xs ys : List Int} (hl : xs.length ≤ 64) : -1 ≤ idxP p xs ys ∧ idxP p xs ys < 64 := by
  unfold idxP
  cases hf : (List.range xs.length).find? fun k => p (nth xs k) (nth ys k) with
  | none => simp
  | some k =>
    have h2 := List.mem_range.1 (List.mem_of_find?_eq_some hf)
    simp only
    omega
end Go.Proofs.YtkkkgaapkibhkaaGreatDoor
