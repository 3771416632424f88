/- Neighbours in the lattice: plain Lean. Conditions: none. -/
import Derived.Test.YthdeaenleimbeaaDoorLat
namespace Go.Proofs.YthdeaenleimbeaaDoor
open Ev
set_option linter.unusedVariables false
set_option linter.unusedSimpArgs false

def undB (F : List Int) (a b : Nat) : Bool := decide (a ≠ b) && PSub (nth F a) (nth F b)
/-- b covers a -/
def covB (F : List Int) (a b : Nat) : Bool := undB F a b && (List.range F.length).all fun x => !(undB F a x && undB F x b)
def srtB (F : List Int) (up : Bool) (a b : Nat) : Bool := if up then PSub (nth F a) (nth F b) else PSub (nth F b) (nth F a)
def fineB (F : List Int) (up : Bool) (a b k : Nat) : Bool := decide (k = a) || decide (k = b) || !srtB F up a k || !srtB F up k b
/-- the reference's neighbour -/
def nbB (F : List Int) (up : Bool) (a b : Nat) : Bool := decide (b ≠ a) && srtB F up a b && (List.range F.length).all fun k => fineB F up a b k
theorem ne_dec (a b : Nat) : decide (a ≠ b) = !decide (b = a) := by
  by_cases h : b = a
  · subst h; simp
  · have h2 : a ≠ b := fun e => h e.symm
    simp [h, h2]
theorem ne_dec2 (a b : Nat) : decide (a ≠ b) = !decide (a = b) := by simp
theorem nb_up (F : List Int) (a b : Nat) : nbB F true a b = covB F a b := by
  unfold nbB covB undB
  have h : ((List.range F.length).all fun k => fineB F true a b k) = (List.range F.length).all fun x => !(decide (a ≠ x) && PSub (nth F a) (nth F x) && (decide (x ≠ b) && PSub (nth F x) (nth F b))) := by
    congr 1
    funext x
    unfold fineB srtB
    rw [ne_dec a x, ne_dec2 x b]
    simp only [if_true]
    cases decide (x = a) <;> cases decide (x = b) <;> cases PSub (nth F a) (nth F x) <;> cases PSub (nth F x) (nth F b) <;> rfl
  rw [h, ne_dec b a, ← ne_dec2 a b]
  rfl
theorem nb_down (F : List Int) (a b : Nat) : nbB F false a b = covB F b a := by
  unfold nbB covB undB
  have h : ((List.range F.length).all fun k => fineB F false a b k) = (List.range F.length).all fun x => !(decide (b ≠ x) && PSub (nth F b) (nth F x) && (decide (x ≠ a) && PSub (nth F x) (nth F a))) := by
    congr 1
    funext x
    unfold fineB srtB
    rw [ne_dec b x, ne_dec2 x a]
    simp only [Bool.false_eq_true, if_false]
    cases decide (x = a) <;> cases decide (x = b) <;> cases PSub (nth F b) (nth F x) <;> cases PSub (nth F x) (nth F a) <;> rfl
  rw [h]
  rfl
def nbL (F : List Int) (up : Bool) (a : Nat) : List Int := selTo (nbB F up a) F.length
def irrB (F : List Int) (up : Bool) (a : Nat) : Bool := decide ((nbL F up a).length = 1)
noncomputable def irrL (n : Int) (xs : List Int) (up : Bool) : List Int := selTo (irrB (fsts (conW n xs)) up) (conL n xs).length
theorem irrL_len (n : Int) (xs : List Int) (up : Bool) : (irrL n xs up).length ≤ 64 := Nat.le_trans (selTo_len _ _) (conL_len _ _)
end Go.Proofs.YthdeaenleimbeaaDoor
