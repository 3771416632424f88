/- Products of lists of concepts. Conditions: none. -/
import Derived.Test.YtkkkgaapkibhkaaAcc
import Derived.Test.YtkkkgaapkibhkaaOrder
namespace Go.Proofs.Ytkkkgaapkibhkaa
open Ev
set_option linter.unusedVariables false
set_option linter.unusedSimpArgs false
set_option maxHeartbeats 4000000

/-- some pair of the first K has both -/
def prodP (F S : List Int) (K g a : Nat) : Bool := (List.range K).any fun k => PHas (nth F k) g && PHas (nth S k) a
theorem prodP_succ (F S : List Int) (K g a : Nat) : prodP F S (K + 1) g a = (prodP F S K g a || (PHas (nth F K) g && PHas (nth S K) a)) := by
  simp [prodP, List.range_succ]
def prodRow (F S : List Int) (M K g : Nat) : Int := setOf (fun a => prodP F S K g a) M
theorem prodRow_has {F S : List Int} {M K g : Nat} (hS : PSet M (nth S K) = true) (hg : PHas (nth F K) g = true) : (((prodRow F S M K g).toNat ||| (nth S K).toNat : Nat) : Int) = prodRow F S M (K + 1) g := by
  have h1 : ((prodRow F S M K g).toNat ||| (nth S K).toNat) = ((prodRow F S M K g).toNat ||| (setOf (fun i => PHas (nth S K) i) M).toNat) := by rw [← setOf_self hS]
  rw [h1]
  unfold prodRow
  rw [setOf_orr]
  exact setOf_congr fun a _ => by rw [prodP_succ, hg, Bool.true_and]
theorem prodRow_idem {F S : List Int} {M K g : Nat} (hS : PSet M (nth S K) = true) (hg : PHas (nth F K) g = true) : (((prodRow F S M (K + 1) g).toNat ||| (nth S K).toNat : Nat) : Int) = prodRow F S M (K + 1) g := by
  have h1 : ((prodRow F S M (K + 1) g).toNat ||| (nth S K).toNat) = ((prodRow F S M (K + 1) g).toNat ||| (setOf (fun i => PHas (nth S K) i) M).toNat) := by rw [← setOf_self hS]
  rw [h1]
  unfold prodRow
  rw [setOf_orr]
  exact setOf_congr fun a _ => by rw [prodP_succ, hg]; cases prodP F S K g a <;> cases PHas (nth S K) a <;> rfl
theorem prodRow_not {F S : List Int} {M K g : Nat} (hg : PHas (nth F K) g = false) : prodRow F S M (K + 1) g = prodRow F S M K g := setOf_congr fun a _ => by rw [prodP_succ, hg, Bool.false_and, Bool.or_false]
theorem prodRow_zero (F S : List Int) (M g : Nat) : prodRow F S M 0 g = 0 := by
  unfold prodRow
  have : ∀ M, setOf (fun a => prodP F S 0 g a) M = 0 := by
    intro M
    induction M with
    | zero => rfl
    | succ M ih => simp only [setOf, ih]; simp [prodP]
  exact this M
def ProdC (n m : Int) (F S : List Int) : Prop := (0 ≤ n ∧ n ≤ 8) ∧ (0 ≤ m ∧ m ≤ 6) ∧ ∀ k, k < F.length → PSet n (nth F k) = true ∧ PSet m (nth S k) = true
noncomputable instance (n m : Int) (F S : List Int) : Decidable (ProdC n m F S) := Classical.propDecidable _
noncomputable def prodV (T key : Nat) (n m : Int) (F S : List Int) : AV := if ProdC n m F S then rowR 1 T key (ints (tab (prodRow F S m.toNat F.length) n.toNat)) else .sl 0 .lit []
end Go.Proofs.Ytkkkgaapkibhkaa
