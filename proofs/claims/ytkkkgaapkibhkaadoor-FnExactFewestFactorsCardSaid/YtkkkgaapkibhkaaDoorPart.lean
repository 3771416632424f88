/- Partial contexts: what is one; how many completions. Conditions: none. -/
import Derived.Test.YtkkkgaapkibhkaaDoorOrder
import Derived.Test.YtkkkgaapkibhkaaDoorCtx
namespace Go.Proofs.YtkkkgaapkibhkaaDoor
open Ev
set_option linter.unusedVariables false
set_option linter.unusedSimpArgs false
set_option maxHeartbeats 4000000

theorem take_succ_get {α : Type} {l : List α} {j : Nat} {a : α} (h : l[j]? = some a) : l.take (j + 1) = l.take j ++ [a] := by rw [List.take_add_one, h]; rfl
theorem elemsTo_none {s : Int} (h : PSet 8 s = false) (n : Nat) : elemsTo s n = [] := by
  induction n with
  | zero => rfl
  | succ n ih => rw [elemsTo_succ, ih]; simp [h]
theorem elemsTo_bit {s : Int} (h : PSet 8 s = true) (i : Nat) : ((elemsTo s (i + 1)).length : Int) = (elemsTo s i).length + s / 2 ^ i % 2 := by
  rw [elemsTo_succ, List.length_append, h]
  simp only [Bool.true_and, PHas, Int.toNat_natCast, decide_eq_true_eq]
  split <;> simp <;> omega
theorem elemsTo_end {s : Int} {i : Nat} (h : PSet 8 s = true) (h0 : s / 2 ^ i = 0) : ∀ j, elemsTo s (i + j) = elemsTo s i
  | 0 => rfl
  | j + 1 => by
    rw [← Nat.add_assoc, elemsTo_succ, elemsTo_end h h0 j]
    have h1 := pset_lt h
    have : s / 2 ^ (i + j) = 0 := by
      rw [Int.pow_add, ← Int.ediv_ediv_of_nonneg (Int.le_of_lt (pow_pos2 i)), h0]; simp
    simp [PHas, Int.toNat_natCast, this, show (((i + j : Nat) : Int)).toNat = i + j from Int.toNat_natCast _]
    have e : ((i : Int) + (j : Int)).toNat = i + j := by omega
    rw [e, this]; simp
theorem elems_nat (s : Int) : (elemsTo s 8).length ≤ 8 := elemsTo_len s 8
/-- the number of open pairs -/
def opensTo (ms : List Int) : Nat → Nat
  | 0 => 0
  | i + 1 => opensTo ms i + (elemsTo (nth ms i) 8).length
theorem opensTo_le (ms : List Int) (i : Nat) : opensTo ms i ≤ 8 * i := by
  induction i with
  | zero => exact Nat.le_refl _
  | succ i ih => have := elems_nat (nth ms i); simp only [opensTo]; omega
def opens (ms : List Int) : Nat := opensTo ms ms.length
def pairV (g m : Int) : AV := .agg [.int .i64 g, .int .i64 m]
/-- the open pairs -/
def pairsTo (ms : List Int) : Nat → List AV
  | 0 => []
  | g + 1 => pairsTo ms g ++ (elemsTo (nth ms g) 8).map (pairV g)
theorem pairsTo_len (ms : List Int) (g : Nat) : (pairsTo ms g).length = opensTo ms g := by
  induction g with
  | zero => rfl
  | succ g ih => simp [pairsTo, opensTo, ih]
/-- what is a partial context -/
def PPart (n : Int) (ss ms : List Int) : Prop := PCtx n ss ∧ PCtx n ms ∧ ss.length = ms.length ∧ opens ms ≤ 6 ∧ ∀ k, k < ss.length → (nth ss k).toNat &&& (nth ms k).toNat = 0
noncomputable instance (n : Int) (ss ms : List Int) : Decidable (PPart n ss ms) := Classical.propDecidable _
end Go.Proofs.YtkkkgaapkibhkaaDoor
