/- What the program's lectic sort answers for the list of all sets of up to six elements, in this seat's program. Conditions: the library's table of trailing zeros is laid. -/
import Derived.Test.YtkkkgaapkibhkaaGreatDoorSortA
import Derived.Test.YtkkkgaapkibhkaaGreatDoorEvClone
import Derived.Test.YtkkkgaapkibhkaaGreatDoorEvOpen
import Derived.Sort.OwnSortedInts
import Derived.WalkSmall
namespace Go.Proofs.YtkkkgaapkibhkaaGreatDoor
open Go.RowKit Go.Lib Go.Sort Go.Shelf
set_option linter.unusedVariables false
set_option linter.unusedSimpArgs false

/-- all sets of N elements, as the program lists them -/
def setsF (N : Nat) : List (Fin 64) := (List.range (2 ^ N)).map fun i => Fin.ofNat 64 i
/-- .. and in their order -/
def lecF (N : Nat) : List (Fin 64) := ((List.range 64).map fun i => Fin.ofNat 64 (Lect.rev6 i)).filter fun s => decide (s.val < 2 ^ N)
def intsF (l : List (Fin 64)) : List Int := l.map fun x => (x.val : Int)
theorem setsF_len (N : Nat) : (setsF N).length = 2 ^ N := by simp [setsF]
theorem lecF_perm : ∀ N : Fin 7, (lecF N.val).isPerm (setsF N.val) = true := by decide +kernel
theorem lecF_sorted : ∀ N : Fin 7, (lecF N.val).Pairwise (fun x y => ltOf cfF y x = false) := by
  intro N
  have h : ∀ N : Fin 7, (lecF N.val).Pairwise (fun x y => Lect.rev6 x.val < Lect.rev6 y.val) := by decide +kernel
  exact (h N).imp fun {a b} h => by rw [ltF]; simp; omega
theorem lecF_compact : ∀ N : Fin 7, Lib.compact (intsF (lecF N.val)) = intsF (lecF N.val) := by decide +kernel
theorem lecF_len {N : Nat} (h : N ≤ 6) : (lecF N).length = 2 ^ N := by
  have := (List.isPerm_iff.1 (lecF_perm ⟨N, by omega⟩)).length_eq
  rw [setsF_len] at this; exact this
theorem lecF_merge {N : Nat} (h : N ≤ 6) : (setsF N).mergeSort (fun x y => !(ltOf cfF) y x) = lecF N := by
  have hp := List.isPerm_iff.1 (lecF_perm ⟨N, by omega⟩)
  have hs := lecF_sorted ⟨N, by omega⟩
  have hm := List.mergeSort_perm (setsF N) (fun x y => !(ltOf cfF) y x)
  have hms : ((setsF N).mergeSort (fun x y => !(ltOf cfF) y x)).Pairwise (fun x y => ltOf cfF y x = false) := by
    have := List.pairwise_mergeSort (le := fun x y : Fin 64 => !(ltOf cfF) y x) (fun a b c h1 h2 => by rw [ltF] at *; simp at *; omega) (fun a b => by rw [ltF, ltF]; simp; omega) (setsF N)
    exact this.imp fun {a b} h => by simpa using h
  refine List.Perm.eq_of_pairwise (le := fun x y => ltOf cfF y x = false) ?_ hms hs (hm.trans hp.symm)
  intro a b _ _ h1 h2
  exact totF a b h2 h1
end Go.Proofs.YtkkkgaapkibhkaaGreatDoor
