/- Strong rules: lists of rules in laws, both sides. Conditions: none. -/
import Derived.Test.YtkkkgaapkibhkaaDoorStrP
namespace Go.Proofs.YtkkkgaapkibhkaaDoor
open Ev
set_option linter.unusedVariables false
set_option linter.unusedSimpArgs false
set_option maxHeartbeats 4000000

/-- marks: two numbers for each record -/
def mk2a (k : Int) (n : Nat) : List Int := tab (fun j => k + 2 * j) n
def mk2b (k : Int) (n : Nat) : List Int := tab (fun j => k + 2 * j + 1) n
theorem mk2a_len (k : Int) (n : Nat) : (mk2a k n).length = n := by simp [mk2a]
theorem mk2b_len (k : Int) (n : Nat) : (mk2b k n).length = n := by simp [mk2b]
theorem mk2a_nth (k : Int) {n j : Nat} (h : j < n) : nth (mk2a k n) j = k + 2 * j := by unfold mk2a; rw [tab_nth _ h]
theorem mk2b_nth (k : Int) {n j : Nat} (h : j < n) : nth (mk2b k n) j = k + 2 * j + 1 := by unfold mk2b; rw [tab_nth _ h]
def strK (num den : Int) : Nat := if StrC num den then 2 else 0
end Go.Proofs.YtkkkgaapkibhkaaDoor
