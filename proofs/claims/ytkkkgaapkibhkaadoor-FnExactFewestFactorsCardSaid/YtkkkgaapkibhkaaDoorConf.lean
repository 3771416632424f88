/- How often a rule holds. Conditions: none. -/
import Derived.Test.YtkkkgaapkibhkaaDoorExt
namespace Go.Proofs.YtkkkgaapkibhkaaDoor
open Ev
set_option linter.unusedVariables false
set_option linter.unusedSimpArgs false
set_option maxHeartbeats 4000000

noncomputable def supV (n : Int) (xs : List Int) (s : Int) : Int := if PCtx n xs ∧ PSet n s = true then (elemsTo (Ext xs s) 8).length else -1
def ConfC (n : Int) (xs : List Int) (a b : Int) : Prop := PCtx n xs ∧ PSet n a = true ∧ PSet n b = true
noncomputable instance (n : Int) (xs : List Int) (a b : Int) : Decidable (ConfC n xs a b) := Classical.propDecidable _
noncomputable def confA (n : Int) (xs : List Int) (a b : Int) : Int := if ConfC n xs a b then supV n xs ((a.toNat ||| b.toNat : Nat) : Int) else 0
noncomputable def confB (n : Int) (xs : List Int) (a b : Int) : Int := if ConfC n xs a b then supV n xs a else 0
end Go.Proofs.YtkkkgaapkibhkaaDoor
