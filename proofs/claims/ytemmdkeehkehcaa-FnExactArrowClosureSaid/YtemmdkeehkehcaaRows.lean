/-
  No cell of these rows narrows 'for every input' (looked for: loops, veiled, ifaces, maps, wideKeys, modest, calm, conditions, laid).
  DERIVED. THE GIVEN ROWS OF THIS SEAT. 11 by the template 'for every input the law returns true; each argument reads behind the call as it read before'; 0 by the template 'total and deterministic' (their statements: YtemmdkeehkehcaaTotals.lean).
  GIVEN WITH THE SEED: the statements are not yours to turn. If you find one false, say at which input.
  Laid BY PROGRAM, IN A SANDBOX (cutbox-rows.mjs): the forced cells as the released guide's own fill.sh prints them over the translation fc6b1054d1fc5111… (all of the seat's roots in one cut). By AI agents, Wed Nov 11 2026. No macro, syntax, notation, axiom, sorry.
-/
import Derived.Test.YtemmdkeehkehcaaChecked
import GoSem.Claim
import GoSem.ClaimJoined
import GoSem.ClaimMapViews
import Derived.JoinedTies
import Derived.KernelRfl
namespace Go.Proofs.Ytemmdkeehkehcaa
/- THE CELL 'sum', in the pinned program and in every row, IS THE sha256 OF THE DUMP (.gsa) THAT YtemmdkeehkehcaaProg.lean LOADS. Nothing in Lean hashes anything: it is a label: what it is worth is what the hold of that sum in a sandbox is worth. -/
noncomputable def Try.pinned : Pinned := { name := "ytemmdkeehkehcaa", sum := "fc6b1054d1fc5111c1a640f93110b9c064578a0b64e17157bc8b778bd2a97e81", checked := Try.checked }
namespace Rows
def none {H : Type} : Left H := { results := [], args := [] }

/-- 'laws.FnExactDecideCell': WHATEVER THE INPUT: true; the input reads as it did. -/
def fnExactDecideCellSpec : ChangeSpec := { name := "fnExactDecideCell", fn := fun _ => fun
  | [d1, d2, d3, d4] => { results := [.lit (.bool true)], args := [d1, d2, d3, d4] }
  | _ => none }
def fnExactDecideCellRow : OpenClaim := { program := "ytemmdkeehkehcaa", sum := "fc6b1054d1fc5111c1a640f93110b9c064578a0b64e17157bc8b778bd2a97e81", func := "loop.example/g00596/laws.FnExactDecideCell", spec := "fnExactDecideCell", unfollowed := true, recurses := true, apart := false }
def FnExactDecideCellSaid : Prop := fnExactDecideCellRow.holds Try.pinned (OpenSpec.ofChange fnExactDecideCellSpec)

/-- ITS FALSE NEIGHBOUR: 'it returns false'. Refute it at one input. -/
def fnExactDecideCellWrong : ChangeSpec := { name := "fnExactDecideCell", fn := fun _ => fun
  | [d1, d2, d3, d4] => { results := [.lit (.bool false)], args := [d1, d2, d3, d4] }
  | _ => none }
def FnExactDecideCellWrongFalsely : Prop := fnExactDecideCellRow.holds Try.pinned (OpenSpec.ofChange fnExactDecideCellWrong)

/-- 'laws.FnExactConfidenceOf': WHATEVER THE INPUT: true; the input reads as it did. -/
def fnExactConfidenceOfSpec : ChangeSpec := { name := "fnExactConfidenceOf", fn := fun _ => fun
  | [d1, d2] => { results := [.lit (.bool true)], args := [d1, d2] }
  | _ => none }
def fnExactConfidenceOfRow : OpenClaim := { program := "ytemmdkeehkehcaa", sum := "fc6b1054d1fc5111c1a640f93110b9c064578a0b64e17157bc8b778bd2a97e81", func := "loop.example/g00596/laws.FnExactConfidenceOf", spec := "fnExactConfidenceOf", unfollowed := true, recurses := true, apart := false }
def FnExactConfidenceOfSaid : Prop := fnExactConfidenceOfRow.holds Try.pinned (OpenSpec.ofChange fnExactConfidenceOfSpec)

/-- ITS FALSE NEIGHBOUR: 'it returns false'. Refute it at one input. -/
def fnExactConfidenceOfWrong : ChangeSpec := { name := "fnExactConfidenceOf", fn := fun _ => fun
  | [d1, d2] => { results := [.lit (.bool false)], args := [d1, d2] }
  | _ => none }
def FnExactConfidenceOfWrongFalsely : Prop := fnExactConfidenceOfRow.holds Try.pinned (OpenSpec.ofChange fnExactConfidenceOfWrong)

/-- 'laws.FnExactIsArrowClosed': WHATEVER THE INPUT: true; the input reads as it did. -/
def fnExactIsArrowClosedSpec : ChangeSpec := { name := "fnExactIsArrowClosed", fn := fun _ => fun
  | [d1, d2, d3] => { results := [.lit (.bool true)], args := [d1, d2, d3] }
  | _ => none }
def fnExactIsArrowClosedRow : OpenClaim := { program := "ytemmdkeehkehcaa", sum := "fc6b1054d1fc5111c1a640f93110b9c064578a0b64e17157bc8b778bd2a97e81", func := "loop.example/g00596/laws.FnExactIsArrowClosed", spec := "fnExactIsArrowClosed", unfollowed := true, recurses := true, apart := false }
def FnExactIsArrowClosedSaid : Prop := fnExactIsArrowClosedRow.holds Try.pinned (OpenSpec.ofChange fnExactIsArrowClosedSpec)

/-- ITS FALSE NEIGHBOUR: 'it returns false'. Refute it at one input. -/
def fnExactIsArrowClosedWrong : ChangeSpec := { name := "fnExactIsArrowClosed", fn := fun _ => fun
  | [d1, d2, d3] => { results := [.lit (.bool false)], args := [d1, d2, d3] }
  | _ => none }
def FnExactIsArrowClosedWrongFalsely : Prop := fnExactIsArrowClosedRow.holds Try.pinned (OpenSpec.ofChange fnExactIsArrowClosedWrong)

/-- 'laws.FnExactAgreementContext': WHATEVER THE INPUT: true; the input reads as it did. -/
def fnExactAgreementContextSpec : ChangeSpec := { name := "fnExactAgreementContext", fn := fun _ => fun
  | [d] => { results := [.lit (.bool true)], args := [d] }
  | _ => none }
def fnExactAgreementContextRow : OpenClaim := { program := "ytemmdkeehkehcaa", sum := "fc6b1054d1fc5111c1a640f93110b9c064578a0b64e17157bc8b778bd2a97e81", func := "loop.example/g00596/laws.FnExactAgreementContext", spec := "fnExactAgreementContext", unfollowed := true, recurses := true, apart := false }
def FnExactAgreementContextSaid : Prop := fnExactAgreementContextRow.holds Try.pinned (OpenSpec.ofChange fnExactAgreementContextSpec)

/-- ITS FALSE NEIGHBOUR: 'it returns false'. Refute it at one input. -/
def fnExactAgreementContextWrong : ChangeSpec := { name := "fnExactAgreementContext", fn := fun _ => fun
  | [d] => { results := [.lit (.bool false)], args := [d] }
  | _ => none }
def FnExactAgreementContextWrongFalsely : Prop := fnExactAgreementContextRow.holds Try.pinned (OpenSpec.ofChange fnExactAgreementContextWrong)

/-- 'laws.FnExactCompletionAt': WHATEVER THE INPUT: true; the input reads as it did. -/
def fnExactCompletionAtSpec : ChangeSpec := { name := "fnExactCompletionAt", fn := fun _ => fun
  | [d1, d2] => { results := [.lit (.bool true)], args := [d1, d2] }
  | _ => none }
def fnExactCompletionAtRow : OpenClaim := { program := "ytemmdkeehkehcaa", sum := "fc6b1054d1fc5111c1a640f93110b9c064578a0b64e17157bc8b778bd2a97e81", func := "loop.example/g00596/laws.FnExactCompletionAt", spec := "fnExactCompletionAt", unfollowed := true, recurses := true, apart := false }
def FnExactCompletionAtSaid : Prop := fnExactCompletionAtRow.holds Try.pinned (OpenSpec.ofChange fnExactCompletionAtSpec)

/-- ITS FALSE NEIGHBOUR: 'it returns false'. Refute it at one input. -/
def fnExactCompletionAtWrong : ChangeSpec := { name := "fnExactCompletionAt", fn := fun _ => fun
  | [d1, d2] => { results := [.lit (.bool false)], args := [d1, d2] }
  | _ => none }
def FnExactCompletionAtWrongFalsely : Prop := fnExactCompletionAtRow.holds Try.pinned (OpenSpec.ofChange fnExactCompletionAtWrong)

/-- 'laws.FnExactSubContext': WHATEVER THE INPUT: true; the input reads as it did. -/
def fnExactSubContextSpec : ChangeSpec := { name := "fnExactSubContext", fn := fun _ => fun
  | [d1, d2, d3] => { results := [.lit (.bool true)], args := [d1, d2, d3] }
  | _ => none }
def fnExactSubContextRow : OpenClaim := { program := "ytemmdkeehkehcaa", sum := "fc6b1054d1fc5111c1a640f93110b9c064578a0b64e17157bc8b778bd2a97e81", func := "loop.example/g00596/laws.FnExactSubContext", spec := "fnExactSubContext", unfollowed := true, recurses := true, apart := false }
def FnExactSubContextSaid : Prop := fnExactSubContextRow.holds Try.pinned (OpenSpec.ofChange fnExactSubContextSpec)

/-- ITS FALSE NEIGHBOUR: 'it returns false'. Refute it at one input. -/
def fnExactSubContextWrong : ChangeSpec := { name := "fnExactSubContext", fn := fun _ => fun
  | [d1, d2, d3] => { results := [.lit (.bool false)], args := [d1, d2, d3] }
  | _ => none }
def FnExactSubContextWrongFalsely : Prop := fnExactSubContextRow.holds Try.pinned (OpenSpec.ofChange fnExactSubContextWrong)

/-- 'laws.FnExactArrowClosure': WHATEVER THE INPUT: true; the input reads as it did. -/
def fnExactArrowClosureSpec : ChangeSpec := { name := "fnExactArrowClosure", fn := fun _ => fun
  | [d1, d2] => { results := [.lit (.bool true)], args := [d1, d2] }
  | _ => none }
def fnExactArrowClosureRow : OpenClaim := { program := "ytemmdkeehkehcaa", sum := "fc6b1054d1fc5111c1a640f93110b9c064578a0b64e17157bc8b778bd2a97e81", func := "loop.example/g00596/laws.FnExactArrowClosure", spec := "fnExactArrowClosure", unfollowed := true, recurses := true, apart := false }
def FnExactArrowClosureSaid : Prop := fnExactArrowClosureRow.holds Try.pinned (OpenSpec.ofChange fnExactArrowClosureSpec)

/-- ITS FALSE NEIGHBOUR: 'it returns false'. Refute it at one input. -/
def fnExactArrowClosureWrong : ChangeSpec := { name := "fnExactArrowClosure", fn := fun _ => fun
  | [d1, d2] => { results := [.lit (.bool false)], args := [d1, d2] }
  | _ => none }
def FnExactArrowClosureWrongFalsely : Prop := fnExactArrowClosureRow.holds Try.pinned (OpenSpec.ofChange fnExactArrowClosureWrong)

/-- 'laws.FnExactIsCover': WHATEVER THE INPUT: true; the input reads as it did. -/
def fnExactIsCoverSpec : ChangeSpec := { name := "fnExactIsCover", fn := fun _ => fun
  | [d1, d2] => { results := [.lit (.bool true)], args := [d1, d2] }
  | _ => none }
def fnExactIsCoverRow : OpenClaim := { program := "ytemmdkeehkehcaa", sum := "fc6b1054d1fc5111c1a640f93110b9c064578a0b64e17157bc8b778bd2a97e81", func := "loop.example/g00596/laws.FnExactIsCover", spec := "fnExactIsCover", unfollowed := true, recurses := true, apart := false }
def FnExactIsCoverSaid : Prop := fnExactIsCoverRow.holds Try.pinned (OpenSpec.ofChange fnExactIsCoverSpec)

/-- ITS FALSE NEIGHBOUR: 'it returns false'. Refute it at one input. -/
def fnExactIsCoverWrong : ChangeSpec := { name := "fnExactIsCover", fn := fun _ => fun
  | [d1, d2] => { results := [.lit (.bool false)], args := [d1, d2] }
  | _ => none }
def FnExactIsCoverWrongFalsely : Prop := fnExactIsCoverRow.holds Try.pinned (OpenSpec.ofChange fnExactIsCoverWrong)

/-- 'laws.FnExactIsPossible': WHATEVER THE INPUT: true; the input reads as it did. -/
def fnExactIsPossibleSpec : ChangeSpec := { name := "fnExactIsPossible", fn := fun _ => fun
  | [d1, d2] => { results := [.lit (.bool true)], args := [d1, d2] }
  | _ => none }
def fnExactIsPossibleRow : OpenClaim := { program := "ytemmdkeehkehcaa", sum := "fc6b1054d1fc5111c1a640f93110b9c064578a0b64e17157bc8b778bd2a97e81", func := "loop.example/g00596/laws.FnExactIsPossible", spec := "fnExactIsPossible", unfollowed := true, recurses := true, apart := false }
def FnExactIsPossibleSaid : Prop := fnExactIsPossibleRow.holds Try.pinned (OpenSpec.ofChange fnExactIsPossibleSpec)

/-- ITS FALSE NEIGHBOUR: 'it returns false'. Refute it at one input. -/
def fnExactIsPossibleWrong : ChangeSpec := { name := "fnExactIsPossible", fn := fun _ => fun
  | [d1, d2] => { results := [.lit (.bool false)], args := [d1, d2] }
  | _ => none }
def FnExactIsPossibleWrongFalsely : Prop := fnExactIsPossibleRow.holds Try.pinned (OpenSpec.ofChange fnExactIsPossibleWrong)

/-- 'laws.FnExactIsCertain': WHATEVER THE INPUT: true; the input reads as it did. -/
def fnExactIsCertainSpec : ChangeSpec := { name := "fnExactIsCertain", fn := fun _ => fun
  | [d1, d2] => { results := [.lit (.bool true)], args := [d1, d2] }
  | _ => none }
def fnExactIsCertainRow : OpenClaim := { program := "ytemmdkeehkehcaa", sum := "fc6b1054d1fc5111c1a640f93110b9c064578a0b64e17157bc8b778bd2a97e81", func := "loop.example/g00596/laws.FnExactIsCertain", spec := "fnExactIsCertain", unfollowed := true, recurses := true, apart := false }
def FnExactIsCertainSaid : Prop := fnExactIsCertainRow.holds Try.pinned (OpenSpec.ofChange fnExactIsCertainSpec)

/-- ITS FALSE NEIGHBOUR: 'it returns false'. Refute it at one input. -/
def fnExactIsCertainWrong : ChangeSpec := { name := "fnExactIsCertain", fn := fun _ => fun
  | [d1, d2] => { results := [.lit (.bool false)], args := [d1, d2] }
  | _ => none }
def FnExactIsCertainWrongFalsely : Prop := fnExactIsCertainRow.holds Try.pinned (OpenSpec.ofChange fnExactIsCertainWrong)

/-- 'laws.FnExactCertainClosure': WHATEVER THE INPUT: true; the input reads as it did. -/
def fnExactCertainClosureSpec : ChangeSpec := { name := "fnExactCertainClosure", fn := fun _ => fun
  | [d1, d2] => { results := [.lit (.bool true)], args := [d1, d2] }
  | _ => none }
def fnExactCertainClosureRow : OpenClaim := { program := "ytemmdkeehkehcaa", sum := "fc6b1054d1fc5111c1a640f93110b9c064578a0b64e17157bc8b778bd2a97e81", func := "loop.example/g00596/laws.FnExactCertainClosure", spec := "fnExactCertainClosure", unfollowed := true, recurses := true, apart := false }
def FnExactCertainClosureSaid : Prop := fnExactCertainClosureRow.holds Try.pinned (OpenSpec.ofChange fnExactCertainClosureSpec)

/-- ITS FALSE NEIGHBOUR: 'it returns false'. Refute it at one input. -/
def fnExactCertainClosureWrong : ChangeSpec := { name := "fnExactCertainClosure", fn := fun _ => fun
  | [d1, d2] => { results := [.lit (.bool false)], args := [d1, d2] }
  | _ => none }
def FnExactCertainClosureWrongFalsely : Prop := fnExactCertainClosureRow.holds Try.pinned (OpenSpec.ofChange fnExactCertainClosureWrong)

/- THE SECOND FORM. 'bulk': how many values and letters a reading holds, each counted each time it is reached (what is shared counts as often as it is met; a slice's spare places count too). A statement '..UptoSaid' is the law's where the arguments, and the package variables that the reading takes, are together of bulk at most 1048576: NARROWER than '..Said'. Prove '..Said' where nothing that the law and all that it calls make is longer than what came in: it says more and counts as full. Else prove '..UptoSaid'. A law counts once. -/
mutual
def uptoBulk {H : Type} : DataW H → Nat
  | .lit (.string bytes) => bytes.length + 1
  | .lit _ => 1
  | .nil => 1
  | .ptr d => uptoBulk d + 1
  | .slice elems spare => uptoBulkAll elems + uptoBulkAll spare + 1
  | .agg parts => uptoBulkAll parts + 1
  | .iface _ d => uptoBulk d + 1
  | .map entries => uptoBulkEntries entries + 1
  | .held _ => 1
def uptoBulkAll {H : Type} : List (DataW H) → Nat
  | [] => 0
  | d :: r => uptoBulk d + uptoBulkAll r
def uptoBulkEntries {H : Type} : List (Lit × DataW H) → Nat
  | [] => 0
  | x :: r => uptoBulkEntry x + uptoBulkEntries r
def uptoBulkEntry {H : Type} : Lit × DataW H → Nat
  | (.string bytes, d) => bytes.length + uptoBulk d + 1
  | (_, d) => uptoBulk d + 1
 end
def uptoSmall : (H : Type) → List (DataW H) → Bool := fun _ ds => decide (uptoBulkAll ds ≤ 1048576)
def OpenSpec.upto (s : _root_.Go.ChangeSpec) : _root_.Go.OpenSpec := { _root_.Go.OpenSpec.ofChange s with cond := some uptoSmall }

/-- 'laws.FnExactDecideCell', WHERE WHAT IT READS IS OF BULK AT MOST 1048576: true; the input reads as it did. -/
def fnExactDecideCellUptoRow : OpenClaim := { program := "ytemmdkeehkehcaa", sum := "fc6b1054d1fc5111c1a640f93110b9c064578a0b64e17157bc8b778bd2a97e81", func := "loop.example/g00596/laws.FnExactDecideCell", spec := "fnExactDecideCell", unfollowed := true, recurses := true, apart := false, narrowed := true }
def FnExactDecideCellUptoSaid : Prop := fnExactDecideCellUptoRow.holds Try.pinned (OpenSpec.upto fnExactDecideCellSpec)

/-- 'laws.FnExactConfidenceOf', WHERE WHAT IT READS IS OF BULK AT MOST 1048576: true; the input reads as it did. -/
def fnExactConfidenceOfUptoRow : OpenClaim := { program := "ytemmdkeehkehcaa", sum := "fc6b1054d1fc5111c1a640f93110b9c064578a0b64e17157bc8b778bd2a97e81", func := "loop.example/g00596/laws.FnExactConfidenceOf", spec := "fnExactConfidenceOf", unfollowed := true, recurses := true, apart := false, narrowed := true }
def FnExactConfidenceOfUptoSaid : Prop := fnExactConfidenceOfUptoRow.holds Try.pinned (OpenSpec.upto fnExactConfidenceOfSpec)

/-- 'laws.FnExactIsArrowClosed', WHERE WHAT IT READS IS OF BULK AT MOST 1048576: true; the input reads as it did. -/
def fnExactIsArrowClosedUptoRow : OpenClaim := { program := "ytemmdkeehkehcaa", sum := "fc6b1054d1fc5111c1a640f93110b9c064578a0b64e17157bc8b778bd2a97e81", func := "loop.example/g00596/laws.FnExactIsArrowClosed", spec := "fnExactIsArrowClosed", unfollowed := true, recurses := true, apart := false, narrowed := true }
def FnExactIsArrowClosedUptoSaid : Prop := fnExactIsArrowClosedUptoRow.holds Try.pinned (OpenSpec.upto fnExactIsArrowClosedSpec)

/-- 'laws.FnExactAgreementContext', WHERE WHAT IT READS IS OF BULK AT MOST 1048576: true; the input reads as it did. -/
def fnExactAgreementContextUptoRow : OpenClaim := { program := "ytemmdkeehkehcaa", sum := "fc6b1054d1fc5111c1a640f93110b9c064578a0b64e17157bc8b778bd2a97e81", func := "loop.example/g00596/laws.FnExactAgreementContext", spec := "fnExactAgreementContext", unfollowed := true, recurses := true, apart := false, narrowed := true }
def FnExactAgreementContextUptoSaid : Prop := fnExactAgreementContextUptoRow.holds Try.pinned (OpenSpec.upto fnExactAgreementContextSpec)

/-- 'laws.FnExactCompletionAt', WHERE WHAT IT READS IS OF BULK AT MOST 1048576: true; the input reads as it did. -/
def fnExactCompletionAtUptoRow : OpenClaim := { program := "ytemmdkeehkehcaa", sum := "fc6b1054d1fc5111c1a640f93110b9c064578a0b64e17157bc8b778bd2a97e81", func := "loop.example/g00596/laws.FnExactCompletionAt", spec := "fnExactCompletionAt", unfollowed := true, recurses := true, apart := false, narrowed := true }
def FnExactCompletionAtUptoSaid : Prop := fnExactCompletionAtUptoRow.holds Try.pinned (OpenSpec.upto fnExactCompletionAtSpec)

/-- 'laws.FnExactSubContext', WHERE WHAT IT READS IS OF BULK AT MOST 1048576: true; the input reads as it did. -/
def fnExactSubContextUptoRow : OpenClaim := { program := "ytemmdkeehkehcaa", sum := "fc6b1054d1fc5111c1a640f93110b9c064578a0b64e17157bc8b778bd2a97e81", func := "loop.example/g00596/laws.FnExactSubContext", spec := "fnExactSubContext", unfollowed := true, recurses := true, apart := false, narrowed := true }
def FnExactSubContextUptoSaid : Prop := fnExactSubContextUptoRow.holds Try.pinned (OpenSpec.upto fnExactSubContextSpec)

/-- 'laws.FnExactArrowClosure', WHERE WHAT IT READS IS OF BULK AT MOST 1048576: true; the input reads as it did. -/
def fnExactArrowClosureUptoRow : OpenClaim := { program := "ytemmdkeehkehcaa", sum := "fc6b1054d1fc5111c1a640f93110b9c064578a0b64e17157bc8b778bd2a97e81", func := "loop.example/g00596/laws.FnExactArrowClosure", spec := "fnExactArrowClosure", unfollowed := true, recurses := true, apart := false, narrowed := true }
def FnExactArrowClosureUptoSaid : Prop := fnExactArrowClosureUptoRow.holds Try.pinned (OpenSpec.upto fnExactArrowClosureSpec)

/-- 'laws.FnExactIsCover', WHERE WHAT IT READS IS OF BULK AT MOST 1048576: true; the input reads as it did. -/
def fnExactIsCoverUptoRow : OpenClaim := { program := "ytemmdkeehkehcaa", sum := "fc6b1054d1fc5111c1a640f93110b9c064578a0b64e17157bc8b778bd2a97e81", func := "loop.example/g00596/laws.FnExactIsCover", spec := "fnExactIsCover", unfollowed := true, recurses := true, apart := false, narrowed := true }
def FnExactIsCoverUptoSaid : Prop := fnExactIsCoverUptoRow.holds Try.pinned (OpenSpec.upto fnExactIsCoverSpec)

/-- 'laws.FnExactIsPossible', WHERE WHAT IT READS IS OF BULK AT MOST 1048576: true; the input reads as it did. -/
def fnExactIsPossibleUptoRow : OpenClaim := { program := "ytemmdkeehkehcaa", sum := "fc6b1054d1fc5111c1a640f93110b9c064578a0b64e17157bc8b778bd2a97e81", func := "loop.example/g00596/laws.FnExactIsPossible", spec := "fnExactIsPossible", unfollowed := true, recurses := true, apart := false, narrowed := true }
def FnExactIsPossibleUptoSaid : Prop := fnExactIsPossibleUptoRow.holds Try.pinned (OpenSpec.upto fnExactIsPossibleSpec)

/-- 'laws.FnExactIsCertain', WHERE WHAT IT READS IS OF BULK AT MOST 1048576: true; the input reads as it did. -/
def fnExactIsCertainUptoRow : OpenClaim := { program := "ytemmdkeehkehcaa", sum := "fc6b1054d1fc5111c1a640f93110b9c064578a0b64e17157bc8b778bd2a97e81", func := "loop.example/g00596/laws.FnExactIsCertain", spec := "fnExactIsCertain", unfollowed := true, recurses := true, apart := false, narrowed := true }
def FnExactIsCertainUptoSaid : Prop := fnExactIsCertainUptoRow.holds Try.pinned (OpenSpec.upto fnExactIsCertainSpec)

/-- 'laws.FnExactCertainClosure', WHERE WHAT IT READS IS OF BULK AT MOST 1048576: true; the input reads as it did. -/
def fnExactCertainClosureUptoRow : OpenClaim := { program := "ytemmdkeehkehcaa", sum := "fc6b1054d1fc5111c1a640f93110b9c064578a0b64e17157bc8b778bd2a97e81", func := "loop.example/g00596/laws.FnExactCertainClosure", spec := "fnExactCertainClosure", unfollowed := true, recurses := true, apart := false, narrowed := true }
def FnExactCertainClosureUptoSaid : Prop := fnExactCertainClosureUptoRow.holds Try.pinned (OpenSpec.upto fnExactCertainClosureSpec)

end Rows
end Go.Proofs.Ytemmdkeehkehcaa
