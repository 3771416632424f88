/-
  No cell of these rows narrows 'for every input' (looked for: loops, veiled, ifaces, maps, wideKeys, modest, calm, conditions, laid).
  DERIVED. THE GIVEN ROWS OF THIS SEAT. 7 by the template 'for every input the law returns true; each argument reads behind the call as it read before'; 0 by the template 'total and deterministic' (their statements: YtemhhpjenffalaaTotals.lean).
  GIVEN WITH THE SEED: the statements are not yours to turn. If you find one false, say at which input.
  Laid BY PROGRAM, IN A SANDBOX (cutbox-rows.mjs): the forced cells as the released guide's own fill.sh prints them over the translation f5c21829724810fc… (all of the seat's roots in one cut). By AI agents, Wed Nov 11 2026. No macro, syntax, notation, axiom, sorry.
-/
import Derived.Test.YtemhhpjenffalaaChecked
import GoSem.Claim
import GoSem.ClaimJoined
import GoSem.ClaimMapViews
import Derived.JoinedTies
import Derived.KernelRfl
namespace Go.Proofs.Ytemhhpjenffalaa
/- THE CELL 'sum', in the pinned program and in every row, IS THE sha256 OF THE DUMP (.gsa) THAT YtemhhpjenffalaaProg.lean LOADS. Nothing in Lean hashes anything: it is a label: what it is worth is what the hold of that sum in a sandbox is worth. -/
noncomputable def Try.pinned : Pinned := { name := "ytemhhpjenffalaa", sum := "f5c21829724810fcab1737123e791e707ee917210db6ed8c9ceb85d7e5376a3e", checked := Try.checked }
namespace Rows
def none {H : Type} : Left H := { results := [], args := [] }

/-- 'laws.FnExactSubContext': WHATEVER THE INPUT: true; the input reads as it did. -/
def fnExactSubContextSpec : ChangeSpec := { name := "fnExactSubContext", fn := fun _ => fun
  | [d1, d2, d3] => { results := [.lit (.bool true)], args := [d1, d2, d3] }
  | _ => none }
def fnExactSubContextRow : OpenClaim := { program := "ytemhhpjenffalaa", sum := "f5c21829724810fcab1737123e791e707ee917210db6ed8c9ceb85d7e5376a3e", func := "loop.example/g00596/laws.FnExactSubContext", spec := "fnExactSubContext", unfollowed := true, recurses := true, apart := false }
def FnExactSubContextSaid : Prop := fnExactSubContextRow.holds Try.pinned (OpenSpec.ofChange fnExactSubContextSpec)

/-- ITS FALSE NEIGHBOUR: 'it returns false'. Refute it at one input. -/
def fnExactSubContextWrong : ChangeSpec := { name := "fnExactSubContext", fn := fun _ => fun
  | [d1, d2, d3] => { results := [.lit (.bool false)], args := [d1, d2, d3] }
  | _ => none }
def FnExactSubContextWrongFalsely : Prop := fnExactSubContextRow.holds Try.pinned (OpenSpec.ofChange fnExactSubContextWrong)

/-- 'laws.FnExactCompletionAt': WHATEVER THE INPUT: true; the input reads as it did. -/
def fnExactCompletionAtSpec : ChangeSpec := { name := "fnExactCompletionAt", fn := fun _ => fun
  | [d1, d2] => { results := [.lit (.bool true)], args := [d1, d2] }
  | _ => none }
def fnExactCompletionAtRow : OpenClaim := { program := "ytemhhpjenffalaa", sum := "f5c21829724810fcab1737123e791e707ee917210db6ed8c9ceb85d7e5376a3e", func := "loop.example/g00596/laws.FnExactCompletionAt", spec := "fnExactCompletionAt", unfollowed := true, recurses := true, apart := false }
def FnExactCompletionAtSaid : Prop := fnExactCompletionAtRow.holds Try.pinned (OpenSpec.ofChange fnExactCompletionAtSpec)

/-- ITS FALSE NEIGHBOUR: 'it returns false'. Refute it at one input. -/
def fnExactCompletionAtWrong : ChangeSpec := { name := "fnExactCompletionAt", fn := fun _ => fun
  | [d1, d2] => { results := [.lit (.bool false)], args := [d1, d2] }
  | _ => none }
def FnExactCompletionAtWrongFalsely : Prop := fnExactCompletionAtRow.holds Try.pinned (OpenSpec.ofChange fnExactCompletionAtWrong)

/-- 'laws.FnExactDecideCell': WHATEVER THE INPUT: true; the input reads as it did. -/
def fnExactDecideCellSpec : ChangeSpec := { name := "fnExactDecideCell", fn := fun _ => fun
  | [d1, d2, d3, d4] => { results := [.lit (.bool true)], args := [d1, d2, d3, d4] }
  | _ => none }
def fnExactDecideCellRow : OpenClaim := { program := "ytemhhpjenffalaa", sum := "f5c21829724810fcab1737123e791e707ee917210db6ed8c9ceb85d7e5376a3e", func := "loop.example/g00596/laws.FnExactDecideCell", spec := "fnExactDecideCell", unfollowed := true, recurses := true, apart := false }
def FnExactDecideCellSaid : Prop := fnExactDecideCellRow.holds Try.pinned (OpenSpec.ofChange fnExactDecideCellSpec)

/-- ITS FALSE NEIGHBOUR: 'it returns false'. Refute it at one input. -/
def fnExactDecideCellWrong : ChangeSpec := { name := "fnExactDecideCell", fn := fun _ => fun
  | [d1, d2, d3, d4] => { results := [.lit (.bool false)], args := [d1, d2, d3, d4] }
  | _ => none }
def FnExactDecideCellWrongFalsely : Prop := fnExactDecideCellRow.holds Try.pinned (OpenSpec.ofChange fnExactDecideCellWrong)

/-- 'laws.FnExactIsCover': WHATEVER THE INPUT: true; the input reads as it did. -/
def fnExactIsCoverSpec : ChangeSpec := { name := "fnExactIsCover", fn := fun _ => fun
  | [d1, d2] => { results := [.lit (.bool true)], args := [d1, d2] }
  | _ => none }
def fnExactIsCoverRow : OpenClaim := { program := "ytemhhpjenffalaa", sum := "f5c21829724810fcab1737123e791e707ee917210db6ed8c9ceb85d7e5376a3e", func := "loop.example/g00596/laws.FnExactIsCover", spec := "fnExactIsCover", unfollowed := true, recurses := true, apart := false }
def FnExactIsCoverSaid : Prop := fnExactIsCoverRow.holds Try.pinned (OpenSpec.ofChange fnExactIsCoverSpec)

/-- ITS FALSE NEIGHBOUR: 'it returns false'. Refute it at one input. -/
def fnExactIsCoverWrong : ChangeSpec := { name := "fnExactIsCover", fn := fun _ => fun
  | [d1, d2] => { results := [.lit (.bool false)], args := [d1, d2] }
  | _ => none }
def FnExactIsCoverWrongFalsely : Prop := fnExactIsCoverRow.holds Try.pinned (OpenSpec.ofChange fnExactIsCoverWrong)

/-- 'laws.FnExactIsPossible': WHATEVER THE INPUT: true; the input reads as it did. -/
def fnExactIsPossibleSpec : ChangeSpec := { name := "fnExactIsPossible", fn := fun _ => fun
  | [d1, d2] => { results := [.lit (.bool true)], args := [d1, d2] }
  | _ => none }
def fnExactIsPossibleRow : OpenClaim := { program := "ytemhhpjenffalaa", sum := "f5c21829724810fcab1737123e791e707ee917210db6ed8c9ceb85d7e5376a3e", func := "loop.example/g00596/laws.FnExactIsPossible", spec := "fnExactIsPossible", unfollowed := true, recurses := true, apart := false }
def FnExactIsPossibleSaid : Prop := fnExactIsPossibleRow.holds Try.pinned (OpenSpec.ofChange fnExactIsPossibleSpec)

/-- ITS FALSE NEIGHBOUR: 'it returns false'. Refute it at one input. -/
def fnExactIsPossibleWrong : ChangeSpec := { name := "fnExactIsPossible", fn := fun _ => fun
  | [d1, d2] => { results := [.lit (.bool false)], args := [d1, d2] }
  | _ => none }
def FnExactIsPossibleWrongFalsely : Prop := fnExactIsPossibleRow.holds Try.pinned (OpenSpec.ofChange fnExactIsPossibleWrong)

/-- 'laws.FnExactIsCertain': WHATEVER THE INPUT: true; the input reads as it did. -/
def fnExactIsCertainSpec : ChangeSpec := { name := "fnExactIsCertain", fn := fun _ => fun
  | [d1, d2] => { results := [.lit (.bool true)], args := [d1, d2] }
  | _ => none }
def fnExactIsCertainRow : OpenClaim := { program := "ytemhhpjenffalaa", sum := "f5c21829724810fcab1737123e791e707ee917210db6ed8c9ceb85d7e5376a3e", func := "loop.example/g00596/laws.FnExactIsCertain", spec := "fnExactIsCertain", unfollowed := true, recurses := true, apart := false }
def FnExactIsCertainSaid : Prop := fnExactIsCertainRow.holds Try.pinned (OpenSpec.ofChange fnExactIsCertainSpec)

/-- ITS FALSE NEIGHBOUR: 'it returns false'. Refute it at one input. -/
def fnExactIsCertainWrong : ChangeSpec := { name := "fnExactIsCertain", fn := fun _ => fun
  | [d1, d2] => { results := [.lit (.bool false)], args := [d1, d2] }
  | _ => none }
def FnExactIsCertainWrongFalsely : Prop := fnExactIsCertainRow.holds Try.pinned (OpenSpec.ofChange fnExactIsCertainWrong)

/-- 'laws.FnExactCertainClosure': WHATEVER THE INPUT: true; the input reads as it did. -/
def fnExactCertainClosureSpec : ChangeSpec := { name := "fnExactCertainClosure", fn := fun _ => fun
  | [d1, d2] => { results := [.lit (.bool true)], args := [d1, d2] }
  | _ => none }
def fnExactCertainClosureRow : OpenClaim := { program := "ytemhhpjenffalaa", sum := "f5c21829724810fcab1737123e791e707ee917210db6ed8c9ceb85d7e5376a3e", func := "loop.example/g00596/laws.FnExactCertainClosure", spec := "fnExactCertainClosure", unfollowed := true, recurses := true, apart := false }
def FnExactCertainClosureSaid : Prop := fnExactCertainClosureRow.holds Try.pinned (OpenSpec.ofChange fnExactCertainClosureSpec)

/-- ITS FALSE NEIGHBOUR: 'it returns false'. Refute it at one input. -/
def fnExactCertainClosureWrong : ChangeSpec := { name := "fnExactCertainClosure", fn := fun _ => fun
  | [d1, d2] => { results := [.lit (.bool false)], args := [d1, d2] }
  | _ => none }
def FnExactCertainClosureWrongFalsely : Prop := fnExactCertainClosureRow.holds Try.pinned (OpenSpec.ofChange fnExactCertainClosureWrong)

/- THE SECOND FORM. 'bulk': how many values and letters a reading holds, each counted each time it is reached (what is shared counts as often as it is met; a slice's spare places count too). A statement '..UptoSaid' is the law's where the arguments, and the package variables that the reading takes, are together of bulk at most 1048576: NARROWER than '..Said'. Prove '..Said' where nothing that the law and all that it calls make is longer than what came in: it says more and counts as full. Else prove '..UptoSaid'. A law counts once. -/
mutual
def uptoBulk {H : Type} : DataW H → Nat
  | .lit (.string bytes) => bytes.length + 1
  | .lit _ => 1
  | .nil => 1
  | .ptr d => uptoBulk d + 1
  | .slice elems spare => uptoBulkAll elems + uptoBulkAll spare + 1
  | .agg parts => uptoBulkAll parts + 1
  | .iface _ d => uptoBulk d + 1
  | .map entries => uptoBulkEntries entries + 1
  | .held _ => 1
def uptoBulkAll {H : Type} : List (DataW H) → Nat
  | [] => 0
  | d :: r => uptoBulk d + uptoBulkAll r
def uptoBulkEntries {H : Type} : List (Lit × DataW H) → Nat
  | [] => 0
  | x :: r => uptoBulkEntry x + uptoBulkEntries r
def uptoBulkEntry {H : Type} : Lit × DataW H → Nat
  | (.string bytes, d) => bytes.length + uptoBulk d + 1
  | (_, d) => uptoBulk d + 1
 end
def uptoSmall : (H : Type) → List (DataW H) → Bool := fun _ ds => decide (uptoBulkAll ds ≤ 1048576)
def OpenSpec.upto (s : _root_.Go.ChangeSpec) : _root_.Go.OpenSpec := { _root_.Go.OpenSpec.ofChange s with cond := some uptoSmall }

/-- 'laws.FnExactSubContext', WHERE WHAT IT READS IS OF BULK AT MOST 1048576: true; the input reads as it did. -/
def fnExactSubContextUptoRow : OpenClaim := { program := "ytemhhpjenffalaa", sum := "f5c21829724810fcab1737123e791e707ee917210db6ed8c9ceb85d7e5376a3e", func := "loop.example/g00596/laws.FnExactSubContext", spec := "fnExactSubContext", unfollowed := true, recurses := true, apart := false, narrowed := true }
def FnExactSubContextUptoSaid : Prop := fnExactSubContextUptoRow.holds Try.pinned (OpenSpec.upto fnExactSubContextSpec)

/-- 'laws.FnExactCompletionAt', WHERE WHAT IT READS IS OF BULK AT MOST 1048576: true; the input reads as it did. -/
def fnExactCompletionAtUptoRow : OpenClaim := { program := "ytemhhpjenffalaa", sum := "f5c21829724810fcab1737123e791e707ee917210db6ed8c9ceb85d7e5376a3e", func := "loop.example/g00596/laws.FnExactCompletionAt", spec := "fnExactCompletionAt", unfollowed := true, recurses := true, apart := false, narrowed := true }
def FnExactCompletionAtUptoSaid : Prop := fnExactCompletionAtUptoRow.holds Try.pinned (OpenSpec.upto fnExactCompletionAtSpec)

/-- 'laws.FnExactDecideCell', WHERE WHAT IT READS IS OF BULK AT MOST 1048576: true; the input reads as it did. -/
def fnExactDecideCellUptoRow : OpenClaim := { program := "ytemhhpjenffalaa", sum := "f5c21829724810fcab1737123e791e707ee917210db6ed8c9ceb85d7e5376a3e", func := "loop.example/g00596/laws.FnExactDecideCell", spec := "fnExactDecideCell", unfollowed := true, recurses := true, apart := false, narrowed := true }
def FnExactDecideCellUptoSaid : Prop := fnExactDecideCellUptoRow.holds Try.pinned (OpenSpec.upto fnExactDecideCellSpec)

/-- 'laws.FnExactIsCover', WHERE WHAT IT READS IS OF BULK AT MOST 1048576: true; the input reads as it did. -/
def fnExactIsCoverUptoRow : OpenClaim := { program := "ytemhhpjenffalaa", sum := "f5c21829724810fcab1737123e791e707ee917210db6ed8c9ceb85d7e5376a3e", func := "loop.example/g00596/laws.FnExactIsCover", spec := "fnExactIsCover", unfollowed := true, recurses := true, apart := false, narrowed := true }
def FnExactIsCoverUptoSaid : Prop := fnExactIsCoverUptoRow.holds Try.pinned (OpenSpec.upto fnExactIsCoverSpec)

/-- 'laws.FnExactIsPossible', WHERE WHAT IT READS IS OF BULK AT MOST 1048576: true; the input reads as it did. -/
def fnExactIsPossibleUptoRow : OpenClaim := { program := "ytemhhpjenffalaa", sum := "f5c21829724810fcab1737123e791e707ee917210db6ed8c9ceb85d7e5376a3e", func := "loop.example/g00596/laws.FnExactIsPossible", spec := "fnExactIsPossible", unfollowed := true, recurses := true, apart := false, narrowed := true }
def FnExactIsPossibleUptoSaid : Prop := fnExactIsPossibleUptoRow.holds Try.pinned (OpenSpec.upto fnExactIsPossibleSpec)

/-- 'laws.FnExactIsCertain', WHERE WHAT IT READS IS OF BULK AT MOST 1048576: true; the input reads as it did. -/
def fnExactIsCertainUptoRow : OpenClaim := { program := "ytemhhpjenffalaa", sum := "f5c21829724810fcab1737123e791e707ee917210db6ed8c9ceb85d7e5376a3e", func := "loop.example/g00596/laws.FnExactIsCertain", spec := "fnExactIsCertain", unfollowed := true, recurses := true, apart := false, narrowed := true }
def FnExactIsCertainUptoSaid : Prop := fnExactIsCertainUptoRow.holds Try.pinned (OpenSpec.upto fnExactIsCertainSpec)

/-- 'laws.FnExactCertainClosure', WHERE WHAT IT READS IS OF BULK AT MOST 1048576: true; the input reads as it did. -/
def fnExactCertainClosureUptoRow : OpenClaim := { program := "ytemhhpjenffalaa", sum := "f5c21829724810fcab1737123e791e707ee917210db6ed8c9ceb85d7e5376a3e", func := "loop.example/g00596/laws.FnExactCertainClosure", spec := "fnExactCertainClosure", unfollowed := true, recurses := true, apart := false, narrowed := true }
def FnExactCertainClosureUptoSaid : Prop := fnExactCertainClosureUptoRow.holds Try.pinned (OpenSpec.upto fnExactCertainClosureSpec)

end Rows
end Go.Proofs.Ytemhhpjenffalaa
