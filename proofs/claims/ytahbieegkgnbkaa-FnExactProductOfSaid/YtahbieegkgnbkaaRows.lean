/-
  No cell of these rows narrows 'for every input' (looked for: loops, veiled, ifaces, maps, wideKeys, modest, calm, conditions, laid).
  DERIVED. THE GIVEN ROWS OF THIS SEAT. 11 by the template 'for every input the law returns true; each argument reads behind the call as it read before'; 0 by the template 'total and deterministic' (their statements: YtahbieegkgnbkaaTotals.lean).
  GIVEN WITH THE SEED: the statements are not yours to turn. If you find one false, say at which input.
  Laid BY PROGRAM, IN A SANDBOX (cutbox-rows.mjs): the forced cells as the released guide's own fill.sh prints them over the translation b0b71fa230287f8f… (all of the seat's roots in one cut). By AI agents, Wed Nov 11 2026. No macro, syntax, notation, axiom, sorry.
-/
import Derived.Test.YtahbieegkgnbkaaChecked
import GoSem.Claim
import GoSem.ClaimJoined
import GoSem.ClaimMapViews
import Derived.JoinedTies
import Derived.KernelRfl
namespace Go.Proofs.Ytahbieegkgnbkaa
/- THE CELL 'sum', in the pinned program and in every row, IS THE sha256 OF THE DUMP (.gsa) THAT YtahbieegkgnbkaaProg.lean LOADS. Nothing in Lean hashes anything: it is a label: what it is worth is what the hold of that sum in a sandbox is worth. -/
noncomputable def Try.pinned : Pinned := { name := "ytahbieegkgnbkaa", sum := "b0b71fa230287f8f8e6de9338681f15207ea38d0c4cc7a1030d66d7be59fa563", checked := Try.checked }
namespace Rows
def none {H : Type} : Left H := { results := [], args := [] }

/-- 'laws.FnExactIsOrder': WHATEVER THE INPUT: true; the input reads as it did. -/
def fnExactIsOrderSpec : ChangeSpec := { name := "fnExactIsOrder", fn := fun _ => fun
  | [d] => { results := [.lit (.bool true)], args := [d] }
  | _ => none }
def fnExactIsOrderRow : OpenClaim := { program := "ytahbieegkgnbkaa", sum := "b0b71fa230287f8f8e6de9338681f15207ea38d0c4cc7a1030d66d7be59fa563", func := "loop.example/g00596/laws.FnExactIsOrder", spec := "fnExactIsOrder", apart := false }
def FnExactIsOrderSaid : Prop := fnExactIsOrderRow.holds Try.pinned (OpenSpec.ofChange fnExactIsOrderSpec)

/-- ITS FALSE NEIGHBOUR: 'it returns false'. Refute it at one input. -/
def fnExactIsOrderWrong : ChangeSpec := { name := "fnExactIsOrder", fn := fun _ => fun
  | [d] => { results := [.lit (.bool false)], args := [d] }
  | _ => none }
def FnExactIsOrderWrongFalsely : Prop := fnExactIsOrderRow.holds Try.pinned (OpenSpec.ofChange fnExactIsOrderWrong)

/-- 'laws.FnExactIsTable': WHATEVER THE INPUT: true; the input reads as it did. -/
def fnExactIsTableSpec : ChangeSpec := { name := "fnExactIsTable", fn := fun _ => fun
  | [d] => { results := [.lit (.bool true)], args := [d] }
  | _ => none }
def fnExactIsTableRow : OpenClaim := { program := "ytahbieegkgnbkaa", sum := "b0b71fa230287f8f8e6de9338681f15207ea38d0c4cc7a1030d66d7be59fa563", func := "loop.example/g00596/laws.FnExactIsTable", spec := "fnExactIsTable", apart := false }
def FnExactIsTableSaid : Prop := fnExactIsTableRow.holds Try.pinned (OpenSpec.ofChange fnExactIsTableSpec)

/-- ITS FALSE NEIGHBOUR: 'it returns false'. Refute it at one input. -/
def fnExactIsTableWrong : ChangeSpec := { name := "fnExactIsTable", fn := fun _ => fun
  | [d] => { results := [.lit (.bool false)], args := [d] }
  | _ => none }
def FnExactIsTableWrongFalsely : Prop := fnExactIsTableRow.holds Try.pinned (OpenSpec.ofChange fnExactIsTableWrong)

/-- 'laws.FnExactApposition': WHATEVER THE INPUT: true; the input reads as it did. -/
def fnExactAppositionSpec : ChangeSpec := { name := "fnExactApposition", fn := fun _ => fun
  | [d1, d2] => { results := [.lit (.bool true)], args := [d1, d2] }
  | _ => none }
def fnExactAppositionRow : OpenClaim := { program := "ytahbieegkgnbkaa", sum := "b0b71fa230287f8f8e6de9338681f15207ea38d0c4cc7a1030d66d7be59fa563", func := "loop.example/g00596/laws.FnExactApposition", spec := "fnExactApposition", unfollowed := true, recurses := true, apart := false }
def FnExactAppositionSaid : Prop := fnExactAppositionRow.holds Try.pinned (OpenSpec.ofChange fnExactAppositionSpec)

/-- ITS FALSE NEIGHBOUR: 'it returns false'. Refute it at one input. -/
def fnExactAppositionWrong : ChangeSpec := { name := "fnExactApposition", fn := fun _ => fun
  | [d1, d2] => { results := [.lit (.bool false)], args := [d1, d2] }
  | _ => none }
def FnExactAppositionWrongFalsely : Prop := fnExactAppositionRow.holds Try.pinned (OpenSpec.ofChange fnExactAppositionWrong)

/-- 'laws.FnExactIsPartial': WHATEVER THE INPUT: true; the input reads as it did. -/
def fnExactIsPartialSpec : ChangeSpec := { name := "fnExactIsPartial", fn := fun _ => fun
  | [d] => { results := [.lit (.bool true)], args := [d] }
  | _ => none }
def fnExactIsPartialRow : OpenClaim := { program := "ytahbieegkgnbkaa", sum := "b0b71fa230287f8f8e6de9338681f15207ea38d0c4cc7a1030d66d7be59fa563", func := "loop.example/g00596/laws.FnExactIsPartial", spec := "fnExactIsPartial", unfollowed := true, recurses := true, apart := false }
def FnExactIsPartialSaid : Prop := fnExactIsPartialRow.holds Try.pinned (OpenSpec.ofChange fnExactIsPartialSpec)

/-- ITS FALSE NEIGHBOUR: 'it returns false'. Refute it at one input. -/
def fnExactIsPartialWrong : ChangeSpec := { name := "fnExactIsPartial", fn := fun _ => fun
  | [d] => { results := [.lit (.bool false)], args := [d] }
  | _ => none }
def FnExactIsPartialWrongFalsely : Prop := fnExactIsPartialRow.holds Try.pinned (OpenSpec.ofChange fnExactIsPartialWrong)

/-- 'laws.FnExactProductOf': WHATEVER THE INPUT: true; the input reads as it did. -/
def fnExactProductOfSpec : ChangeSpec := { name := "fnExactProductOf", fn := fun _ => fun
  | [d1, d2, d3] => { results := [.lit (.bool true)], args := [d1, d2, d3] }
  | _ => none }
def fnExactProductOfRow : OpenClaim := { program := "ytahbieegkgnbkaa", sum := "b0b71fa230287f8f8e6de9338681f15207ea38d0c4cc7a1030d66d7be59fa563", func := "loop.example/g00596/laws.FnExactProductOf", spec := "fnExactProductOf", apart := false }
def FnExactProductOfSaid : Prop := fnExactProductOfRow.holds Try.pinned (OpenSpec.ofChange fnExactProductOfSpec)

/-- ITS FALSE NEIGHBOUR: 'it returns false'. Refute it at one input. -/
def fnExactProductOfWrong : ChangeSpec := { name := "fnExactProductOf", fn := fun _ => fun
  | [d1, d2, d3] => { results := [.lit (.bool false)], args := [d1, d2, d3] }
  | _ => none }
def FnExactProductOfWrongFalsely : Prop := fnExactProductOfRow.holds Try.pinned (OpenSpec.ofChange fnExactProductOfWrong)

/-- 'laws.FnExactCountCompletions': WHATEVER THE INPUT: true; the input reads as it did. -/
def fnExactCountCompletionsSpec : ChangeSpec := { name := "fnExactCountCompletions", fn := fun _ => fun
  | [d] => { results := [.lit (.bool true)], args := [d] }
  | _ => none }
def fnExactCountCompletionsRow : OpenClaim := { program := "ytahbieegkgnbkaa", sum := "b0b71fa230287f8f8e6de9338681f15207ea38d0c4cc7a1030d66d7be59fa563", func := "loop.example/g00596/laws.FnExactCountCompletions", spec := "fnExactCountCompletions", unfollowed := true, recurses := true, apart := false }
def FnExactCountCompletionsSaid : Prop := fnExactCountCompletionsRow.holds Try.pinned (OpenSpec.ofChange fnExactCountCompletionsSpec)

/-- ITS FALSE NEIGHBOUR: 'it returns false'. Refute it at one input. -/
def fnExactCountCompletionsWrong : ChangeSpec := { name := "fnExactCountCompletions", fn := fun _ => fun
  | [d] => { results := [.lit (.bool false)], args := [d] }
  | _ => none }
def FnExactCountCompletionsWrongFalsely : Prop := fnExactCountCompletionsRow.holds Try.pinned (OpenSpec.ofChange fnExactCountCompletionsWrong)

/-- 'laws.FnExactSubposition': WHATEVER THE INPUT: true; the input reads as it did. -/
def fnExactSubpositionSpec : ChangeSpec := { name := "fnExactSubposition", fn := fun _ => fun
  | [d1, d2] => { results := [.lit (.bool true)], args := [d1, d2] }
  | _ => none }
def fnExactSubpositionRow : OpenClaim := { program := "ytahbieegkgnbkaa", sum := "b0b71fa230287f8f8e6de9338681f15207ea38d0c4cc7a1030d66d7be59fa563", func := "loop.example/g00596/laws.FnExactSubposition", spec := "fnExactSubposition", unfollowed := true, recurses := true, apart := false }
def FnExactSubpositionSaid : Prop := fnExactSubpositionRow.holds Try.pinned (OpenSpec.ofChange fnExactSubpositionSpec)

/-- ITS FALSE NEIGHBOUR: 'it returns false'. Refute it at one input. -/
def fnExactSubpositionWrong : ChangeSpec := { name := "fnExactSubposition", fn := fun _ => fun
  | [d1, d2] => { results := [.lit (.bool false)], args := [d1, d2] }
  | _ => none }
def FnExactSubpositionWrongFalsely : Prop := fnExactSubpositionRow.holds Try.pinned (OpenSpec.ofChange fnExactSubpositionWrong)

/-- 'laws.FnExactDirectSum': WHATEVER THE INPUT: true; the input reads as it did. -/
def fnExactDirectSumSpec : ChangeSpec := { name := "fnExactDirectSum", fn := fun _ => fun
  | [d1, d2] => { results := [.lit (.bool true)], args := [d1, d2] }
  | _ => none }
def fnExactDirectSumRow : OpenClaim := { program := "ytahbieegkgnbkaa", sum := "b0b71fa230287f8f8e6de9338681f15207ea38d0c4cc7a1030d66d7be59fa563", func := "loop.example/g00596/laws.FnExactDirectSum", spec := "fnExactDirectSum", unfollowed := true, recurses := true, apart := false }
def FnExactDirectSumSaid : Prop := fnExactDirectSumRow.holds Try.pinned (OpenSpec.ofChange fnExactDirectSumSpec)

/-- ITS FALSE NEIGHBOUR: 'it returns false'. Refute it at one input. -/
def fnExactDirectSumWrong : ChangeSpec := { name := "fnExactDirectSum", fn := fun _ => fun
  | [d1, d2] => { results := [.lit (.bool false)], args := [d1, d2] }
  | _ => none }
def FnExactDirectSumWrongFalsely : Prop := fnExactDirectSumRow.holds Try.pinned (OpenSpec.ofChange fnExactDirectSumWrong)

/-- 'laws.FnExactDisjointSum': WHATEVER THE INPUT: true; the input reads as it did. -/
def fnExactDisjointSumSpec : ChangeSpec := { name := "fnExactDisjointSum", fn := fun _ => fun
  | [d1, d2] => { results := [.lit (.bool true)], args := [d1, d2] }
  | _ => none }
def fnExactDisjointSumRow : OpenClaim := { program := "ytahbieegkgnbkaa", sum := "b0b71fa230287f8f8e6de9338681f15207ea38d0c4cc7a1030d66d7be59fa563", func := "loop.example/g00596/laws.FnExactDisjointSum", spec := "fnExactDisjointSum", unfollowed := true, recurses := true, apart := false }
def FnExactDisjointSumSaid : Prop := fnExactDisjointSumRow.holds Try.pinned (OpenSpec.ofChange fnExactDisjointSumSpec)

/-- ITS FALSE NEIGHBOUR: 'it returns false'. Refute it at one input. -/
def fnExactDisjointSumWrong : ChangeSpec := { name := "fnExactDisjointSum", fn := fun _ => fun
  | [d1, d2] => { results := [.lit (.bool false)], args := [d1, d2] }
  | _ => none }
def FnExactDisjointSumWrongFalsely : Prop := fnExactDisjointSumRow.holds Try.pinned (OpenSpec.ofChange fnExactDisjointSumWrong)

/-- 'laws.FnExactFunctionalRule': WHATEVER THE INPUT: true; the input reads as it did. -/
def fnExactFunctionalRuleSpec : ChangeSpec := { name := "fnExactFunctionalRule", fn := fun _ => fun
  | [d1, d2, d3] => { results := [.lit (.bool true)], args := [d1, d2, d3] }
  | _ => none }
def fnExactFunctionalRuleRow : OpenClaim := { program := "ytahbieegkgnbkaa", sum := "b0b71fa230287f8f8e6de9338681f15207ea38d0c4cc7a1030d66d7be59fa563", func := "loop.example/g00596/laws.FnExactFunctionalRule", spec := "fnExactFunctionalRule", unfollowed := true, recurses := true, apart := false }
def FnExactFunctionalRuleSaid : Prop := fnExactFunctionalRuleRow.holds Try.pinned (OpenSpec.ofChange fnExactFunctionalRuleSpec)

/-- ITS FALSE NEIGHBOUR: 'it returns false'. Refute it at one input. -/
def fnExactFunctionalRuleWrong : ChangeSpec := { name := "fnExactFunctionalRule", fn := fun _ => fun
  | [d1, d2, d3] => { results := [.lit (.bool false)], args := [d1, d2, d3] }
  | _ => none }
def FnExactFunctionalRuleWrongFalsely : Prop := fnExactFunctionalRuleRow.holds Try.pinned (OpenSpec.ofChange fnExactFunctionalRuleWrong)

/-- 'laws.FnExactSupportOf': WHATEVER THE INPUT: true; the input reads as it did. -/
def fnExactSupportOfSpec : ChangeSpec := { name := "fnExactSupportOf", fn := fun _ => fun
  | [d1, d2] => { results := [.lit (.bool true)], args := [d1, d2] }
  | _ => none }
def fnExactSupportOfRow : OpenClaim := { program := "ytahbieegkgnbkaa", sum := "b0b71fa230287f8f8e6de9338681f15207ea38d0c4cc7a1030d66d7be59fa563", func := "loop.example/g00596/laws.FnExactSupportOf", spec := "fnExactSupportOf", unfollowed := true, recurses := true, apart := false }
def FnExactSupportOfSaid : Prop := fnExactSupportOfRow.holds Try.pinned (OpenSpec.ofChange fnExactSupportOfSpec)

/-- ITS FALSE NEIGHBOUR: 'it returns false'. Refute it at one input. -/
def fnExactSupportOfWrong : ChangeSpec := { name := "fnExactSupportOf", fn := fun _ => fun
  | [d1, d2] => { results := [.lit (.bool false)], args := [d1, d2] }
  | _ => none }
def FnExactSupportOfWrongFalsely : Prop := fnExactSupportOfRow.holds Try.pinned (OpenSpec.ofChange fnExactSupportOfWrong)

/- THE SECOND FORM. 'bulk': how many values and letters a reading holds, each counted each time it is reached (what is shared counts as often as it is met; a slice's spare places count too). A statement '..UptoSaid' is the law's where the arguments, and the package variables that the reading takes, are together of bulk at most 1048576: NARROWER than '..Said'. Prove '..Said' where nothing that the law and all that it calls make is longer than what came in: it says more and counts as full. Else prove '..UptoSaid'. A law counts once. -/
mutual
def uptoBulk {H : Type} : DataW H → Nat
  | .lit (.string bytes) => bytes.length + 1
  | .lit _ => 1
  | .nil => 1
  | .ptr d => uptoBulk d + 1
  | .slice elems spare => uptoBulkAll elems + uptoBulkAll spare + 1
  | .agg parts => uptoBulkAll parts + 1
  | .iface _ d => uptoBulk d + 1
  | .map entries => uptoBulkEntries entries + 1
  | .held _ => 1
def uptoBulkAll {H : Type} : List (DataW H) → Nat
  | [] => 0
  | d :: r => uptoBulk d + uptoBulkAll r
def uptoBulkEntries {H : Type} : List (Lit × DataW H) → Nat
  | [] => 0
  | x :: r => uptoBulkEntry x + uptoBulkEntries r
def uptoBulkEntry {H : Type} : Lit × DataW H → Nat
  | (.string bytes, d) => bytes.length + uptoBulk d + 1
  | (_, d) => uptoBulk d + 1
 end
def uptoSmall : (H : Type) → List (DataW H) → Bool := fun _ ds => decide (uptoBulkAll ds ≤ 1048576)
def OpenSpec.upto (s : _root_.Go.ChangeSpec) : _root_.Go.OpenSpec := { _root_.Go.OpenSpec.ofChange s with cond := some uptoSmall }

/-- 'laws.FnExactIsOrder', WHERE WHAT IT READS IS OF BULK AT MOST 1048576: true; the input reads as it did. -/
def fnExactIsOrderUptoRow : OpenClaim := { program := "ytahbieegkgnbkaa", sum := "b0b71fa230287f8f8e6de9338681f15207ea38d0c4cc7a1030d66d7be59fa563", func := "loop.example/g00596/laws.FnExactIsOrder", spec := "fnExactIsOrder", apart := false, narrowed := true }
def FnExactIsOrderUptoSaid : Prop := fnExactIsOrderUptoRow.holds Try.pinned (OpenSpec.upto fnExactIsOrderSpec)

/-- 'laws.FnExactIsTable', WHERE WHAT IT READS IS OF BULK AT MOST 1048576: true; the input reads as it did. -/
def fnExactIsTableUptoRow : OpenClaim := { program := "ytahbieegkgnbkaa", sum := "b0b71fa230287f8f8e6de9338681f15207ea38d0c4cc7a1030d66d7be59fa563", func := "loop.example/g00596/laws.FnExactIsTable", spec := "fnExactIsTable", apart := false, narrowed := true }
def FnExactIsTableUptoSaid : Prop := fnExactIsTableUptoRow.holds Try.pinned (OpenSpec.upto fnExactIsTableSpec)

/-- 'laws.FnExactApposition', WHERE WHAT IT READS IS OF BULK AT MOST 1048576: true; the input reads as it did. -/
def fnExactAppositionUptoRow : OpenClaim := { program := "ytahbieegkgnbkaa", sum := "b0b71fa230287f8f8e6de9338681f15207ea38d0c4cc7a1030d66d7be59fa563", func := "loop.example/g00596/laws.FnExactApposition", spec := "fnExactApposition", unfollowed := true, recurses := true, apart := false, narrowed := true }
def FnExactAppositionUptoSaid : Prop := fnExactAppositionUptoRow.holds Try.pinned (OpenSpec.upto fnExactAppositionSpec)

/-- 'laws.FnExactIsPartial', WHERE WHAT IT READS IS OF BULK AT MOST 1048576: true; the input reads as it did. -/
def fnExactIsPartialUptoRow : OpenClaim := { program := "ytahbieegkgnbkaa", sum := "b0b71fa230287f8f8e6de9338681f15207ea38d0c4cc7a1030d66d7be59fa563", func := "loop.example/g00596/laws.FnExactIsPartial", spec := "fnExactIsPartial", unfollowed := true, recurses := true, apart := false, narrowed := true }
def FnExactIsPartialUptoSaid : Prop := fnExactIsPartialUptoRow.holds Try.pinned (OpenSpec.upto fnExactIsPartialSpec)

/-- 'laws.FnExactProductOf', WHERE WHAT IT READS IS OF BULK AT MOST 1048576: true; the input reads as it did. -/
def fnExactProductOfUptoRow : OpenClaim := { program := "ytahbieegkgnbkaa", sum := "b0b71fa230287f8f8e6de9338681f15207ea38d0c4cc7a1030d66d7be59fa563", func := "loop.example/g00596/laws.FnExactProductOf", spec := "fnExactProductOf", apart := false, narrowed := true }
def FnExactProductOfUptoSaid : Prop := fnExactProductOfUptoRow.holds Try.pinned (OpenSpec.upto fnExactProductOfSpec)

/-- 'laws.FnExactCountCompletions', WHERE WHAT IT READS IS OF BULK AT MOST 1048576: true; the input reads as it did. -/
def fnExactCountCompletionsUptoRow : OpenClaim := { program := "ytahbieegkgnbkaa", sum := "b0b71fa230287f8f8e6de9338681f15207ea38d0c4cc7a1030d66d7be59fa563", func := "loop.example/g00596/laws.FnExactCountCompletions", spec := "fnExactCountCompletions", unfollowed := true, recurses := true, apart := false, narrowed := true }
def FnExactCountCompletionsUptoSaid : Prop := fnExactCountCompletionsUptoRow.holds Try.pinned (OpenSpec.upto fnExactCountCompletionsSpec)

/-- 'laws.FnExactSubposition', WHERE WHAT IT READS IS OF BULK AT MOST 1048576: true; the input reads as it did. -/
def fnExactSubpositionUptoRow : OpenClaim := { program := "ytahbieegkgnbkaa", sum := "b0b71fa230287f8f8e6de9338681f15207ea38d0c4cc7a1030d66d7be59fa563", func := "loop.example/g00596/laws.FnExactSubposition", spec := "fnExactSubposition", unfollowed := true, recurses := true, apart := false, narrowed := true }
def FnExactSubpositionUptoSaid : Prop := fnExactSubpositionUptoRow.holds Try.pinned (OpenSpec.upto fnExactSubpositionSpec)

/-- 'laws.FnExactDirectSum', WHERE WHAT IT READS IS OF BULK AT MOST 1048576: true; the input reads as it did. -/
def fnExactDirectSumUptoRow : OpenClaim := { program := "ytahbieegkgnbkaa", sum := "b0b71fa230287f8f8e6de9338681f15207ea38d0c4cc7a1030d66d7be59fa563", func := "loop.example/g00596/laws.FnExactDirectSum", spec := "fnExactDirectSum", unfollowed := true, recurses := true, apart := false, narrowed := true }
def FnExactDirectSumUptoSaid : Prop := fnExactDirectSumUptoRow.holds Try.pinned (OpenSpec.upto fnExactDirectSumSpec)

/-- 'laws.FnExactDisjointSum', WHERE WHAT IT READS IS OF BULK AT MOST 1048576: true; the input reads as it did. -/
def fnExactDisjointSumUptoRow : OpenClaim := { program := "ytahbieegkgnbkaa", sum := "b0b71fa230287f8f8e6de9338681f15207ea38d0c4cc7a1030d66d7be59fa563", func := "loop.example/g00596/laws.FnExactDisjointSum", spec := "fnExactDisjointSum", unfollowed := true, recurses := true, apart := false, narrowed := true }
def FnExactDisjointSumUptoSaid : Prop := fnExactDisjointSumUptoRow.holds Try.pinned (OpenSpec.upto fnExactDisjointSumSpec)

/-- 'laws.FnExactFunctionalRule', WHERE WHAT IT READS IS OF BULK AT MOST 1048576: true; the input reads as it did. -/
def fnExactFunctionalRuleUptoRow : OpenClaim := { program := "ytahbieegkgnbkaa", sum := "b0b71fa230287f8f8e6de9338681f15207ea38d0c4cc7a1030d66d7be59fa563", func := "loop.example/g00596/laws.FnExactFunctionalRule", spec := "fnExactFunctionalRule", unfollowed := true, recurses := true, apart := false, narrowed := true }
def FnExactFunctionalRuleUptoSaid : Prop := fnExactFunctionalRuleUptoRow.holds Try.pinned (OpenSpec.upto fnExactFunctionalRuleSpec)

/-- 'laws.FnExactSupportOf', WHERE WHAT IT READS IS OF BULK AT MOST 1048576: true; the input reads as it did. -/
def fnExactSupportOfUptoRow : OpenClaim := { program := "ytahbieegkgnbkaa", sum := "b0b71fa230287f8f8e6de9338681f15207ea38d0c4cc7a1030d66d7be59fa563", func := "loop.example/g00596/laws.FnExactSupportOf", spec := "fnExactSupportOf", unfollowed := true, recurses := true, apart := false, narrowed := true }
def FnExactSupportOfUptoSaid : Prop := fnExactSupportOfUptoRow.holds Try.pinned (OpenSpec.upto fnExactSupportOfSpec)

end Rows
end Go.Proofs.Ytahbieegkgnbkaa
