/-
  NARROWER THAN 'FOR EVERY INPUT', by the rows' own cells (each row's printed sentence says how): FnExactComplementsOf: laid · FnExactJoinIrreducibles: laid · FnExactMeetIrreducibles: laid · FnExactPathConfidence: laid · FnExactFrequentIntents: laid · FnExactStrongRules: laid · FnExactLuxenburgerBase: laid · FnExactIsCompatible: laid · FnExactCountCompatible: laid · FnExactIsComplemented: laid · FnExactNextModel: laid · FnExactGreedyFactors: laid.
  DERIVED. THE GIVEN ROWS OF THIS SEAT. 12 by the template 'for every input the law returns true; each argument reads behind the call as it read before'; 0 by the template 'total and deterministic' (their statements: YthdeaenleimbeaaDoorTotals.lean).
  GIVEN WITH THE SEED: the statements are not yours to turn. If you find one false, say at which input.
  Laid BY PROGRAM, IN A SANDBOX (cutbox-rows.mjs): the forced cells as the released guide's own fill.sh prints them over the translation 23282aa74dac71bb… (all of the seat's roots in one cut). By AI agents, Wed Nov 11 2026. No macro, syntax, notation, axiom, sorry.
-/
import Derived.Test.YthdeaenleimbeaaDoorChecked
import GoSem.Claim
import GoSem.ClaimJoined
import GoSem.ClaimMapViews
import Derived.JoinedTies
import Derived.KernelRfl
namespace Go.Proofs.YthdeaenleimbeaaDoor
/- THE CELL 'sum', in the pinned program and in every row, IS THE sha256 OF THE DUMP (.gsa) THAT YthdeaenleimbeaaDoorProg.lean LOADS. Nothing in Lean hashes anything: it is a label: what it is worth is what the hold of that sum in a sandbox is worth. -/
noncomputable def Tryd.pinned : Pinned := { name := "ythdeaenleimbeaadoor", sum := "23282aa74dac71bbf27cfdc5be5714b4c98b4000d3745cf7aeb2516551559522", checked := Tryd.checked }
namespace Rows
def none {H : Type} : Left H := { results := [], args := [] }

/- WHAT THE LISTED PACKAGE-LEVEL VARIABLES READ AS WHEN THE CALL BEGINS. Each datum BY PROGRAM (the guide's laid-datum.mjs) off the statement by which the dump's own 'gosem.cut.vars' lays the variable. In a bare row this is a premise. The card (YthdeaenleimbeaaDoorCards.lean) ties it to the program's text. -/
def laid_math_bits_deBruijn32tab {H : Type} : DataW H := .agg [.lit (.int .u8 0), .lit (.int .u8 1), .lit (.int .u8 28), .lit (.int .u8 2), .lit (.int .u8 29), .lit (.int .u8 14), .lit (.int .u8 24), .lit (.int .u8 3), .lit (.int .u8 30), .lit (.int .u8 22), .lit (.int .u8 20), .lit (.int .u8 15), .lit (.int .u8 25), .lit (.int .u8 17), .lit (.int .u8 4), .lit (.int .u8 8), .lit (.int .u8 31), .lit (.int .u8 27), .lit (.int .u8 13), .lit (.int .u8 23), .lit (.int .u8 21), .lit (.int .u8 19), .lit (.int .u8 16), .lit (.int .u8 7), .lit (.int .u8 26), .lit (.int .u8 12), .lit (.int .u8 18), .lit (.int .u8 6), .lit (.int .u8 11), .lit (.int .u8 5), .lit (.int .u8 10), .lit (.int .u8 9)]
def laid_math_bits_deBruijn64tab {H : Type} : DataW H := .agg [.lit (.int .u8 0), .lit (.int .u8 1), .lit (.int .u8 56), .lit (.int .u8 2), .lit (.int .u8 57), .lit (.int .u8 49), .lit (.int .u8 28), .lit (.int .u8 3), .lit (.int .u8 61), .lit (.int .u8 58), .lit (.int .u8 42), .lit (.int .u8 50), .lit (.int .u8 38), .lit (.int .u8 29), .lit (.int .u8 17), .lit (.int .u8 4), .lit (.int .u8 62), .lit (.int .u8 47), .lit (.int .u8 59), .lit (.int .u8 36), .lit (.int .u8 45), .lit (.int .u8 43), .lit (.int .u8 51), .lit (.int .u8 22), .lit (.int .u8 53), .lit (.int .u8 39), .lit (.int .u8 33), .lit (.int .u8 30), .lit (.int .u8 24), .lit (.int .u8 18), .lit (.int .u8 12), .lit (.int .u8 5), .lit (.int .u8 63), .lit (.int .u8 55), .lit (.int .u8 48), .lit (.int .u8 27), .lit (.int .u8 60), .lit (.int .u8 41), .lit (.int .u8 37), .lit (.int .u8 16), .lit (.int .u8 46), .lit (.int .u8 35), .lit (.int .u8 44), .lit (.int .u8 21), .lit (.int .u8 52), .lit (.int .u8 32), .lit (.int .u8 23), .lit (.int .u8 11), .lit (.int .u8 54), .lit (.int .u8 26), .lit (.int .u8 40), .lit (.int .u8 15), .lit (.int .u8 34), .lit (.int .u8 20), .lit (.int .u8 31), .lit (.int .u8 10), .lit (.int .u8 25), .lit (.int .u8 14), .lit (.int .u8 19), .lit (.int .u8 9), .lit (.int .u8 13), .lit (.int .u8 8), .lit (.int .u8 7), .lit (.int .u8 6)]

/-- 'laws.FnExactComplementsOf': WHATEVER THE INPUT: true; the input reads as it did. -/
def fnExactComplementsOfSpec : ChangeSpec := { name := "fnExactComplementsOf", fn := fun _ => fun
  | [d1, d2] => { results := [.lit (.bool true)], args := [d1, d2] }
  | _ => none }
def fnExactComplementsOfRow : OpenClaim := { program := "ythdeaenleimbeaadoor", sum := "23282aa74dac71bbf27cfdc5be5714b4c98b4000d3745cf7aeb2516551559522", func := "loop.example/g00596/laws.FnExactComplementsOf", spec := "fnExactComplementsOf", unfollowed := true, recurses := true, named := ["math/bits.deBruijn32tab", "math/bits.deBruijn64tab"], apart := false, laid := [("math/bits.deBruijn32tab", laid_math_bits_deBruijn32tab), ("math/bits.deBruijn64tab", laid_math_bits_deBruijn64tab)] }
def FnExactComplementsOfSaid : Prop := fnExactComplementsOfRow.holds Tryd.pinned (OpenSpec.ofChange fnExactComplementsOfSpec)

/-- ITS FALSE NEIGHBOUR: 'it returns false'. Refute it at one input. -/
def fnExactComplementsOfWrong : ChangeSpec := { name := "fnExactComplementsOf", fn := fun _ => fun
  | [d1, d2] => { results := [.lit (.bool false)], args := [d1, d2] }
  | _ => none }
def FnExactComplementsOfWrongFalsely : Prop := fnExactComplementsOfRow.holds Tryd.pinned (OpenSpec.ofChange fnExactComplementsOfWrong)

/-- 'laws.FnExactJoinIrreducibles': WHATEVER THE INPUT: true; the input reads as it did. -/
def fnExactJoinIrreduciblesSpec : ChangeSpec := { name := "fnExactJoinIrreducibles", fn := fun _ => fun
  | [d] => { results := [.lit (.bool true)], args := [d] }
  | _ => none }
def fnExactJoinIrreduciblesRow : OpenClaim := { program := "ythdeaenleimbeaadoor", sum := "23282aa74dac71bbf27cfdc5be5714b4c98b4000d3745cf7aeb2516551559522", func := "loop.example/g00596/laws.FnExactJoinIrreducibles", spec := "fnExactJoinIrreducibles", unfollowed := true, recurses := true, named := ["math/bits.deBruijn32tab", "math/bits.deBruijn64tab"], apart := false, laid := [("math/bits.deBruijn32tab", laid_math_bits_deBruijn32tab), ("math/bits.deBruijn64tab", laid_math_bits_deBruijn64tab)] }
def FnExactJoinIrreduciblesSaid : Prop := fnExactJoinIrreduciblesRow.holds Tryd.pinned (OpenSpec.ofChange fnExactJoinIrreduciblesSpec)

/-- ITS FALSE NEIGHBOUR: 'it returns false'. Refute it at one input. -/
def fnExactJoinIrreduciblesWrong : ChangeSpec := { name := "fnExactJoinIrreducibles", fn := fun _ => fun
  | [d] => { results := [.lit (.bool false)], args := [d] }
  | _ => none }
def FnExactJoinIrreduciblesWrongFalsely : Prop := fnExactJoinIrreduciblesRow.holds Tryd.pinned (OpenSpec.ofChange fnExactJoinIrreduciblesWrong)

/-- 'laws.FnExactMeetIrreducibles': WHATEVER THE INPUT: true; the input reads as it did. -/
def fnExactMeetIrreduciblesSpec : ChangeSpec := { name := "fnExactMeetIrreducibles", fn := fun _ => fun
  | [d] => { results := [.lit (.bool true)], args := [d] }
  | _ => none }
def fnExactMeetIrreduciblesRow : OpenClaim := { program := "ythdeaenleimbeaadoor", sum := "23282aa74dac71bbf27cfdc5be5714b4c98b4000d3745cf7aeb2516551559522", func := "loop.example/g00596/laws.FnExactMeetIrreducibles", spec := "fnExactMeetIrreducibles", unfollowed := true, recurses := true, named := ["math/bits.deBruijn32tab", "math/bits.deBruijn64tab"], apart := false, laid := [("math/bits.deBruijn32tab", laid_math_bits_deBruijn32tab), ("math/bits.deBruijn64tab", laid_math_bits_deBruijn64tab)] }
def FnExactMeetIrreduciblesSaid : Prop := fnExactMeetIrreduciblesRow.holds Tryd.pinned (OpenSpec.ofChange fnExactMeetIrreduciblesSpec)

/-- ITS FALSE NEIGHBOUR: 'it returns false'. Refute it at one input. -/
def fnExactMeetIrreduciblesWrong : ChangeSpec := { name := "fnExactMeetIrreducibles", fn := fun _ => fun
  | [d] => { results := [.lit (.bool false)], args := [d] }
  | _ => none }
def FnExactMeetIrreduciblesWrongFalsely : Prop := fnExactMeetIrreduciblesRow.holds Tryd.pinned (OpenSpec.ofChange fnExactMeetIrreduciblesWrong)

/-- 'laws.FnExactPathConfidence': WHATEVER THE INPUT: true; the input reads as it did. -/
def fnExactPathConfidenceSpec : ChangeSpec := { name := "fnExactPathConfidence", fn := fun _ => fun
  | [d1, d2] => { results := [.lit (.bool true)], args := [d1, d2] }
  | _ => none }
def fnExactPathConfidenceRow : OpenClaim := { program := "ythdeaenleimbeaadoor", sum := "23282aa74dac71bbf27cfdc5be5714b4c98b4000d3745cf7aeb2516551559522", func := "loop.example/g00596/laws.FnExactPathConfidence", spec := "fnExactPathConfidence", unfollowed := true, recurses := true, named := ["math/bits.deBruijn32tab", "math/bits.deBruijn64tab"], apart := false, laid := [("math/bits.deBruijn32tab", laid_math_bits_deBruijn32tab), ("math/bits.deBruijn64tab", laid_math_bits_deBruijn64tab)] }
def FnExactPathConfidenceSaid : Prop := fnExactPathConfidenceRow.holds Tryd.pinned (OpenSpec.ofChange fnExactPathConfidenceSpec)

/-- ITS FALSE NEIGHBOUR: 'it returns false'. Refute it at one input. -/
def fnExactPathConfidenceWrong : ChangeSpec := { name := "fnExactPathConfidence", fn := fun _ => fun
  | [d1, d2] => { results := [.lit (.bool false)], args := [d1, d2] }
  | _ => none }
def FnExactPathConfidenceWrongFalsely : Prop := fnExactPathConfidenceRow.holds Tryd.pinned (OpenSpec.ofChange fnExactPathConfidenceWrong)

/-- 'laws.FnExactFrequentIntents': WHATEVER THE INPUT: true; the input reads as it did. -/
def fnExactFrequentIntentsSpec : ChangeSpec := { name := "fnExactFrequentIntents", fn := fun _ => fun
  | [d1, d2] => { results := [.lit (.bool true)], args := [d1, d2] }
  | _ => none }
def fnExactFrequentIntentsRow : OpenClaim := { program := "ythdeaenleimbeaadoor", sum := "23282aa74dac71bbf27cfdc5be5714b4c98b4000d3745cf7aeb2516551559522", func := "loop.example/g00596/laws.FnExactFrequentIntents", spec := "fnExactFrequentIntents", unfollowed := true, recurses := true, named := ["math/bits.deBruijn32tab", "math/bits.deBruijn64tab"], apart := false, laid := [("math/bits.deBruijn32tab", laid_math_bits_deBruijn32tab), ("math/bits.deBruijn64tab", laid_math_bits_deBruijn64tab)] }
def FnExactFrequentIntentsSaid : Prop := fnExactFrequentIntentsRow.holds Tryd.pinned (OpenSpec.ofChange fnExactFrequentIntentsSpec)

/-- ITS FALSE NEIGHBOUR: 'it returns false'. Refute it at one input. -/
def fnExactFrequentIntentsWrong : ChangeSpec := { name := "fnExactFrequentIntents", fn := fun _ => fun
  | [d1, d2] => { results := [.lit (.bool false)], args := [d1, d2] }
  | _ => none }
def FnExactFrequentIntentsWrongFalsely : Prop := fnExactFrequentIntentsRow.holds Tryd.pinned (OpenSpec.ofChange fnExactFrequentIntentsWrong)

/-- 'laws.FnExactStrongRules': WHATEVER THE INPUT: true; the input reads as it did. -/
def fnExactStrongRulesSpec : ChangeSpec := { name := "fnExactStrongRules", fn := fun _ => fun
  | [d1, d2, d3] => { results := [.lit (.bool true)], args := [d1, d2, d3] }
  | _ => none }
def fnExactStrongRulesRow : OpenClaim := { program := "ythdeaenleimbeaadoor", sum := "23282aa74dac71bbf27cfdc5be5714b4c98b4000d3745cf7aeb2516551559522", func := "loop.example/g00596/laws.FnExactStrongRules", spec := "fnExactStrongRules", unfollowed := true, recurses := true, named := ["math/bits.deBruijn32tab", "math/bits.deBruijn64tab"], apart := false, laid := [("math/bits.deBruijn32tab", laid_math_bits_deBruijn32tab), ("math/bits.deBruijn64tab", laid_math_bits_deBruijn64tab)] }
def FnExactStrongRulesSaid : Prop := fnExactStrongRulesRow.holds Tryd.pinned (OpenSpec.ofChange fnExactStrongRulesSpec)

/-- ITS FALSE NEIGHBOUR: 'it returns false'. Refute it at one input. -/
def fnExactStrongRulesWrong : ChangeSpec := { name := "fnExactStrongRules", fn := fun _ => fun
  | [d1, d2, d3] => { results := [.lit (.bool false)], args := [d1, d2, d3] }
  | _ => none }
def FnExactStrongRulesWrongFalsely : Prop := fnExactStrongRulesRow.holds Tryd.pinned (OpenSpec.ofChange fnExactStrongRulesWrong)

/-- 'laws.FnExactLuxenburgerBase': WHATEVER THE INPUT: true; the input reads as it did. -/
def fnExactLuxenburgerBaseSpec : ChangeSpec := { name := "fnExactLuxenburgerBase", fn := fun _ => fun
  | [d1, d2] => { results := [.lit (.bool true)], args := [d1, d2] }
  | _ => none }
def fnExactLuxenburgerBaseRow : OpenClaim := { program := "ythdeaenleimbeaadoor", sum := "23282aa74dac71bbf27cfdc5be5714b4c98b4000d3745cf7aeb2516551559522", func := "loop.example/g00596/laws.FnExactLuxenburgerBase", spec := "fnExactLuxenburgerBase", unfollowed := true, recurses := true, named := ["math/bits.deBruijn32tab", "math/bits.deBruijn64tab"], apart := false, laid := [("math/bits.deBruijn32tab", laid_math_bits_deBruijn32tab), ("math/bits.deBruijn64tab", laid_math_bits_deBruijn64tab)] }
def FnExactLuxenburgerBaseSaid : Prop := fnExactLuxenburgerBaseRow.holds Tryd.pinned (OpenSpec.ofChange fnExactLuxenburgerBaseSpec)

/-- ITS FALSE NEIGHBOUR: 'it returns false'. Refute it at one input. -/
def fnExactLuxenburgerBaseWrong : ChangeSpec := { name := "fnExactLuxenburgerBase", fn := fun _ => fun
  | [d1, d2] => { results := [.lit (.bool false)], args := [d1, d2] }
  | _ => none }
def FnExactLuxenburgerBaseWrongFalsely : Prop := fnExactLuxenburgerBaseRow.holds Tryd.pinned (OpenSpec.ofChange fnExactLuxenburgerBaseWrong)

/-- 'laws.FnExactIsCompatible': WHATEVER THE INPUT: true; the input reads as it did. -/
def fnExactIsCompatibleSpec : ChangeSpec := { name := "fnExactIsCompatible", fn := fun _ => fun
  | [d1, d2, d3] => { results := [.lit (.bool true)], args := [d1, d2, d3] }
  | _ => none }
def fnExactIsCompatibleRow : OpenClaim := { program := "ythdeaenleimbeaadoor", sum := "23282aa74dac71bbf27cfdc5be5714b4c98b4000d3745cf7aeb2516551559522", func := "loop.example/g00596/laws.FnExactIsCompatible", spec := "fnExactIsCompatible", unfollowed := true, recurses := true, named := ["math/bits.deBruijn32tab", "math/bits.deBruijn64tab"], apart := false, laid := [("math/bits.deBruijn32tab", laid_math_bits_deBruijn32tab), ("math/bits.deBruijn64tab", laid_math_bits_deBruijn64tab)] }
def FnExactIsCompatibleSaid : Prop := fnExactIsCompatibleRow.holds Tryd.pinned (OpenSpec.ofChange fnExactIsCompatibleSpec)

/-- ITS FALSE NEIGHBOUR: 'it returns false'. Refute it at one input. -/
def fnExactIsCompatibleWrong : ChangeSpec := { name := "fnExactIsCompatible", fn := fun _ => fun
  | [d1, d2, d3] => { results := [.lit (.bool false)], args := [d1, d2, d3] }
  | _ => none }
def FnExactIsCompatibleWrongFalsely : Prop := fnExactIsCompatibleRow.holds Tryd.pinned (OpenSpec.ofChange fnExactIsCompatibleWrong)

/-- 'laws.FnExactCountCompatible': WHATEVER THE INPUT: true; the input reads as it did. -/
def fnExactCountCompatibleSpec : ChangeSpec := { name := "fnExactCountCompatible", fn := fun _ => fun
  | [d] => { results := [.lit (.bool true)], args := [d] }
  | _ => none }
def fnExactCountCompatibleRow : OpenClaim := { program := "ythdeaenleimbeaadoor", sum := "23282aa74dac71bbf27cfdc5be5714b4c98b4000d3745cf7aeb2516551559522", func := "loop.example/g00596/laws.FnExactCountCompatible", spec := "fnExactCountCompatible", unfollowed := true, recurses := true, named := ["math/bits.deBruijn32tab", "math/bits.deBruijn64tab"], apart := false, laid := [("math/bits.deBruijn32tab", laid_math_bits_deBruijn32tab), ("math/bits.deBruijn64tab", laid_math_bits_deBruijn64tab)] }
def FnExactCountCompatibleSaid : Prop := fnExactCountCompatibleRow.holds Tryd.pinned (OpenSpec.ofChange fnExactCountCompatibleSpec)

/-- ITS FALSE NEIGHBOUR: 'it returns false'. Refute it at one input. -/
def fnExactCountCompatibleWrong : ChangeSpec := { name := "fnExactCountCompatible", fn := fun _ => fun
  | [d] => { results := [.lit (.bool false)], args := [d] }
  | _ => none }
def FnExactCountCompatibleWrongFalsely : Prop := fnExactCountCompatibleRow.holds Tryd.pinned (OpenSpec.ofChange fnExactCountCompatibleWrong)

/-- 'laws.FnExactIsComplemented': WHATEVER THE INPUT: true; the input reads as it did. -/
def fnExactIsComplementedSpec : ChangeSpec := { name := "fnExactIsComplemented", fn := fun _ => fun
  | [d] => { results := [.lit (.bool true)], args := [d] }
  | _ => none }
def fnExactIsComplementedRow : OpenClaim := { program := "ythdeaenleimbeaadoor", sum := "23282aa74dac71bbf27cfdc5be5714b4c98b4000d3745cf7aeb2516551559522", func := "loop.example/g00596/laws.FnExactIsComplemented", spec := "fnExactIsComplemented", unfollowed := true, recurses := true, named := ["math/bits.deBruijn32tab", "math/bits.deBruijn64tab"], apart := false, laid := [("math/bits.deBruijn32tab", laid_math_bits_deBruijn32tab), ("math/bits.deBruijn64tab", laid_math_bits_deBruijn64tab)] }
def FnExactIsComplementedSaid : Prop := fnExactIsComplementedRow.holds Tryd.pinned (OpenSpec.ofChange fnExactIsComplementedSpec)

/-- ITS FALSE NEIGHBOUR: 'it returns false'. Refute it at one input. -/
def fnExactIsComplementedWrong : ChangeSpec := { name := "fnExactIsComplemented", fn := fun _ => fun
  | [d] => { results := [.lit (.bool false)], args := [d] }
  | _ => none }
def FnExactIsComplementedWrongFalsely : Prop := fnExactIsComplementedRow.holds Tryd.pinned (OpenSpec.ofChange fnExactIsComplementedWrong)

/-- 'laws.FnExactNextModel': WHATEVER THE INPUT: true; the input reads as it did. -/
def fnExactNextModelSpec : ChangeSpec := { name := "fnExactNextModel", fn := fun _ => fun
  | [d1, d2, d3] => { results := [.lit (.bool true)], args := [d1, d2, d3] }
  | _ => none }
def fnExactNextModelRow : OpenClaim := { program := "ythdeaenleimbeaadoor", sum := "23282aa74dac71bbf27cfdc5be5714b4c98b4000d3745cf7aeb2516551559522", func := "loop.example/g00596/laws.FnExactNextModel", spec := "fnExactNextModel", unfollowed := true, recurses := true, named := ["math/bits.deBruijn32tab", "math/bits.deBruijn64tab"], apart := false, laid := [("math/bits.deBruijn32tab", laid_math_bits_deBruijn32tab), ("math/bits.deBruijn64tab", laid_math_bits_deBruijn64tab)] }
def FnExactNextModelSaid : Prop := fnExactNextModelRow.holds Tryd.pinned (OpenSpec.ofChange fnExactNextModelSpec)

/-- ITS FALSE NEIGHBOUR: 'it returns false'. Refute it at one input. -/
def fnExactNextModelWrong : ChangeSpec := { name := "fnExactNextModel", fn := fun _ => fun
  | [d1, d2, d3] => { results := [.lit (.bool false)], args := [d1, d2, d3] }
  | _ => none }
def FnExactNextModelWrongFalsely : Prop := fnExactNextModelRow.holds Tryd.pinned (OpenSpec.ofChange fnExactNextModelWrong)

/-- 'laws.FnExactGreedyFactors': WHATEVER THE INPUT: true; the input reads as it did. -/
def fnExactGreedyFactorsSpec : ChangeSpec := { name := "fnExactGreedyFactors", fn := fun _ => fun
  | [d] => { results := [.lit (.bool true)], args := [d] }
  | _ => none }
def fnExactGreedyFactorsRow : OpenClaim := { program := "ythdeaenleimbeaadoor", sum := "23282aa74dac71bbf27cfdc5be5714b4c98b4000d3745cf7aeb2516551559522", func := "loop.example/g00596/laws.FnExactGreedyFactors", spec := "fnExactGreedyFactors", unfollowed := true, recurses := true, named := ["math/bits.deBruijn32tab", "math/bits.deBruijn64tab"], apart := false, laid := [("math/bits.deBruijn32tab", laid_math_bits_deBruijn32tab), ("math/bits.deBruijn64tab", laid_math_bits_deBruijn64tab)] }
def FnExactGreedyFactorsSaid : Prop := fnExactGreedyFactorsRow.holds Tryd.pinned (OpenSpec.ofChange fnExactGreedyFactorsSpec)

/-- ITS FALSE NEIGHBOUR: 'it returns false'. Refute it at one input. -/
def fnExactGreedyFactorsWrong : ChangeSpec := { name := "fnExactGreedyFactors", fn := fun _ => fun
  | [d] => { results := [.lit (.bool false)], args := [d] }
  | _ => none }
def FnExactGreedyFactorsWrongFalsely : Prop := fnExactGreedyFactorsRow.holds Tryd.pinned (OpenSpec.ofChange fnExactGreedyFactorsWrong)

/- THE SECOND FORM. 'bulk': how many values and letters a reading holds, each counted each time it is reached (what is shared counts as often as it is met; a slice's spare places count too). A statement '..UptoSaid' is the law's where the arguments, and the package variables that the reading takes, are together of bulk at most 1048576: NARROWER than '..Said'. Prove '..Said' where nothing that the law and all that it calls make is longer than what came in: it says more and counts as full. Else prove '..UptoSaid'. A law counts once. -/
mutual
def uptoBulk {H : Type} : DataW H → Nat
  | .lit (.string bytes) => bytes.length + 1
  | .lit _ => 1
  | .nil => 1
  | .ptr d => uptoBulk d + 1
  | .slice elems spare => uptoBulkAll elems + uptoBulkAll spare + 1
  | .agg parts => uptoBulkAll parts + 1
  | .iface _ d => uptoBulk d + 1
  | .map entries => uptoBulkEntries entries + 1
  | .held _ => 1
def uptoBulkAll {H : Type} : List (DataW H) → Nat
  | [] => 0
  | d :: r => uptoBulk d + uptoBulkAll r
def uptoBulkEntries {H : Type} : List (Lit × DataW H) → Nat
  | [] => 0
  | x :: r => uptoBulkEntry x + uptoBulkEntries r
def uptoBulkEntry {H : Type} : Lit × DataW H → Nat
  | (.string bytes, d) => bytes.length + uptoBulk d + 1
  | (_, d) => uptoBulk d + 1
 end
def uptoSmall : (H : Type) → List (DataW H) → Bool := fun _ ds => decide (uptoBulkAll ds ≤ 1048576)
def OpenSpec.upto (s : _root_.Go.ChangeSpec) : _root_.Go.OpenSpec := { _root_.Go.OpenSpec.ofChange s with cond := some uptoSmall }

/-- 'laws.FnExactComplementsOf', WHERE WHAT IT READS IS OF BULK AT MOST 1048576: true; the input reads as it did. -/
def fnExactComplementsOfUptoRow : OpenClaim := { program := "ythdeaenleimbeaadoor", sum := "23282aa74dac71bbf27cfdc5be5714b4c98b4000d3745cf7aeb2516551559522", func := "loop.example/g00596/laws.FnExactComplementsOf", spec := "fnExactComplementsOf", unfollowed := true, recurses := true, named := ["math/bits.deBruijn32tab", "math/bits.deBruijn64tab"], apart := false, laid := [("math/bits.deBruijn32tab", laid_math_bits_deBruijn32tab), ("math/bits.deBruijn64tab", laid_math_bits_deBruijn64tab)], narrowed := true }
def FnExactComplementsOfUptoSaid : Prop := fnExactComplementsOfUptoRow.holds Tryd.pinned (OpenSpec.upto fnExactComplementsOfSpec)

/-- 'laws.FnExactJoinIrreducibles', WHERE WHAT IT READS IS OF BULK AT MOST 1048576: true; the input reads as it did. -/
def fnExactJoinIrreduciblesUptoRow : OpenClaim := { program := "ythdeaenleimbeaadoor", sum := "23282aa74dac71bbf27cfdc5be5714b4c98b4000d3745cf7aeb2516551559522", func := "loop.example/g00596/laws.FnExactJoinIrreducibles", spec := "fnExactJoinIrreducibles", unfollowed := true, recurses := true, named := ["math/bits.deBruijn32tab", "math/bits.deBruijn64tab"], apart := false, laid := [("math/bits.deBruijn32tab", laid_math_bits_deBruijn32tab), ("math/bits.deBruijn64tab", laid_math_bits_deBruijn64tab)], narrowed := true }
def FnExactJoinIrreduciblesUptoSaid : Prop := fnExactJoinIrreduciblesUptoRow.holds Tryd.pinned (OpenSpec.upto fnExactJoinIrreduciblesSpec)

/-- 'laws.FnExactMeetIrreducibles', WHERE WHAT IT READS IS OF BULK AT MOST 1048576: true; the input reads as it did. -/
def fnExactMeetIrreduciblesUptoRow : OpenClaim := { program := "ythdeaenleimbeaadoor", sum := "23282aa74dac71bbf27cfdc5be5714b4c98b4000d3745cf7aeb2516551559522", func := "loop.example/g00596/laws.FnExactMeetIrreducibles", spec := "fnExactMeetIrreducibles", unfollowed := true, recurses := true, named := ["math/bits.deBruijn32tab", "math/bits.deBruijn64tab"], apart := false, laid := [("math/bits.deBruijn32tab", laid_math_bits_deBruijn32tab), ("math/bits.deBruijn64tab", laid_math_bits_deBruijn64tab)], narrowed := true }
def FnExactMeetIrreduciblesUptoSaid : Prop := fnExactMeetIrreduciblesUptoRow.holds Tryd.pinned (OpenSpec.upto fnExactMeetIrreduciblesSpec)

/-- 'laws.FnExactPathConfidence', WHERE WHAT IT READS IS OF BULK AT MOST 1048576: true; the input reads as it did. -/
def fnExactPathConfidenceUptoRow : OpenClaim := { program := "ythdeaenleimbeaadoor", sum := "23282aa74dac71bbf27cfdc5be5714b4c98b4000d3745cf7aeb2516551559522", func := "loop.example/g00596/laws.FnExactPathConfidence", spec := "fnExactPathConfidence", unfollowed := true, recurses := true, named := ["math/bits.deBruijn32tab", "math/bits.deBruijn64tab"], apart := false, laid := [("math/bits.deBruijn32tab", laid_math_bits_deBruijn32tab), ("math/bits.deBruijn64tab", laid_math_bits_deBruijn64tab)], narrowed := true }
def FnExactPathConfidenceUptoSaid : Prop := fnExactPathConfidenceUptoRow.holds Tryd.pinned (OpenSpec.upto fnExactPathConfidenceSpec)

/-- 'laws.FnExactFrequentIntents', WHERE WHAT IT READS IS OF BULK AT MOST 1048576: true; the input reads as it did. -/
def fnExactFrequentIntentsUptoRow : OpenClaim := { program := "ythdeaenleimbeaadoor", sum := "23282aa74dac71bbf27cfdc5be5714b4c98b4000d3745cf7aeb2516551559522", func := "loop.example/g00596/laws.FnExactFrequentIntents", spec := "fnExactFrequentIntents", unfollowed := true, recurses := true, named := ["math/bits.deBruijn32tab", "math/bits.deBruijn64tab"], apart := false, laid := [("math/bits.deBruijn32tab", laid_math_bits_deBruijn32tab), ("math/bits.deBruijn64tab", laid_math_bits_deBruijn64tab)], narrowed := true }
def FnExactFrequentIntentsUptoSaid : Prop := fnExactFrequentIntentsUptoRow.holds Tryd.pinned (OpenSpec.upto fnExactFrequentIntentsSpec)

/-- 'laws.FnExactStrongRules', WHERE WHAT IT READS IS OF BULK AT MOST 1048576: true; the input reads as it did. -/
def fnExactStrongRulesUptoRow : OpenClaim := { program := "ythdeaenleimbeaadoor", sum := "23282aa74dac71bbf27cfdc5be5714b4c98b4000d3745cf7aeb2516551559522", func := "loop.example/g00596/laws.FnExactStrongRules", spec := "fnExactStrongRules", unfollowed := true, recurses := true, named := ["math/bits.deBruijn32tab", "math/bits.deBruijn64tab"], apart := false, laid := [("math/bits.deBruijn32tab", laid_math_bits_deBruijn32tab), ("math/bits.deBruijn64tab", laid_math_bits_deBruijn64tab)], narrowed := true }
def FnExactStrongRulesUptoSaid : Prop := fnExactStrongRulesUptoRow.holds Tryd.pinned (OpenSpec.upto fnExactStrongRulesSpec)

/-- 'laws.FnExactLuxenburgerBase', WHERE WHAT IT READS IS OF BULK AT MOST 1048576: true; the input reads as it did. -/
def fnExactLuxenburgerBaseUptoRow : OpenClaim := { program := "ythdeaenleimbeaadoor", sum := "23282aa74dac71bbf27cfdc5be5714b4c98b4000d3745cf7aeb2516551559522", func := "loop.example/g00596/laws.FnExactLuxenburgerBase", spec := "fnExactLuxenburgerBase", unfollowed := true, recurses := true, named := ["math/bits.deBruijn32tab", "math/bits.deBruijn64tab"], apart := false, laid := [("math/bits.deBruijn32tab", laid_math_bits_deBruijn32tab), ("math/bits.deBruijn64tab", laid_math_bits_deBruijn64tab)], narrowed := true }
def FnExactLuxenburgerBaseUptoSaid : Prop := fnExactLuxenburgerBaseUptoRow.holds Tryd.pinned (OpenSpec.upto fnExactLuxenburgerBaseSpec)

/-- 'laws.FnExactIsCompatible', WHERE WHAT IT READS IS OF BULK AT MOST 1048576: true; the input reads as it did. -/
def fnExactIsCompatibleUptoRow : OpenClaim := { program := "ythdeaenleimbeaadoor", sum := "23282aa74dac71bbf27cfdc5be5714b4c98b4000d3745cf7aeb2516551559522", func := "loop.example/g00596/laws.FnExactIsCompatible", spec := "fnExactIsCompatible", unfollowed := true, recurses := true, named := ["math/bits.deBruijn32tab", "math/bits.deBruijn64tab"], apart := false, laid := [("math/bits.deBruijn32tab", laid_math_bits_deBruijn32tab), ("math/bits.deBruijn64tab", laid_math_bits_deBruijn64tab)], narrowed := true }
def FnExactIsCompatibleUptoSaid : Prop := fnExactIsCompatibleUptoRow.holds Tryd.pinned (OpenSpec.upto fnExactIsCompatibleSpec)

/-- 'laws.FnExactCountCompatible', WHERE WHAT IT READS IS OF BULK AT MOST 1048576: true; the input reads as it did. -/
def fnExactCountCompatibleUptoRow : OpenClaim := { program := "ythdeaenleimbeaadoor", sum := "23282aa74dac71bbf27cfdc5be5714b4c98b4000d3745cf7aeb2516551559522", func := "loop.example/g00596/laws.FnExactCountCompatible", spec := "fnExactCountCompatible", unfollowed := true, recurses := true, named := ["math/bits.deBruijn32tab", "math/bits.deBruijn64tab"], apart := false, laid := [("math/bits.deBruijn32tab", laid_math_bits_deBruijn32tab), ("math/bits.deBruijn64tab", laid_math_bits_deBruijn64tab)], narrowed := true }
def FnExactCountCompatibleUptoSaid : Prop := fnExactCountCompatibleUptoRow.holds Tryd.pinned (OpenSpec.upto fnExactCountCompatibleSpec)

/-- 'laws.FnExactIsComplemented', WHERE WHAT IT READS IS OF BULK AT MOST 1048576: true; the input reads as it did. -/
def fnExactIsComplementedUptoRow : OpenClaim := { program := "ythdeaenleimbeaadoor", sum := "23282aa74dac71bbf27cfdc5be5714b4c98b4000d3745cf7aeb2516551559522", func := "loop.example/g00596/laws.FnExactIsComplemented", spec := "fnExactIsComplemented", unfollowed := true, recurses := true, named := ["math/bits.deBruijn32tab", "math/bits.deBruijn64tab"], apart := false, laid := [("math/bits.deBruijn32tab", laid_math_bits_deBruijn32tab), ("math/bits.deBruijn64tab", laid_math_bits_deBruijn64tab)], narrowed := true }
def FnExactIsComplementedUptoSaid : Prop := fnExactIsComplementedUptoRow.holds Tryd.pinned (OpenSpec.upto fnExactIsComplementedSpec)

/-- 'laws.FnExactNextModel', WHERE WHAT IT READS IS OF BULK AT MOST 1048576: true; the input reads as it did. -/
def fnExactNextModelUptoRow : OpenClaim := { program := "ythdeaenleimbeaadoor", sum := "23282aa74dac71bbf27cfdc5be5714b4c98b4000d3745cf7aeb2516551559522", func := "loop.example/g00596/laws.FnExactNextModel", spec := "fnExactNextModel", unfollowed := true, recurses := true, named := ["math/bits.deBruijn32tab", "math/bits.deBruijn64tab"], apart := false, laid := [("math/bits.deBruijn32tab", laid_math_bits_deBruijn32tab), ("math/bits.deBruijn64tab", laid_math_bits_deBruijn64tab)], narrowed := true }
def FnExactNextModelUptoSaid : Prop := fnExactNextModelUptoRow.holds Tryd.pinned (OpenSpec.upto fnExactNextModelSpec)

/-- 'laws.FnExactGreedyFactors', WHERE WHAT IT READS IS OF BULK AT MOST 1048576: true; the input reads as it did. -/
def fnExactGreedyFactorsUptoRow : OpenClaim := { program := "ythdeaenleimbeaadoor", sum := "23282aa74dac71bbf27cfdc5be5714b4c98b4000d3745cf7aeb2516551559522", func := "loop.example/g00596/laws.FnExactGreedyFactors", spec := "fnExactGreedyFactors", unfollowed := true, recurses := true, named := ["math/bits.deBruijn32tab", "math/bits.deBruijn64tab"], apart := false, laid := [("math/bits.deBruijn32tab", laid_math_bits_deBruijn32tab), ("math/bits.deBruijn64tab", laid_math_bits_deBruijn64tab)], narrowed := true }
def FnExactGreedyFactorsUptoSaid : Prop := fnExactGreedyFactorsUptoRow.holds Tryd.pinned (OpenSpec.upto fnExactGreedyFactorsSpec)

end Rows
end Go.Proofs.YthdeaenleimbeaaDoor
