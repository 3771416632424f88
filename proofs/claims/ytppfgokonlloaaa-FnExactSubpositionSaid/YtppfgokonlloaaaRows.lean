/-
  No cell of these rows narrows 'for every input' (looked for: loops, veiled, ifaces, maps, wideKeys, modest, calm, conditions, laid).
  DERIVED. THE GIVEN ROWS OF THIS SEAT. 5 by the template 'for every input the law returns true; each argument reads behind the call as it read before'; 0 by the template 'total and deterministic' (their statements: YtppfgokonlloaaaTotals.lean).
  GIVEN WITH THE SEED: the statements are not yours to turn. If you find one false, say at which input.
  Laid BY PROGRAM, IN A SANDBOX (cutbox-rows.mjs): the forced cells as the released guide's own fill.sh prints them over the translation 9cb3683af2f34b0e… (all of the seat's roots in one cut). By AI agents, Wed Nov 11 2026. No macro, syntax, notation, axiom, sorry.
-/
import Derived.Test.YtppfgokonlloaaaChecked
import GoSem.Claim
import GoSem.ClaimJoined
import GoSem.ClaimMapViews
import Derived.JoinedTies
import Derived.KernelRfl
namespace Go.Proofs.Ytppfgokonlloaaa
/- THE CELL 'sum', in the pinned program and in every row, IS THE sha256 OF THE DUMP (.gsa) THAT YtppfgokonlloaaaProg.lean LOADS. Nothing in Lean hashes anything: it is a label: what it is worth is what the hold of that sum in a sandbox is worth. -/
noncomputable def Try.pinned : Pinned := { name := "ytppfgokonlloaaa", sum := "9cb3683af2f34b0e20c9df8c416141a9eecabc185edde61daa600b83eda4b658", checked := Try.checked }
namespace Rows
def none {H : Type} : Left H := { results := [], args := [] }

/-- 'laws.FnExactSubposition': WHATEVER THE INPUT: true; the input reads as it did. -/
def fnExactSubpositionSpec : ChangeSpec := { name := "fnExactSubposition", fn := fun _ => fun
  | [d1, d2] => { results := [.lit (.bool true)], args := [d1, d2] }
  | _ => none }
def fnExactSubpositionRow : OpenClaim := { program := "ytppfgokonlloaaa", sum := "9cb3683af2f34b0e20c9df8c416141a9eecabc185edde61daa600b83eda4b658", func := "loop.example/g00596/laws.FnExactSubposition", spec := "fnExactSubposition", unfollowed := true, recurses := true, apart := false }
def FnExactSubpositionSaid : Prop := fnExactSubpositionRow.holds Try.pinned (OpenSpec.ofChange fnExactSubpositionSpec)

/-- ITS FALSE NEIGHBOUR: 'it returns false'. Refute it at one input. -/
def fnExactSubpositionWrong : ChangeSpec := { name := "fnExactSubposition", fn := fun _ => fun
  | [d1, d2] => { results := [.lit (.bool false)], args := [d1, d2] }
  | _ => none }
def FnExactSubpositionWrongFalsely : Prop := fnExactSubpositionRow.holds Try.pinned (OpenSpec.ofChange fnExactSubpositionWrong)

/-- 'laws.FnExactAgreementContext': WHATEVER THE INPUT: true; the input reads as it did. -/
def fnExactAgreementContextSpec : ChangeSpec := { name := "fnExactAgreementContext", fn := fun _ => fun
  | [d] => { results := [.lit (.bool true)], args := [d] }
  | _ => none }
def fnExactAgreementContextRow : OpenClaim := { program := "ytppfgokonlloaaa", sum := "9cb3683af2f34b0e20c9df8c416141a9eecabc185edde61daa600b83eda4b658", func := "loop.example/g00596/laws.FnExactAgreementContext", spec := "fnExactAgreementContext", unfollowed := true, recurses := true, apart := false }
def FnExactAgreementContextSaid : Prop := fnExactAgreementContextRow.holds Try.pinned (OpenSpec.ofChange fnExactAgreementContextSpec)

/-- ITS FALSE NEIGHBOUR: 'it returns false'. Refute it at one input. -/
def fnExactAgreementContextWrong : ChangeSpec := { name := "fnExactAgreementContext", fn := fun _ => fun
  | [d] => { results := [.lit (.bool false)], args := [d] }
  | _ => none }
def FnExactAgreementContextWrongFalsely : Prop := fnExactAgreementContextRow.holds Try.pinned (OpenSpec.ofChange fnExactAgreementContextWrong)

/-- 'laws.FnExactNominalContext': WHATEVER THE INPUT: true; the input reads as it did. -/
def fnExactNominalContextSpec : ChangeSpec := { name := "fnExactNominalContext", fn := fun _ => fun
  | [d] => { results := [.lit (.bool true)], args := [d] }
  | _ => none }
def fnExactNominalContextRow : OpenClaim := { program := "ytppfgokonlloaaa", sum := "9cb3683af2f34b0e20c9df8c416141a9eecabc185edde61daa600b83eda4b658", func := "loop.example/g00596/laws.FnExactNominalContext", spec := "fnExactNominalContext", unfollowed := true, recurses := true, apart := false }
def FnExactNominalContextSaid : Prop := fnExactNominalContextRow.holds Try.pinned (OpenSpec.ofChange fnExactNominalContextSpec)

/-- ITS FALSE NEIGHBOUR: 'it returns false'. Refute it at one input. -/
def fnExactNominalContextWrong : ChangeSpec := { name := "fnExactNominalContext", fn := fun _ => fun
  | [d] => { results := [.lit (.bool false)], args := [d] }
  | _ => none }
def FnExactNominalContextWrongFalsely : Prop := fnExactNominalContextRow.holds Try.pinned (OpenSpec.ofChange fnExactNominalContextWrong)

/-- 'laws.FnExactOrdinalContext': WHATEVER THE INPUT: true; the input reads as it did. -/
def fnExactOrdinalContextSpec : ChangeSpec := { name := "fnExactOrdinalContext", fn := fun _ => fun
  | [d] => { results := [.lit (.bool true)], args := [d] }
  | _ => none }
def fnExactOrdinalContextRow : OpenClaim := { program := "ytppfgokonlloaaa", sum := "9cb3683af2f34b0e20c9df8c416141a9eecabc185edde61daa600b83eda4b658", func := "loop.example/g00596/laws.FnExactOrdinalContext", spec := "fnExactOrdinalContext", unfollowed := true, recurses := true, apart := false }
def FnExactOrdinalContextSaid : Prop := fnExactOrdinalContextRow.holds Try.pinned (OpenSpec.ofChange fnExactOrdinalContextSpec)

/-- ITS FALSE NEIGHBOUR: 'it returns false'. Refute it at one input. -/
def fnExactOrdinalContextWrong : ChangeSpec := { name := "fnExactOrdinalContext", fn := fun _ => fun
  | [d] => { results := [.lit (.bool false)], args := [d] }
  | _ => none }
def FnExactOrdinalContextWrongFalsely : Prop := fnExactOrdinalContextRow.holds Try.pinned (OpenSpec.ofChange fnExactOrdinalContextWrong)

/-- 'laws.FnExactInterordinalContext': WHATEVER THE INPUT: true; the input reads as it did. -/
def fnExactInterordinalContextSpec : ChangeSpec := { name := "fnExactInterordinalContext", fn := fun _ => fun
  | [d] => { results := [.lit (.bool true)], args := [d] }
  | _ => none }
def fnExactInterordinalContextRow : OpenClaim := { program := "ytppfgokonlloaaa", sum := "9cb3683af2f34b0e20c9df8c416141a9eecabc185edde61daa600b83eda4b658", func := "loop.example/g00596/laws.FnExactInterordinalContext", spec := "fnExactInterordinalContext", unfollowed := true, recurses := true, apart := false }
def FnExactInterordinalContextSaid : Prop := fnExactInterordinalContextRow.holds Try.pinned (OpenSpec.ofChange fnExactInterordinalContextSpec)

/-- ITS FALSE NEIGHBOUR: 'it returns false'. Refute it at one input. -/
def fnExactInterordinalContextWrong : ChangeSpec := { name := "fnExactInterordinalContext", fn := fun _ => fun
  | [d] => { results := [.lit (.bool false)], args := [d] }
  | _ => none }
def FnExactInterordinalContextWrongFalsely : Prop := fnExactInterordinalContextRow.holds Try.pinned (OpenSpec.ofChange fnExactInterordinalContextWrong)

/- THE SECOND FORM. 'bulk': how many values and letters a reading holds, each counted each time it is reached (what is shared counts as often as it is met; a slice's spare places count too). A statement '..UptoSaid' is the law's where the arguments, and the package variables that the reading takes, are together of bulk at most 1048576: NARROWER than '..Said'. Prove '..Said' where nothing that the law and all that it calls make is longer than what came in: it says more and counts as full. Else prove '..UptoSaid'. A law counts once. -/
mutual
def uptoBulk {H : Type} : DataW H → Nat
  | .lit (.string bytes) => bytes.length + 1
  | .lit _ => 1
  | .nil => 1
  | .ptr d => uptoBulk d + 1
  | .slice elems spare => uptoBulkAll elems + uptoBulkAll spare + 1
  | .agg parts => uptoBulkAll parts + 1
  | .iface _ d => uptoBulk d + 1
  | .map entries => uptoBulkEntries entries + 1
  | .held _ => 1
def uptoBulkAll {H : Type} : List (DataW H) → Nat
  | [] => 0
  | d :: r => uptoBulk d + uptoBulkAll r
def uptoBulkEntries {H : Type} : List (Lit × DataW H) → Nat
  | [] => 0
  | x :: r => uptoBulkEntry x + uptoBulkEntries r
def uptoBulkEntry {H : Type} : Lit × DataW H → Nat
  | (.string bytes, d) => bytes.length + uptoBulk d + 1
  | (_, d) => uptoBulk d + 1
 end
def uptoSmall : (H : Type) → List (DataW H) → Bool := fun _ ds => decide (uptoBulkAll ds ≤ 1048576)
def OpenSpec.upto (s : _root_.Go.ChangeSpec) : _root_.Go.OpenSpec := { _root_.Go.OpenSpec.ofChange s with cond := some uptoSmall }

/-- 'laws.FnExactSubposition', WHERE WHAT IT READS IS OF BULK AT MOST 1048576: true; the input reads as it did. -/
def fnExactSubpositionUptoRow : OpenClaim := { program := "ytppfgokonlloaaa", sum := "9cb3683af2f34b0e20c9df8c416141a9eecabc185edde61daa600b83eda4b658", func := "loop.example/g00596/laws.FnExactSubposition", spec := "fnExactSubposition", unfollowed := true, recurses := true, apart := false, narrowed := true }
def FnExactSubpositionUptoSaid : Prop := fnExactSubpositionUptoRow.holds Try.pinned (OpenSpec.upto fnExactSubpositionSpec)

/-- 'laws.FnExactAgreementContext', WHERE WHAT IT READS IS OF BULK AT MOST 1048576: true; the input reads as it did. -/
def fnExactAgreementContextUptoRow : OpenClaim := { program := "ytppfgokonlloaaa", sum := "9cb3683af2f34b0e20c9df8c416141a9eecabc185edde61daa600b83eda4b658", func := "loop.example/g00596/laws.FnExactAgreementContext", spec := "fnExactAgreementContext", unfollowed := true, recurses := true, apart := false, narrowed := true }
def FnExactAgreementContextUptoSaid : Prop := fnExactAgreementContextUptoRow.holds Try.pinned (OpenSpec.upto fnExactAgreementContextSpec)

/-- 'laws.FnExactNominalContext', WHERE WHAT IT READS IS OF BULK AT MOST 1048576: true; the input reads as it did. -/
def fnExactNominalContextUptoRow : OpenClaim := { program := "ytppfgokonlloaaa", sum := "9cb3683af2f34b0e20c9df8c416141a9eecabc185edde61daa600b83eda4b658", func := "loop.example/g00596/laws.FnExactNominalContext", spec := "fnExactNominalContext", unfollowed := true, recurses := true, apart := false, narrowed := true }
def FnExactNominalContextUptoSaid : Prop := fnExactNominalContextUptoRow.holds Try.pinned (OpenSpec.upto fnExactNominalContextSpec)

/-- 'laws.FnExactOrdinalContext', WHERE WHAT IT READS IS OF BULK AT MOST 1048576: true; the input reads as it did. -/
def fnExactOrdinalContextUptoRow : OpenClaim := { program := "ytppfgokonlloaaa", sum := "9cb3683af2f34b0e20c9df8c416141a9eecabc185edde61daa600b83eda4b658", func := "loop.example/g00596/laws.FnExactOrdinalContext", spec := "fnExactOrdinalContext", unfollowed := true, recurses := true, apart := false, narrowed := true }
def FnExactOrdinalContextUptoSaid : Prop := fnExactOrdinalContextUptoRow.holds Try.pinned (OpenSpec.upto fnExactOrdinalContextSpec)

/-- 'laws.FnExactInterordinalContext', WHERE WHAT IT READS IS OF BULK AT MOST 1048576: true; the input reads as it did. -/
def fnExactInterordinalContextUptoRow : OpenClaim := { program := "ytppfgokonlloaaa", sum := "9cb3683af2f34b0e20c9df8c416141a9eecabc185edde61daa600b83eda4b658", func := "loop.example/g00596/laws.FnExactInterordinalContext", spec := "fnExactInterordinalContext", unfollowed := true, recurses := true, apart := false, narrowed := true }
def FnExactInterordinalContextUptoSaid : Prop := fnExactInterordinalContextUptoRow.holds Try.pinned (OpenSpec.upto fnExactInterordinalContextSpec)

end Rows
end Go.Proofs.Ytppfgokonlloaaa
