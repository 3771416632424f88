/- The closed facts of the card of FnExactMeetIrreducibles. Conditions: none. -/
import Derived.Test.YthdeaenleimbeaaDoorCards
import Derived.SevenTiedAt
import Derived.KernelRfl
namespace Go.Proofs.YthdeaenleimbeaaDoor
theorem fnExactMeetIrreducibles_goes : false = Rows.fnExactMeetIrreduciblesRow.goesBy Tryd.pinned.checked.prog := by kernel_rfl
theorem fnExactMeetIrreducibles_looks : false = Tryd.pinned.checked.prog.looks [] := by kernel_rfl
theorem fnExactMeetIrreducibles_main : Tryd.pinned.checked.prog.mainIs = some (true, "a60f607ac9c9e1515cf47570067a1de2d27f00fa85ca7c308c544318b928c77f".toList) := by kernel_rfl
theorem fnExactMeetIrreducibles_named : Tryd.pinned.checked.prog.funcNamed Rows.fnExactMeetIrreduciblesRow.func = some 5 := by kernel_rfl
theorem fnExactMeetIrreducibles_wf : Rows.fnExactMeetIrreduciblesRow.wfByText (OpenSpec.ofChange Rows.fnExactMeetIrreduciblesSpec) = true := by kernel_rfl
theorem fnExactMeetIrreducibles_stands : ([24].all fun u => !Tryd.prog.wantsStandIn u) = true := by kernel_rfl
end Go.Proofs.YthdeaenleimbeaaDoor
