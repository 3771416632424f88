/- The closed facts of the card of FnExactJoinIrreducibles. Conditions: none. -/
import Derived.Test.YthdeaenleimbeaaDoorCards
import Derived.SevenTiedAt
import Derived.KernelRfl
namespace Go.Proofs.YthdeaenleimbeaaDoor
theorem fnExactJoinIrreducibles_goes : false = Rows.fnExactJoinIrreduciblesRow.goesBy Tryd.pinned.checked.prog := by kernel_rfl
theorem fnExactJoinIrreducibles_looks : false = Tryd.pinned.checked.prog.looks [] := by kernel_rfl
theorem fnExactJoinIrreducibles_main : Tryd.pinned.checked.prog.mainIs = some (true, "a60f607ac9c9e1515cf47570067a1de2d27f00fa85ca7c308c544318b928c77f".toList) := by kernel_rfl
theorem fnExactJoinIrreducibles_named : Tryd.pinned.checked.prog.funcNamed Rows.fnExactJoinIrreduciblesRow.func = some 4 := by kernel_rfl
theorem fnExactJoinIrreducibles_wf : Rows.fnExactJoinIrreduciblesRow.wfByText (OpenSpec.ofChange Rows.fnExactJoinIrreduciblesSpec) = true := by kernel_rfl
theorem fnExactJoinIrreducibles_stands : ([24].all fun u => !Tryd.prog.wantsStandIn u) = true := by kernel_rfl
end Go.Proofs.YthdeaenleimbeaaDoor
