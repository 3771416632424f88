/- The closed facts of the card of FnExactNextModel. Conditions: none. -/
import Derived.Test.YthdeaenleimbeaaDoorCards
import Derived.SevenTiedAt
import Derived.KernelRfl
namespace Go.Proofs.YthdeaenleimbeaaDoor
theorem fnExactNextModel_goes : false = Rows.fnExactNextModelRow.goesBy Tryd.pinned.checked.prog := by kernel_rfl
theorem fnExactNextModel_looks : false = Tryd.pinned.checked.prog.looks [] := by kernel_rfl
theorem fnExactNextModel_main : Tryd.pinned.checked.prog.mainIs = some (true, "a60f607ac9c9e1515cf47570067a1de2d27f00fa85ca7c308c544318b928c77f".toList) := by kernel_rfl
theorem fnExactNextModel_named : Tryd.pinned.checked.prog.funcNamed Rows.fnExactNextModelRow.func = some 13 := by kernel_rfl
theorem fnExactNextModel_wf : Rows.fnExactNextModelRow.wfByText (OpenSpec.ofChange Rows.fnExactNextModelSpec) = true := by kernel_rfl
theorem fnExactNextModel_stands : ([3, 52, 3].all fun u => !Tryd.prog.wantsStandIn u) = true := by kernel_rfl
end Go.Proofs.YthdeaenleimbeaaDoor
