/- The closed facts of the card of FnExactIsComplemented. Conditions: none. -/
import Derived.Test.YthdeaenleimbeaaDoorCards
import Derived.SevenTiedAt
import Derived.KernelRfl
namespace Go.Proofs.YthdeaenleimbeaaDoor
theorem fnExactIsComplemented_goes : false = Rows.fnExactIsComplementedRow.goesBy Tryd.pinned.checked.prog := by kernel_rfl
theorem fnExactIsComplemented_looks : false = Tryd.pinned.checked.prog.looks [] := by kernel_rfl
theorem fnExactIsComplemented_main : Tryd.pinned.checked.prog.mainIs = some (true, "a60f607ac9c9e1515cf47570067a1de2d27f00fa85ca7c308c544318b928c77f".toList) := by kernel_rfl
theorem fnExactIsComplemented_named : Tryd.pinned.checked.prog.funcNamed Rows.fnExactIsComplementedRow.func = some 12 := by kernel_rfl
theorem fnExactIsComplemented_wf : Rows.fnExactIsComplementedRow.wfByText (OpenSpec.ofChange Rows.fnExactIsComplementedSpec) = true := by kernel_rfl
theorem fnExactIsComplemented_stands : ([24].all fun u => !Tryd.prog.wantsStandIn u) = true := by kernel_rfl
end Go.Proofs.YthdeaenleimbeaaDoor
