/- The closed facts of the card of FnExactPathConfidence. Conditions: none. -/
import Derived.Test.YthdeaenleimbeaaDoorCards
import Derived.SevenTiedAt
import Derived.KernelRfl
namespace Go.Proofs.YthdeaenleimbeaaDoor
theorem fnExactPathConfidence_goes : false = Rows.fnExactPathConfidenceRow.goesBy Tryd.pinned.checked.prog := by kernel_rfl
theorem fnExactPathConfidence_looks : false = Tryd.pinned.checked.prog.looks [] := by kernel_rfl
theorem fnExactPathConfidence_main : Tryd.pinned.checked.prog.mainIs = some (true, "a60f607ac9c9e1515cf47570067a1de2d27f00fa85ca7c308c544318b928c77f".toList) := by kernel_rfl
theorem fnExactPathConfidence_named : Tryd.pinned.checked.prog.funcNamed Rows.fnExactPathConfidenceRow.func = some 6 := by kernel_rfl
theorem fnExactPathConfidence_wf : Rows.fnExactPathConfidenceRow.wfByText (OpenSpec.ofChange Rows.fnExactPathConfidenceSpec) = true := by kernel_rfl
theorem fnExactPathConfidence_stands : ([24, 22].all fun u => !Tryd.prog.wantsStandIn u) = true := by kernel_rfl
end Go.Proofs.YthdeaenleimbeaaDoor
