/- The closed facts of the card of FnExactFrequentIntents. Conditions: none. -/
import Derived.Test.YthdeaenleimbeaaDoorCards
import Derived.SevenTiedAt
import Derived.KernelRfl
namespace Go.Proofs.YthdeaenleimbeaaDoor
theorem fnExactFrequentIntents_goes : false = Rows.fnExactFrequentIntentsRow.goesBy Tryd.pinned.checked.prog := by kernel_rfl
theorem fnExactFrequentIntents_looks : false = Tryd.pinned.checked.prog.looks [] := by kernel_rfl
theorem fnExactFrequentIntents_main : Tryd.pinned.checked.prog.mainIs = some (true, "a60f607ac9c9e1515cf47570067a1de2d27f00fa85ca7c308c544318b928c77f".toList) := by kernel_rfl
theorem fnExactFrequentIntents_named : Tryd.pinned.checked.prog.funcNamed Rows.fnExactFrequentIntentsRow.func = some 7 := by kernel_rfl
theorem fnExactFrequentIntents_wf : Rows.fnExactFrequentIntentsRow.wfByText (OpenSpec.ofChange Rows.fnExactFrequentIntentsSpec) = true := by kernel_rfl
theorem fnExactFrequentIntents_stands : ([24, 3].all fun u => !Tryd.prog.wantsStandIn u) = true := by kernel_rfl
end Go.Proofs.YthdeaenleimbeaaDoor
