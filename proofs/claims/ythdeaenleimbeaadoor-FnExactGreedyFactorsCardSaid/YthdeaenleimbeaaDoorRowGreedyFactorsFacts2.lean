/- The closed facts of the card of FnExactGreedyFactors. Conditions: none. -/
import Derived.Test.YthdeaenleimbeaaDoorCards
import Derived.SevenTiedAt
import Derived.KernelRfl
namespace Go.Proofs.YthdeaenleimbeaaDoor
theorem fnExactGreedyFactors_goes : false = Rows.fnExactGreedyFactorsRow.goesBy Tryd.pinned.checked.prog := by kernel_rfl
theorem fnExactGreedyFactors_looks : false = Tryd.pinned.checked.prog.looks [] := by kernel_rfl
theorem fnExactGreedyFactors_main : Tryd.pinned.checked.prog.mainIs = some (true, "a60f607ac9c9e1515cf47570067a1de2d27f00fa85ca7c308c544318b928c77f".toList) := by kernel_rfl
theorem fnExactGreedyFactors_named : Tryd.pinned.checked.prog.funcNamed Rows.fnExactGreedyFactorsRow.func = some 14 := by kernel_rfl
theorem fnExactGreedyFactors_wf : Rows.fnExactGreedyFactorsRow.wfByText (OpenSpec.ofChange Rows.fnExactGreedyFactorsSpec) = true := by kernel_rfl
theorem fnExactGreedyFactors_stands : ([24].all fun u => !Tryd.prog.wantsStandIn u) = true := by kernel_rfl
end Go.Proofs.YthdeaenleimbeaaDoor
