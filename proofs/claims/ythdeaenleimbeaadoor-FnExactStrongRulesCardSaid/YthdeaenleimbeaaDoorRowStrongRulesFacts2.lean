/- The closed facts of the card of FnExactStrongRules. Conditions: none. -/
import Derived.Test.YthdeaenleimbeaaDoorCards
import Derived.SevenTiedAt
import Derived.KernelRfl
namespace Go.Proofs.YthdeaenleimbeaaDoor
theorem fnExactStrongRules_goes : false = Rows.fnExactStrongRulesRow.goesBy Tryd.pinned.checked.prog := by kernel_rfl
theorem fnExactStrongRules_looks : false = Tryd.pinned.checked.prog.looks [] := by kernel_rfl
theorem fnExactStrongRules_main : Tryd.pinned.checked.prog.mainIs = some (true, "a60f607ac9c9e1515cf47570067a1de2d27f00fa85ca7c308c544318b928c77f".toList) := by kernel_rfl
theorem fnExactStrongRules_named : Tryd.pinned.checked.prog.funcNamed Rows.fnExactStrongRulesRow.func = some 8 := by kernel_rfl
theorem fnExactStrongRules_wf : Rows.fnExactStrongRulesRow.wfByText (OpenSpec.ofChange Rows.fnExactStrongRulesSpec) = true := by kernel_rfl
theorem fnExactStrongRules_stands : ([24, 3, 3].all fun u => !Tryd.prog.wantsStandIn u) = true := by kernel_rfl
end Go.Proofs.YthdeaenleimbeaaDoor
