/- The closed facts of the card of FnExactIsCompatible. Conditions: none. -/
import Derived.Test.YthdeaenleimbeaaDoorCards
import Derived.SevenTiedAt
import Derived.KernelRfl
namespace Go.Proofs.YthdeaenleimbeaaDoor
theorem fnExactIsCompatible_goes : false = Rows.fnExactIsCompatibleRow.goesBy Tryd.pinned.checked.prog := by kernel_rfl
theorem fnExactIsCompatible_looks : false = Tryd.pinned.checked.prog.looks [] := by kernel_rfl
theorem fnExactIsCompatible_main : Tryd.pinned.checked.prog.mainIs = some (true, "a60f607ac9c9e1515cf47570067a1de2d27f00fa85ca7c308c544318b928c77f".toList) := by kernel_rfl
theorem fnExactIsCompatible_named : Tryd.pinned.checked.prog.funcNamed Rows.fnExactIsCompatibleRow.func = some 10 := by kernel_rfl
theorem fnExactIsCompatible_wf : Rows.fnExactIsCompatibleRow.wfByText (OpenSpec.ofChange Rows.fnExactIsCompatibleSpec) = true := by kernel_rfl
theorem fnExactIsCompatible_stands : ([24, 3, 3].all fun u => !Tryd.prog.wantsStandIn u) = true := by kernel_rfl
end Go.Proofs.YthdeaenleimbeaaDoor
