/- The closed facts of the card of FnExactCountCompatible. Conditions: none. -/
import Derived.Test.YthdeaenleimbeaaDoorCards
import Derived.SevenTiedAt
import Derived.KernelRfl
namespace Go.Proofs.YthdeaenleimbeaaDoor
theorem fnExactCountCompatible_goes : false = Rows.fnExactCountCompatibleRow.goesBy Tryd.pinned.checked.prog := by kernel_rfl
theorem fnExactCountCompatible_looks : false = Tryd.pinned.checked.prog.looks [] := by kernel_rfl
theorem fnExactCountCompatible_main : Tryd.pinned.checked.prog.mainIs = some (true, "a60f607ac9c9e1515cf47570067a1de2d27f00fa85ca7c308c544318b928c77f".toList) := by kernel_rfl
theorem fnExactCountCompatible_named : Tryd.pinned.checked.prog.funcNamed Rows.fnExactCountCompatibleRow.func = some 11 := by kernel_rfl
theorem fnExactCountCompatible_wf : Rows.fnExactCountCompatibleRow.wfByText (OpenSpec.ofChange Rows.fnExactCountCompatibleSpec) = true := by kernel_rfl
theorem fnExactCountCompatible_stands : ([24].all fun u => !Tryd.prog.wantsStandIn u) = true := by kernel_rfl
end Go.Proofs.YthdeaenleimbeaaDoor
