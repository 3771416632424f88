/- The closed facts of the card of FnExactLuxenburgerBase. Conditions: none. -/
import Derived.Test.YthdeaenleimbeaaDoorCards
import Derived.SevenTiedAt
import Derived.KernelRfl
namespace Go.Proofs.YthdeaenleimbeaaDoor
theorem fnExactLuxenburgerBase_goes : false = Rows.fnExactLuxenburgerBaseRow.goesBy Tryd.pinned.checked.prog := by kernel_rfl
theorem fnExactLuxenburgerBase_looks : false = Tryd.pinned.checked.prog.looks [] := by kernel_rfl
theorem fnExactLuxenburgerBase_main : Tryd.pinned.checked.prog.mainIs = some (true, "a60f607ac9c9e1515cf47570067a1de2d27f00fa85ca7c308c544318b928c77f".toList) := by kernel_rfl
theorem fnExactLuxenburgerBase_named : Tryd.pinned.checked.prog.funcNamed Rows.fnExactLuxenburgerBaseRow.func = some 9 := by kernel_rfl
theorem fnExactLuxenburgerBase_wf : Rows.fnExactLuxenburgerBaseRow.wfByText (OpenSpec.ofChange Rows.fnExactLuxenburgerBaseSpec) = true := by kernel_rfl
theorem fnExactLuxenburgerBase_stands : ([24, 3].all fun u => !Tryd.prog.wantsStandIn u) = true := by kernel_rfl
end Go.Proofs.YthdeaenleimbeaaDoor
