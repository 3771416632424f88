/- The closed facts of the card of FnExactIsBoolean. Conditions: none. -/
import Derived.Test.YtkkkgaapkibhkaaDoorCards
import Derived.SevenTiedAt
import Derived.KernelRfl
namespace Go.Proofs.YtkkkgaapkibhkaaDoor
theorem fnExactIsBoolean_goes : false = Rows.fnExactIsBooleanRow.goesBy Tryd.pinned.checked.prog := by kernel_rfl
theorem fnExactIsBoolean_looks : false = Tryd.pinned.checked.prog.looks [] := by kernel_rfl
theorem fnExactIsBoolean_main : Tryd.pinned.checked.prog.mainIs = some (true, "752b27383bf34983def5c7f7991b730669df392f362d400dc36477233162ba2b".toList) := by kernel_rfl
theorem fnExactIsBoolean_named : Tryd.pinned.checked.prog.funcNamed Rows.fnExactIsBooleanRow.func = some 5 := by kernel_rfl
theorem fnExactIsBoolean_wf : Rows.fnExactIsBooleanRow.wfByText (OpenSpec.ofChange Rows.fnExactIsBooleanSpec) = true := by kernel_rfl
theorem fnExactIsBoolean_stands : ([24].all fun u => !Tryd.prog.wantsStandIn u) = true := by kernel_rfl
end Go.Proofs.YtkkkgaapkibhkaaDoor
