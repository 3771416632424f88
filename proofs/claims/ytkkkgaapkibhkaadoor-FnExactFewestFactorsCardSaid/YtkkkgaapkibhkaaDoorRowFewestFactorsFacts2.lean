/- The closed facts of the card of FnExactFewestFactors. Conditions: none. -/
import Derived.Test.YtkkkgaapkibhkaaDoorCards
import Derived.SevenTiedAt
import Derived.KernelRfl
namespace Go.Proofs.YtkkkgaapkibhkaaDoor
theorem fnExactFewestFactors_goes : false = Rows.fnExactFewestFactorsRow.goesBy Tryd.pinned.checked.prog := by kernel_rfl
theorem fnExactFewestFactors_looks : false = Tryd.pinned.checked.prog.looks [] := by kernel_rfl
theorem fnExactFewestFactors_main : Tryd.pinned.checked.prog.mainIs = some (true, "752b27383bf34983def5c7f7991b730669df392f362d400dc36477233162ba2b".toList) := by kernel_rfl
theorem fnExactFewestFactors_named : Tryd.pinned.checked.prog.funcNamed Rows.fnExactFewestFactorsRow.func = some 6 := by kernel_rfl
theorem fnExactFewestFactors_wf : Rows.fnExactFewestFactorsRow.wfByText (OpenSpec.ofChange Rows.fnExactFewestFactorsSpec) = true := by kernel_rfl
theorem fnExactFewestFactors_stands : ([24, 3].all fun u => !Tryd.prog.wantsStandIn u) = true := by kernel_rfl
end Go.Proofs.YtkkkgaapkibhkaaDoor
