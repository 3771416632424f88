/- The closed facts of the card of FnExactIsModular. Conditions: none. -/
import Derived.Test.YtkkkgaapkibhkaaDoorCards
import Derived.SevenTiedAt
import Derived.KernelRfl
namespace Go.Proofs.YtkkkgaapkibhkaaDoor
theorem fnExactIsModular_goes : false = Rows.fnExactIsModularRow.goesBy Tryd.pinned.checked.prog := by kernel_rfl
theorem fnExactIsModular_looks : false = Tryd.pinned.checked.prog.looks [] := by kernel_rfl
theorem fnExactIsModular_main : Tryd.pinned.checked.prog.mainIs = some (true, "752b27383bf34983def5c7f7991b730669df392f362d400dc36477233162ba2b".toList) := by kernel_rfl
theorem fnExactIsModular_named : Tryd.pinned.checked.prog.funcNamed Rows.fnExactIsModularRow.func = some 4 := by kernel_rfl
theorem fnExactIsModular_wf : Rows.fnExactIsModularRow.wfByText (OpenSpec.ofChange Rows.fnExactIsModularSpec) = true := by kernel_rfl
theorem fnExactIsModular_stands : ([24].all fun u => !Tryd.prog.wantsStandIn u) = true := by kernel_rfl
end Go.Proofs.YtkkkgaapkibhkaaDoor
