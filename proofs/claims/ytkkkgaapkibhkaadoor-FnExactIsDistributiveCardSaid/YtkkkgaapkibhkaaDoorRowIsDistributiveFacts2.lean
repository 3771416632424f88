/- The closed facts of the card of FnExactIsDistributive. Conditions: none. -/
import Derived.Test.YtkkkgaapkibhkaaDoorCards
import Derived.SevenTiedAt
import Derived.KernelRfl
namespace Go.Proofs.YtkkkgaapkibhkaaDoor
theorem fnExactIsDistributive_goes : false = Rows.fnExactIsDistributiveRow.goesBy Tryd.pinned.checked.prog := by kernel_rfl
theorem fnExactIsDistributive_looks : false = Tryd.pinned.checked.prog.looks [] := by kernel_rfl
theorem fnExactIsDistributive_main : Tryd.pinned.checked.prog.mainIs = some (true, "752b27383bf34983def5c7f7991b730669df392f362d400dc36477233162ba2b".toList) := by kernel_rfl
theorem fnExactIsDistributive_named : Tryd.pinned.checked.prog.funcNamed Rows.fnExactIsDistributiveRow.func = some 3 := by kernel_rfl
theorem fnExactIsDistributive_wf : Rows.fnExactIsDistributiveRow.wfByText (OpenSpec.ofChange Rows.fnExactIsDistributiveSpec) = true := by kernel_rfl
theorem fnExactIsDistributive_stands : ([24].all fun u => !Tryd.prog.wantsStandIn u) = true := by kernel_rfl
end Go.Proofs.YtkkkgaapkibhkaaDoor
