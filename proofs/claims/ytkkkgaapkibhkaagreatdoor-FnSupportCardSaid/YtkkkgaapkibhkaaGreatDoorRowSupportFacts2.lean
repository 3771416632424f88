/- The closed facts of the card of FnSupport. Conditions: none. -/
import Derived.Test.YtkkkgaapkibhkaaGreatDoorCards
import Derived.SevenTiedAt
import Derived.KernelRfl
namespace Go.Proofs.YtkkkgaapkibhkaaGreatDoor
theorem fnSupport_goes : false = Rows.fnSupportRow.goesBy Tryz.pinned.checked.prog := by kernel_rfl
theorem fnSupport_looks : false = Tryz.pinned.checked.prog.looks [] := by kernel_rfl
theorem fnSupport_main : Tryz.pinned.checked.prog.mainIs = some (true, "d2b58423e95638f0ae0edbf3c52274759b24771716d566c27d7d0be9fa79a099".toList) := by kernel_rfl
theorem fnSupport_named : Tryz.pinned.checked.prog.funcNamed Rows.fnSupportRow.func = some 8 := by kernel_rfl
theorem fnSupport_wf : Rows.fnSupportRow.wfByText (OpenSpec.ofChange Rows.fnSupportSpec) = true := by kernel_rfl
theorem fnSupport_stands : ([22].all fun u => !Tryz.prog.wantsStandIn u) = true := by kernel_rfl
end Go.Proofs.YtkkkgaapkibhkaaGreatDoor
