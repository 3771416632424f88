/- The closed facts of the card of FnFactors. Conditions: none. -/
import Derived.Test.YtliecnadoklgoaaGreatDoorCards
import Derived.SevenTiedAt
import Derived.KernelRfl
namespace Go.Proofs.YtliecnadoklgoaaGreatDoor
theorem fnFactors_goes : false = Rows.fnFactorsRow.goesBy Tryz.pinned.checked.prog := by kernel_rfl
theorem fnFactors_looks : false = Tryz.pinned.checked.prog.looks [] := by kernel_rfl
theorem fnFactors_main : Tryz.pinned.checked.prog.mainIs = some (true, "8c98ceeb552ca49acecc42b9b2b6a7542846d68bfb38c7ed94fa5d37f7b3e335".toList) := by kernel_rfl
theorem fnFactors_named : Tryz.pinned.checked.prog.funcNamed Rows.fnFactorsRow.func = some 7 := by kernel_rfl
theorem fnFactors_wf : Rows.fnFactorsRow.wfByText (OpenSpec.ofChange Rows.fnFactorsSpec) = true := by kernel_rfl
theorem fnFactors_stands : ([22].all fun u => !Tryz.prog.wantsStandIn u) = true := by kernel_rfl
end Go.Proofs.YtliecnadoklgoaaGreatDoor
