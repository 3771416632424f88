/- The closed facts of the card of FnParts. Conditions: none. -/
import Derived.Test.YtliecnadoklgoaaGreatDoorCards
import Derived.SevenTiedAt
import Derived.KernelRfl
namespace Go.Proofs.YtliecnadoklgoaaGreatDoor
theorem fnParts_goes : false = Rows.fnPartsRow.goesBy Tryz.pinned.checked.prog := by kernel_rfl
theorem fnParts_looks : false = Tryz.pinned.checked.prog.looks [] := by kernel_rfl
theorem fnParts_main : Tryz.pinned.checked.prog.mainIs = some (true, "8c98ceeb552ca49acecc42b9b2b6a7542846d68bfb38c7ed94fa5d37f7b3e335".toList) := by kernel_rfl
theorem fnParts_named : Tryz.pinned.checked.prog.funcNamed Rows.fnPartsRow.func = some 4 := by kernel_rfl
theorem fnParts_wf : Rows.fnPartsRow.wfByText (OpenSpec.ofChange Rows.fnPartsSpec) = true := by kernel_rfl
theorem fnParts_stands : ([22].all fun u => !Tryz.prog.wantsStandIn u) = true := by kernel_rfl
end Go.Proofs.YtliecnadoklgoaaGreatDoor
