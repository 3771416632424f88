/- The closed facts of the card of FnSums. Conditions: none. -/
import Derived.Test.YtliecnadoklgoaaDoorCards
import Derived.SevenTiedAt
import Derived.KernelRfl
namespace Go.Proofs.YtliecnadoklgoaaDoor
theorem fnSums_goes : false = Rows.fnSumsRow.goesBy Tryd.pinned.checked.prog := by kernel_rfl
theorem fnSums_looks : false = Tryd.pinned.checked.prog.looks [] := by kernel_rfl
theorem fnSums_main : Tryd.pinned.checked.prog.mainIs = some (true, "ea533ed01057048f07c600b9883e37a7a008363ca5c89e41e289e9d69f79ad2c".toList) := by kernel_rfl
theorem fnSums_named : Tryd.pinned.checked.prog.funcNamed Rows.fnSumsRow.func = some 3 := by kernel_rfl
theorem fnSums_wf : Rows.fnSumsRow.wfByText (OpenSpec.ofChange Rows.fnSumsSpec) = true := by kernel_rfl
theorem fnSums_stands : ([22].all fun u => !Tryd.prog.wantsStandIn u) = true := by kernel_rfl
end Go.Proofs.YtliecnadoklgoaaDoor
