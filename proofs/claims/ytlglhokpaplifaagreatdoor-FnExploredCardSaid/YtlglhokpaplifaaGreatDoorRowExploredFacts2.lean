/- The closed facts of the card of FnExplored. Conditions: none. -/
import Derived.Test.YtlglhokpaplifaaGreatDoorCards
import Derived.SevenTiedAt
import Derived.KernelRfl
namespace Go.Proofs.YtlglhokpaplifaaGreatDoor
theorem fnExplored_goes : false = Rows.fnExploredRow.goesBy Tryz.pinned.checked.prog := by kernel_rfl
theorem fnExplored_looks : false = Tryz.pinned.checked.prog.looks [] := by kernel_rfl
theorem fnExplored_main : Tryz.pinned.checked.prog.mainIs = some (true, "81867e72222372e31986b3410531dd0815f5d680f55f3a6782ecedbc917a93ed".toList) := by kernel_rfl
theorem fnExplored_named : Tryz.pinned.checked.prog.funcNamed Rows.fnExploredRow.func = some 3 := by kernel_rfl
theorem fnExplored_wf : Rows.fnExploredRow.wfByText (OpenSpec.ofChange Rows.fnExploredSpec) = true := by kernel_rfl
theorem fnExplored_stands : ([22].all fun u => !Tryz.prog.wantsStandIn u) = true := by kernel_rfl
end Go.Proofs.YtlglhokpaplifaaGreatDoor
