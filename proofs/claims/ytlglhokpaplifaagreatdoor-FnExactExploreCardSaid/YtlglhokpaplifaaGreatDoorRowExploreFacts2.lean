/- The closed facts of the card of FnExactExplore. Conditions: none. -/
import Derived.Test.YtlglhokpaplifaaGreatDoorCards
import Derived.SevenTiedAt
import Derived.KernelRfl
namespace Go.Proofs.YtlglhokpaplifaaGreatDoor
theorem fnExactExplore_goes : false = Rows.fnExactExploreRow.goesBy Tryz.pinned.checked.prog := by kernel_rfl
theorem fnExactExplore_looks : false = Tryz.pinned.checked.prog.looks [] := by kernel_rfl
theorem fnExactExplore_main : Tryz.pinned.checked.prog.mainIs = some (true, "81867e72222372e31986b3410531dd0815f5d680f55f3a6782ecedbc917a93ed".toList) := by kernel_rfl
theorem fnExactExplore_named : Tryz.pinned.checked.prog.funcNamed Rows.fnExactExploreRow.func = some 4 := by kernel_rfl
theorem fnExactExplore_wf : Rows.fnExactExploreRow.wfByText (OpenSpec.ofChange Rows.fnExactExploreSpec) = true := by kernel_rfl
theorem fnExactExplore_stands : ([52, 24].all fun u => !Tryz.prog.wantsStandIn u) = true := by kernel_rfl
end Go.Proofs.YtlglhokpaplifaaGreatDoor
