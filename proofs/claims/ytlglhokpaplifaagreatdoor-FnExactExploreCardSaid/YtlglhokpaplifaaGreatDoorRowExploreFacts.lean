/- The closed facts of the row of FnExactExplore. Conditions: none. -/
import Derived.Test.YtlglhokpaplifaaGreatDoorRows
import Derived.JoinedOf
import Derived.KernelRfl
namespace Go.Proofs.YtlglhokpaplifaaGreatDoor
theorem fnExactExplore_facts : joinedFacts Tryz.pinned.checked.prog 4 Tryz.f4 Rows.fnExactExploreSpec Rows.fnExactExploreRow = true := by kernel_rfl
end Go.Proofs.YtlglhokpaplifaaGreatDoor
