/- The closed facts of the row of FnExplored. Conditions: none. -/
import Derived.Test.YtlglhokpaplifaaGreatDoorRows
import Derived.JoinedOf
import Derived.KernelRfl
namespace Go.Proofs.YtlglhokpaplifaaGreatDoor
theorem fnExplored_facts : joinedFacts Tryz.pinned.checked.prog 3 Tryz.f3 Rows.fnExploredSpec Rows.fnExploredRow = true := by kernel_rfl
end Go.Proofs.YtlglhokpaplifaaGreatDoor
