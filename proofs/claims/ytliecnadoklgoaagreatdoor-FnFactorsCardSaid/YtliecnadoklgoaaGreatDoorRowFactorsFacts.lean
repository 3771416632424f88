/- The closed facts of the row of FnFactors. Conditions: none. -/
import Derived.Test.YtliecnadoklgoaaGreatDoorRows
import Derived.JoinedOf
import Derived.KernelRfl
namespace Go.Proofs.YtliecnadoklgoaaGreatDoor
theorem fnFactors_facts : joinedFacts Tryz.pinned.checked.prog 7 Tryz.f7 Rows.fnFactorsSpec Rows.fnFactorsRow = true := by kernel_rfl
end Go.Proofs.YtliecnadoklgoaaGreatDoor
