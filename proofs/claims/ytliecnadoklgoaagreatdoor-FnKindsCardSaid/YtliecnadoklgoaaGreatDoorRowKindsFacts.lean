/- The closed facts of the row of FnKinds. Conditions: none. -/
import Derived.Test.YtliecnadoklgoaaGreatDoorRows
import Derived.JoinedOf
import Derived.KernelRfl
namespace Go.Proofs.YtliecnadoklgoaaGreatDoor
theorem fnKinds_facts : joinedFacts Tryz.pinned.checked.prog 3 Tryz.f3 Rows.fnKindsSpec Rows.fnKindsRow = true := by kernel_rfl
end Go.Proofs.YtliecnadoklgoaaGreatDoor
