/- The closed facts of the row of FnSupport. Conditions: none. -/
import Derived.Test.YtkkkgaapkibhkaaGreatDoorRows
import Derived.JoinedOf
import Derived.KernelRfl
namespace Go.Proofs.YtkkkgaapkibhkaaGreatDoor
theorem fnSupport_facts : joinedFacts Tryz.pinned.checked.prog 8 Tryz.f8 Rows.fnSupportSpec Rows.fnSupportRow = true := by kernel_rfl
end Go.Proofs.YtkkkgaapkibhkaaGreatDoor
