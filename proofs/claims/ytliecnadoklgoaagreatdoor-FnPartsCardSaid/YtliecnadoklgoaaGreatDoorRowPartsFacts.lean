/- The closed facts of the row of FnParts. Conditions: none. -/
import Derived.Test.YtliecnadoklgoaaGreatDoorRows
import Derived.JoinedOf
import Derived.KernelRfl
namespace Go.Proofs.YtliecnadoklgoaaGreatDoor
theorem fnParts_facts : joinedFacts Tryz.pinned.checked.prog 4 Tryz.f4 Rows.fnPartsSpec Rows.fnPartsRow = true := by kernel_rfl
end Go.Proofs.YtliecnadoklgoaaGreatDoor
