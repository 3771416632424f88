/- The closed facts of the row of FnExactIsDistributive. Conditions: none. -/
import Derived.Test.YtkkkgaapkibhkaaDoorRows
import Derived.JoinedOf
import Derived.KernelRfl
namespace Go.Proofs.YtkkkgaapkibhkaaDoor
theorem fnExactIsDistributive_facts : joinedFacts Tryd.pinned.checked.prog 3 Tryd.f3 Rows.fnExactIsDistributiveSpec Rows.fnExactIsDistributiveRow = true := by kernel_rfl
end Go.Proofs.YtkkkgaapkibhkaaDoor
