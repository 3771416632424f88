/- The closed facts of the row of FnExactIsModular. Conditions: none. -/
import Derived.Test.YtkkkgaapkibhkaaDoorRows
import Derived.JoinedOf
import Derived.KernelRfl
namespace Go.Proofs.YtkkkgaapkibhkaaDoor
theorem fnExactIsModular_facts : joinedFacts Tryd.pinned.checked.prog 4 Tryd.f4 Rows.fnExactIsModularSpec Rows.fnExactIsModularRow = true := by kernel_rfl
end Go.Proofs.YtkkkgaapkibhkaaDoor
