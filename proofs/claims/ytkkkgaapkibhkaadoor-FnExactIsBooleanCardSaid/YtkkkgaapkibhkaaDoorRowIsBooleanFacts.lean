/- The closed facts of the row of FnExactIsBoolean. Conditions: none. -/
import Derived.Test.YtkkkgaapkibhkaaDoorRows
import Derived.JoinedOf
import Derived.KernelRfl
namespace Go.Proofs.YtkkkgaapkibhkaaDoor
theorem fnExactIsBoolean_facts : joinedFacts Tryd.pinned.checked.prog 5 Tryd.f5 Rows.fnExactIsBooleanSpec Rows.fnExactIsBooleanRow = true := by kernel_rfl
end Go.Proofs.YtkkkgaapkibhkaaDoor
