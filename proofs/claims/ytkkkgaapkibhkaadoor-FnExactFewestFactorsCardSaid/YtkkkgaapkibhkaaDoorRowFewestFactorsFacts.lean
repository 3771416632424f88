/- The closed facts of the row of FnExactFewestFactors. Conditions: none. -/
import Derived.Test.YtkkkgaapkibhkaaDoorRows
import Derived.JoinedOf
import Derived.KernelRfl
namespace Go.Proofs.YtkkkgaapkibhkaaDoor
theorem fnExactFewestFactors_facts : joinedFacts Tryd.pinned.checked.prog 6 Tryd.f6 Rows.fnExactFewestFactorsSpec Rows.fnExactFewestFactorsRow = true := by kernel_rfl
end Go.Proofs.YtkkkgaapkibhkaaDoor
