/- The closed facts of the row of FnExactPathConfidence. Conditions: none. -/
import Derived.Test.YthdeaenleimbeaaDoorRows
import Derived.JoinedOf
import Derived.KernelRfl
namespace Go.Proofs.YthdeaenleimbeaaDoor
theorem fnExactPathConfidence_facts : joinedFacts Tryd.pinned.checked.prog 6 Tryd.f6 Rows.fnExactPathConfidenceSpec Rows.fnExactPathConfidenceRow = true := by kernel_rfl
end Go.Proofs.YthdeaenleimbeaaDoor
