/- The closed facts of the row of FnExactIsComplemented. Conditions: none. -/
import Derived.Test.YthdeaenleimbeaaDoorRows
import Derived.JoinedOf
import Derived.KernelRfl
namespace Go.Proofs.YthdeaenleimbeaaDoor
theorem fnExactIsComplemented_facts : joinedFacts Tryd.pinned.checked.prog 12 Tryd.f12 Rows.fnExactIsComplementedSpec Rows.fnExactIsComplementedRow = true := by kernel_rfl
end Go.Proofs.YthdeaenleimbeaaDoor
