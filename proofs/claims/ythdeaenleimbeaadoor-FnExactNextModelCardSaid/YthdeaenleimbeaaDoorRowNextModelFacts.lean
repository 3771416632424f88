/- The closed facts of the row of FnExactNextModel. Conditions: none. -/
import Derived.Test.YthdeaenleimbeaaDoorRows
import Derived.JoinedOf
import Derived.KernelRfl
namespace Go.Proofs.YthdeaenleimbeaaDoor
theorem fnExactNextModel_facts : joinedFacts Tryd.pinned.checked.prog 13 Tryd.f13 Rows.fnExactNextModelSpec Rows.fnExactNextModelRow = true := by kernel_rfl
end Go.Proofs.YthdeaenleimbeaaDoor
