/- The closed facts of the row of FnExactJoinIrreducibles. Conditions: none. -/
import Derived.Test.YthdeaenleimbeaaDoorRows
import Derived.JoinedOf
import Derived.KernelRfl
namespace Go.Proofs.YthdeaenleimbeaaDoor
theorem fnExactJoinIrreducibles_facts : joinedFacts Tryd.pinned.checked.prog 4 Tryd.f4 Rows.fnExactJoinIrreduciblesSpec Rows.fnExactJoinIrreduciblesRow = true := by kernel_rfl
end Go.Proofs.YthdeaenleimbeaaDoor
