/- The closed facts of the row of FnExactComplementsOf. Conditions: none. -/
import Derived.Test.YthdeaenleimbeaaDoorRows
import Derived.JoinedOf
import Derived.KernelRfl
namespace Go.Proofs.YthdeaenleimbeaaDoor
theorem fnExactComplementsOf_facts : joinedFacts Tryd.pinned.checked.prog 3 Tryd.f3 Rows.fnExactComplementsOfSpec Rows.fnExactComplementsOfRow = true := by kernel_rfl
end Go.Proofs.YthdeaenleimbeaaDoor
