/- The closed facts of the row of FnExactMeetIrreducibles. Conditions: none. -/
import Derived.Test.YthdeaenleimbeaaDoorRows
import Derived.JoinedOf
import Derived.KernelRfl
namespace Go.Proofs.YthdeaenleimbeaaDoor
theorem fnExactMeetIrreducibles_facts : joinedFacts Tryd.pinned.checked.prog 5 Tryd.f5 Rows.fnExactMeetIrreduciblesSpec Rows.fnExactMeetIrreduciblesRow = true := by kernel_rfl
end Go.Proofs.YthdeaenleimbeaaDoor
