/- The closed facts of the row of FnExactFrequentIntents. Conditions: none. -/
import Derived.Test.YthdeaenleimbeaaDoorRows
import Derived.JoinedOf
import Derived.KernelRfl
namespace Go.Proofs.YthdeaenleimbeaaDoor
theorem fnExactFrequentIntents_facts : joinedFacts Tryd.pinned.checked.prog 7 Tryd.f7 Rows.fnExactFrequentIntentsSpec Rows.fnExactFrequentIntentsRow = true := by kernel_rfl
end Go.Proofs.YthdeaenleimbeaaDoor
