/- The closed facts of the row of FnExactGreedyFactors. Conditions: none. -/
import Derived.Test.YthdeaenleimbeaaDoorRows
import Derived.JoinedOf
import Derived.KernelRfl
namespace Go.Proofs.YthdeaenleimbeaaDoor
theorem fnExactGreedyFactors_facts : joinedFacts Tryd.pinned.checked.prog 14 Tryd.f14 Rows.fnExactGreedyFactorsSpec Rows.fnExactGreedyFactorsRow = true := by kernel_rfl
end Go.Proofs.YthdeaenleimbeaaDoor
