/- The closed facts of the row of FnExactStrongRules. Conditions: none. -/
import Derived.Test.YthdeaenleimbeaaDoorRows
import Derived.JoinedOf
import Derived.KernelRfl
namespace Go.Proofs.YthdeaenleimbeaaDoor
theorem fnExactStrongRules_facts : joinedFacts Tryd.pinned.checked.prog 8 Tryd.f8 Rows.fnExactStrongRulesSpec Rows.fnExactStrongRulesRow = true := by kernel_rfl
end Go.Proofs.YthdeaenleimbeaaDoor
