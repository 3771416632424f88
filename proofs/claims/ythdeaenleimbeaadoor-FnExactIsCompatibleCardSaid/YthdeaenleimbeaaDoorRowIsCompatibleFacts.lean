/- The closed facts of the row of FnExactIsCompatible. Conditions: none. -/
import Derived.Test.YthdeaenleimbeaaDoorRows
import Derived.JoinedOf
import Derived.KernelRfl
namespace Go.Proofs.YthdeaenleimbeaaDoor
theorem fnExactIsCompatible_facts : joinedFacts Tryd.pinned.checked.prog 10 Tryd.f10 Rows.fnExactIsCompatibleSpec Rows.fnExactIsCompatibleRow = true := by kernel_rfl
end Go.Proofs.YthdeaenleimbeaaDoor
