/- The closed facts of the row of FnExactCountCompatible. Conditions: none. -/
import Derived.Test.YthdeaenleimbeaaDoorRows
import Derived.JoinedOf
import Derived.KernelRfl
namespace Go.Proofs.YthdeaenleimbeaaDoor
theorem fnExactCountCompatible_facts : joinedFacts Tryd.pinned.checked.prog 11 Tryd.f11 Rows.fnExactCountCompatibleSpec Rows.fnExactCountCompatibleRow = true := by kernel_rfl
end Go.Proofs.YthdeaenleimbeaaDoor
