/- The closed facts of the row of FnExactLuxenburgerBase. Conditions: none. -/
import Derived.Test.YthdeaenleimbeaaDoorRows
import Derived.JoinedOf
import Derived.KernelRfl
namespace Go.Proofs.YthdeaenleimbeaaDoor
theorem fnExactLuxenburgerBase_facts : joinedFacts Tryd.pinned.checked.prog 9 Tryd.f9 Rows.fnExactLuxenburgerBaseSpec Rows.fnExactLuxenburgerBaseRow = true := by kernel_rfl
end Go.Proofs.YthdeaenleimbeaaDoor
