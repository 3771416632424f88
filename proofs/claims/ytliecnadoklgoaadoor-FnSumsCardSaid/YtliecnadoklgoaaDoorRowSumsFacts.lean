/- The closed facts of the row of FnSums. Conditions: none. -/
import Derived.Test.YtliecnadoklgoaaDoorRows
import Derived.JoinedOf
import Derived.KernelRfl
namespace Go.Proofs.YtliecnadoklgoaaDoor
theorem fnSums_facts : joinedFacts Tryd.pinned.checked.prog 3 Tryd.f3 Rows.fnSumsSpec Rows.fnSumsRow = true := by kernel_rfl
end Go.Proofs.YtliecnadoklgoaaDoor
