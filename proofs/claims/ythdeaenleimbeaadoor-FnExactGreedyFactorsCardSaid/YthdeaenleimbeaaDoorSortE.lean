/- slices.Clone at nothing, beside the program's sort. Conditions: none. -/
import Derived.Test.YthdeaenleimbeaaDoorSortD
import Derived.Test.YthdeaenleimbeaaDoorClone
namespace Go.Proofs.YthdeaenleimbeaaDoor
theorem cloneI_okI : ExtOkI laidT Tryd.prog 104 Ev.cloneF := ⟨cloneI_ok.1, fun args res hr w B M rargs _ hv => cloneI_ok.2 args res hr w B M rargs trivial hv⟩
end Go.Proofs.YthdeaenleimbeaaDoor
