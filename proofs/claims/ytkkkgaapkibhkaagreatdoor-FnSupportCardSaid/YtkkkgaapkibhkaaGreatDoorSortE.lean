/- slices.Clone at nothing, beside the program's sort. Conditions: none. -/
import Derived.Test.YtkkkgaapkibhkaaGreatDoorSortD
import Derived.Test.YtkkkgaapkibhkaaGreatDoorClone
namespace Go.Proofs.YtkkkgaapkibhkaaGreatDoor
theorem cloneI_okI : ExtOkI laidT Tryz.prog 187 Ev.cloneF := ⟨cloneI_ok.1, fun args res hr w B M rargs _ hv => cloneI_ok.2 args res hr w B M rargs trivial hv⟩
end Go.Proofs.YtkkkgaapkibhkaaGreatDoor
