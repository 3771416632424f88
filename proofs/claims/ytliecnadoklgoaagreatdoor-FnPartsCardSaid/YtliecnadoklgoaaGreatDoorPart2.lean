/- Partial contexts: the program's answers, and the laws. Conditions: none. -/
import Derived.Test.YtliecnadoklgoaaGreatDoorBaseA
namespace Go.Proofs.YtliecnadoklgoaaGreatDoor
open Ev
set_option linter.unusedVariables false
set_option linter.unusedSimpArgs false
set_option maxHeartbeats 4000000

end Go.Proofs.YtliecnadoklgoaaGreatDoor
