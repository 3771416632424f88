/- What slices.Clone does at an empty slice, in this seat's program. Conditions: none. -/
import Derived.Test.YtppfgokonlloaaaProg
import Derived.Test.YtppfgokonlloaaaEvClone
import Derived.WalkKit
import Derived.WalkSpells
import Derived.WalkLawsBesides
import Derived.KernelRfl
import Derived.Lib.LazyBuf
namespace Go.Proofs.Ytppfgokonlloaaa
open Go.RowKit
end Go.Proofs.Ytppfgokonlloaaa
