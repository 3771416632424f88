/- slices.Clone at nothing of both kinds, beside the program's sort. Conditions: none. -/
import Derived.Test.YtkkkgaapkibhkaaGreatDoorSortE
import Derived.Test.YtkkkgaapkibhkaaGreatDoorCloneC
