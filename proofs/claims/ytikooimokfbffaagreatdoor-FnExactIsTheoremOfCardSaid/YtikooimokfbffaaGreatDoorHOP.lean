import Derived.Test.YtikooimokfbffaaGreatDoorHOI
import Derived.Test.YtikooimokfbffaaGreatDoorHOM
import Derived.Test.YtikooimokfbffaaGreatDoorHVS
import Derived.Lib.OwnBridge
import Derived.Sort.OwnSorted
import Derived.Lib.SliceRun
/- The library's SortFunc and CompactFunc at lists of numbers; the program's sorted lists. -/
namespace Go.Proofs.YtikooimokfbffaaGreatDoor
open Go.RowKit Go.Sort
structure RowV (w : World) (B : Nat) where
 v : Value
 l : List Nat
 ok : OwnI w B v (zs l)
 hl : l.length ≤ 100
instance (w : World) (B : Nat) : Inhabited (RowV w B) := ⟨⟨.slice none 0 0, [], OwnI.nil w B, by simp⟩⟩
end Go.Proofs.YtikooimokfbffaaGreatDoor
