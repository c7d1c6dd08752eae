import Derived.Test.YtikooimokfbffaaGreatDoorHL5
import Derived.Test.YtikooimokfbffaaGreatDoorHV9
import Derived.Test.YtikooimokfbffaaGreatDoorHM3
import Derived.Deep.RegionHeld3
import Derived.Test.YtikooimokfbffaaGreatDoorHPD
import Derived.Test.YtikooimokfbffaaGreatDoorHPG
import Derived.Test.YtikooimokfbffaaGreatDoorHOG
/- Walks: marks put into owned node lists, lists of lists, and rules, while other memory may have been written. -/
namespace Go.Proofs.YtikooimokfbffaaGreatDoor
open Go.RowKit
end Go.Proofs.YtikooimokfbffaaGreatDoor
namespace Go.Proofs.YtikooimokfbffaaGreatDoor
open Go.RowKit
theorem OwnN.shape0 {w : World} {B : Nat} {v : Value} {a : List Nd} (h : OwnN w B v a) : ∃ p n c, v = .slice p n c := by obtain ⟨p, c, e, _⟩ := At.of_own h; exact ⟨p, _, c, e⟩
end Go.Proofs.YtikooimokfbffaaGreatDoor
namespace Go.Proofs.YtikooimokfbffaaGreatDoor
open Go.RowKit
end Go.Proofs.YtikooimokfbffaaGreatDoor
namespace Go.Proofs.YtikooimokfbffaaGreatDoor
open Go.RowKit
end Go.Proofs.YtikooimokfbffaaGreatDoor
