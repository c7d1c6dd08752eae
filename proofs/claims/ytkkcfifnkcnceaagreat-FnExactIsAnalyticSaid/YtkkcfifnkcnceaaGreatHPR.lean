import Derived.Test.YtkkcfifnkcnceaaGreatHMY
import Derived.Test.YtkkcfifnkcnceaaGreatHRP
import Derived.Test.YtkkcfifnkcnceaaGreatHMV
import Derived.Test.YtkkcfifnkcnceaaGreatHNH
import Derived.Test.YtkkcfifnkcnceaaGreatHBase
import Derived.Deep.RegionHeld3
/- ElementaryParts: both sides. -/
namespace Go.Proofs.YtkkcfifnkcnceaaGreat
open Go.RowKit
end Go.Proofs.YtkkcfifnkcnceaaGreat
namespace Go.Proofs.YtkkcfifnkcnceaaGreat
open Go.RowKit
noncomputable def lgN (s : ByteArray) : Nat := @dite _ (isLg s = true) (Classical.propDecidable _) (fun h => Classical.choose (isLg_of h)) (fun _ => 0)
theorem lgN_spec {s : ByteArray} (h : isLg s = true) : lgN s < 8 ∧ s = lgS (lgN s) := by
 unfold lgN
 rw [dif_pos h]
 exact Classical.choose_spec (isLg_of h)
end Go.Proofs.YtkkcfifnkcnceaaGreat
namespace Go.Proofs.YtkkcfifnkcnceaaGreat
open Go.RowKit
end Go.Proofs.YtkkcfifnkcnceaaGreat
