import Derived.Test.YtikooimokfbffaaGreatDoorHPC
import Derived.Test.YtikooimokfbffaaGreatDoorHPG
import Derived.Test.YtikooimokfbffaaGreatDoorHBase
import Derived.Deep.AppendLies
import Derived.Test.YtikooimokfbffaaGreatDoorHQ3
import Derived.Test.YtikooimokfbffaaGreatDoorHPD
import Derived.Test.YtikooimokfbffaaGreatDoorHQA
/- Plain mathematics: the least forms of posets with up to four elements, made in two ways (printed by mkpk.py). -/
namespace Go.Proofs.YtikooimokfbffaaGreatDoor
end Go.Proofs.YtikooimokfbffaaGreatDoor
namespace Go.Proofs.YtikooimokfbffaaGreatDoor
end Go.Proofs.YtikooimokfbffaaGreatDoor
namespace Go.Proofs.YtikooimokfbffaaGreatDoor
open Go.RowKit
theorem type_ne {w : World} {B B' : Nat} {T1 T2 : TypeId} {s s' n m : Nat} {v u : Value} {xs ys : List Value} (h1 : w.ownsRow B T1 s v n xs) (h2 : w.ownsRow B' T2 s' u m ys) (hne : T1 ≠ T2) {k : Nat} (hv : v.ownBlock = some k) : u.ownBlock ≠ some k := by
 intro hu
 rcases h1.2 with ⟨rfl, _⟩ | ⟨g, cap, cur, rfl, _, hg, _⟩
 ·simp [Value.ownBlock] at hv
 rcases h2.2 with ⟨rfl, _⟩ | ⟨g', cap', cur', rfl, _, hg', _⟩
 ·simp [Value.ownBlock] at hu
 simp [Value.ownBlock] at hv hu
 subst hv; subst hu
 rw [hg] at hg'
 injection hg' with e
 injection e with _ e2 _
 exact hne e2
theorem At.lit1 (w : World) (u : Value) (E : TypeId) : At (w.alloc (.cells #[u] E)) (some ⟨w.heap.size, 0, none⟩) [u] := by
 intro j hj
 simp at hj
 subst hj
 exact ⟨_, _, rfl, by simp⟩
end Go.Proofs.YtikooimokfbffaaGreatDoor
namespace Go.Proofs.YtikooimokfbffaaGreatDoor
open Go.RowKit
end Go.Proofs.YtikooimokfbffaaGreatDoor
namespace Go.Proofs.YtikooimokfbffaaGreatDoor
open Go.RowKit
end Go.Proofs.YtikooimokfbffaaGreatDoor
