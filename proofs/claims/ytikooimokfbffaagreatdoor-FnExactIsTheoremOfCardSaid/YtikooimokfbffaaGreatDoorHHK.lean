import Derived.Test.YtikooimokfbffaaGreatDoorHOR
import Derived.Test.YtikooimokfbffaaGreatDoorHOM
import Derived.Test.YtikooimokfbffaaGreatDoorHOP
import Derived.Deep.RegionHeld3
import Derived.Test.YtikooimokfbffaaGreatDoorHPG
import Derived.Test.YtikooimokfbffaaGreatDoorHPD
import Derived.Test.YtikooimokfbffaaGreatDoorHQ3
import Derived.Test.YtikooimokfbffaaGreatDoorHOZ
import Derived.Test.YtikooimokfbffaaGreatDoorHHS
import Derived.Test.YtikooimokfbffaaGreatDoorHW4
/- Whether a logic is below another one in the table: both sides. -/
namespace Go.Proofs.YtikooimokfbffaaGreatDoor
open Go.RowKit
end Go.Proofs.YtikooimokfbffaaGreatDoor
namespace Go.Proofs.YtikooimokfbffaaGreatDoor
open Go.RowKit
structure PB (w W : World) (r : Nat) : Prop where
 kp : Keeps w W
 c0 : W.cell? ⟨r, 0, none⟩ = some (.int .i64 0)
 c1 : W.cell? ⟨r, 1, none⟩ = some (.slice none 0 0)
 f0 : W.frozen? ⟨r, 0, none⟩ = false
 f1 : W.frozen? ⟨r, 1, none⟩ = false
theorem PB.keeps {w W W' : World} {r : Nat} (h : PB w W r) (k : Keeps W W') : PB w W' r :=
 ⟨h.kp.trans k, k.cell h.c0, k.cell h.c1, by rw [k.both.2 r 0 (World.block_lt_of_cell? _ _ h.c0)]; exact h.f0, by rw [k.both.2 r 1 (World.block_lt_of_cell? _ _ h.c1)]; exact h.f1⟩
theorem PB.made (w : World) : PB w (w.alloc (.cells #[.int .i64 0, .slice none 0 0] 34)) w.heap.size := ⟨(Keeps.refl w).alloc _, by simp, by simp, by simp, by simp⟩
theorem PB.fill {w W : World} {r : Nat} (h : PB w W r) (hr : w.heap.size ≤ r) (a b : Value) :
  ((W.setCell ⟨r, 0, none⟩ a).setCell ⟨r, 1, none⟩ b).cell? ⟨r, 0, none⟩ = some a ∧ ((W.setCell ⟨r, 0, none⟩ a).setCell ⟨r, 1, none⟩ b).cell? ⟨r, 1, none⟩ = some b ∧ Keeps w ((W.setCell ⟨r, 0, none⟩ a).setCell ⟨r, 1, none⟩ b) ∧
   Touch W ((W.setCell ⟨r, 0, none⟩ a).setCell ⟨r, 1, none⟩ b) (fun k => k = r) := by
 have t1 : Touch W (W.setCell ⟨r, 0, none⟩ a) (fun k => k = r) := (Touch.grown (grown_set r 0 a)).mono (fun k e => by simpa using e)
 have t2 : Touch (W.setCell ⟨r, 0, none⟩ a) ((W.setCell ⟨r, 0, none⟩ a).setCell ⟨r, 1, none⟩ b) (fun k => k = r) := (Touch.grown (grown_set r 1 b)).mono (fun k e => by simpa using e)
 have c0 := h.c0
 have c1 := h.c1
 have a1 := World.cell?_setCell_same _ _ a c0
 have b1 : (W.setCell ⟨r, 0, none⟩ a).cell? ⟨r, 1, none⟩ = some (.slice none 0 0) := (World.cell?_setCell_other (w := W) (a := ⟨r, 0, none⟩) (b := ⟨r, 1, none⟩) (v := a) (by simp)).trans c1
 exact ⟨(World.cell?_setCell_other (w := W.setCell ⟨r, 0, none⟩ a) (a := ⟨r, 1, none⟩) (b := ⟨r, 0, none⟩) (v := b) (by simp)).trans a1, World.cell?_setCell_same _ _ b b1, (h.kp.setCell hr _).setCell (by simpa using hr) _, t1.trans t2⟩
end Go.Proofs.YtikooimokfbffaaGreatDoor
