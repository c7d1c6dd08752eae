import Derived.Test.YtfmmajgkjkmghaaGreatEPD
import Derived.Test.YtfmmajgkjkmghaaGreatEPC
import Derived.Test.YtfmmajgkjkmghaaGreatETU
import Derived.Deep.CutBlock
import Derived.Deep.DeepCutAuto
import Derived.Deep.RegionWith
import Derived.Deep.RegionHeld3
import Derived.Laws.CopyOwn
import Derived.Deep.RegionLaw
/- The quotient of a preorder: both sides. -/
namespace Go.Proofs.YtfmmajgkjkmghaaGreat
open Go.RowKit
end Go.Proofs.YtfmmajgkjkmghaaGreat
namespace Go.Proofs.YtfmmajgkjkmghaaGreat
open Go.RowKit
def Pos (b : List Nat) : Prop := b.length ≤ 8 ∧ Bnd b.length b ∧ reflB b = true ∧ transB b = true ∧ antiB b = true
theorem Pos.of {b : List Nat} (h8 : b.length ≤ 8) (hb : Bnd b.length b) (h : posB b = true) : Pos b := by
 unfold posB at h
 rw [Bool.and_eq_true, Bool.and_eq_true] at h
 exact ⟨h8, hb, h.1.1, h.1.2, h.2⟩
end Go.Proofs.YtfmmajgkjkmghaaGreat
namespace Go.Proofs.YtfmmajgkjkmghaaGreat
open Go.RowKit
end Go.Proofs.YtfmmajgkjkmghaaGreat
