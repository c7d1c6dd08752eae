import Derived.Test.YtkkcfifnkcnceaaGreatHQ1
import Derived.Laws.Bits64
import Derived.Test.YtkkcfifnkcnceaaGreatHMY
import Derived.Test.YtkkcfifnkcnceaaGreatHW5
import Derived.Deep.RegionHeld3
/- What types see, program side. -/
namespace Go.Proofs.YtkkcfifnkcnceaaGreat
open Go.RowKit
def lgS : Nat → ByteArray
 | 0 => ⟨#[75]⟩
 | 1 => ⟨#[68]⟩
 | 2 => ⟨#[84]⟩
 | 3 => ⟨#[75, 52]⟩
 | 4 => ⟨#[83, 52]⟩
 | 5 => ⟨#[71, 76]⟩
 | 6 => ⟨#[83, 53]⟩
 | _ => ⟨#[75, 66]⟩
theorem box1 (w : World) (a : Value) (ty : TypeId) : (w.alloc (.cells #[a] ty)).cell? ⟨w.heap.size, 0, none⟩ = some a := by simp
set_option maxHeartbeats 1000000 in
theorem isReflexive_any (L : Nat) (hL : L < 8) (w : World) : Calls Tryz.prog 116 #[.string (lgS L)] w fun e w' => e = .returned (.bool (decide (L = 2 ∨ L = 4 ∨ L = 6))) ∧ w = w' := by
 have h8 : L = 0 ∨ L = 1 ∨ L = 2 ∨ L = 3 ∨ L = 4 ∨ L = 5 ∨ L = 6 ∨ L = 7 := by omega
 clear hL
 rcases h8 with rfl | rfl | rfl | rfl | rfl | rfl | rfl | rfl
 all_goals
  simp only [lgS]
  go_enter Tryz.func116, Tryz.ntmps116
  go_wp2
  go_ret
  exact ⟨ret_bool (by decide), rfl⟩
end Go.Proofs.YtkkcfifnkcnceaaGreat
namespace Go.Proofs.YtkkcfifnkcnceaaGreat
open Go.RowKit
end Go.Proofs.YtkkcfifnkcnceaaGreat
namespace Go.Proofs.YtkkcfifnkcnceaaGreat
open Go.RowKit
end Go.Proofs.YtkkcfifnkcnceaaGreat
namespace Go.Proofs.YtkkcfifnkcnceaaGreat
open Go.RowKit
end Go.Proofs.YtkkcfifnkcnceaaGreat
namespace Go.Proofs.YtkkcfifnkcnceaaGreat
open Go.RowKit
end Go.Proofs.YtkkcfifnkcnceaaGreat
