import Derived.Test.YtikooimokfbffaaGreatDoorHUA
import Derived.Test.YtikooimokfbffaaGreatDoorHUI
import Derived.Test.YtikooimokfbffaaGreatDoorHUO
import Derived.Test.YtikooimokfbffaaGreatDoorHUL
import Derived.Test.YtikooimokfbffaaGreatDoorHOI
import Derived.Test.YtikooimokfbffaaGreatDoorHPD
import Derived.Test.YtikooimokfbffaaGreatDoorHHE
/- The reference's search as a whole, and the two statements that ask it once. -/
namespace Go.Proofs.YtikooimokfbffaaGreatDoor
open Go.RowKit
theorem search_step (n : Nat) (hn : n ≤ 1000000000) (ih : Srch n) : Srch (n + 1) := by
 intro G c hw hG hc v u w hv hu
 by_cases h12 : c ∈ G ∨ Fm.fls ∈ G
 ·exact search_quick G c h12 v u w hv hu
 have h1 : ¬ c ∈ G := fun h => h12 (.inl h)
 have h2 : ¬ Fm.fls ∈ G := fun h => h12 (.inr h)
 by_cases hs : AllStk G
 ·obtain ⟨d, hd⟩ : ∃ d, d = c := ⟨c, rfl⟩
  cases d with
  | and x y => exact search_and n hn ih G c hw hG hc h1 h2 hs x y hd v u w hv hu
  | imp x y => exact search_imp n hn ih G c hw hG hc h1 h2 hs x y hd v u w hv hu
  | or x y => exact search_or n hn ih G c hw hG hc h1 h2 hs x y hd v u w hv hu
  | var i => exact search_leaf n hn ih G c hw hG hc h1 h2 hs (.inl ⟨i, hd.symm, by rw [hd]; exact h1⟩) (by rintro ⟨x, y, h⟩; rw [← hd] at h; cases h) 0 (by rw [← hd]; rfl) rfl rfl rfl v u w hv hu
  | fls => exact search_leaf n hn ih G c hw hG hc h1 h2 hs (.inr (.inl hd.symm)) (by rintro ⟨x, y, h⟩; rw [← hd] at h; cases h) 1 (by rw [← hd]; rfl) rfl rfl rfl v u w hv hu
  | box x => subst hd; cases hc
  | dia x => subst hd; cases hc
 ·exact search_loose n hn ih G c hw hG hc h1 h2 hs v u w hv hu
theorem srch_all : ∀ n, n ≤ 1000000001 → Srch n
 | 0, _ => fun G c h => by have := wt_ge c; omega
 | n + 1, h => search_step n (by omega) (srch_all n (by omega))
theorem l23Search_any (G : List Fm) (c : Fm) (hw : wts G + wt c ≤ 1000000000) (hG : ∀ a ∈ G, a.plain = true) (hc : c.plain = true) (v u : Value) (w : World) (hv : FsL w v G) (hu : Nds w u c.enc) :
  Calls Tryz.prog 27 #[v, u] w fun e w' => e = .returned (.bool (sqB G c)) ∧ Keeps w w' :=
 srch_all _ (by omega) G c hw hG hc v u w hv hu
end Go.Proofs.YtikooimokfbffaaGreatDoor
namespace Go.Proofs.YtikooimokfbffaaGreatDoor
open Go.RowKit
end Go.Proofs.YtikooimokfbffaaGreatDoor
namespace Go.Proofs.YtikooimokfbffaaGreatDoor
open Go.RowKit
end Go.Proofs.YtikooimokfbffaaGreatDoor
namespace Go.Proofs.YtikooimokfbffaaGreatDoor
open Go.RowKit
end Go.Proofs.YtikooimokfbffaaGreatDoor
namespace Go.Proofs.YtikooimokfbffaaGreatDoor
open Go.RowKit
end Go.Proofs.YtikooimokfbffaaGreatDoor
