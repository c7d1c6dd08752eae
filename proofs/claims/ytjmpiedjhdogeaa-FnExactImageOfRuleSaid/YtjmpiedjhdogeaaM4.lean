/- Walks: lifted substitutions on both sides. -/
import Derived.Test.YtjmpiedjhdogeaaM3
import Derived.StillTailTactics
import Derived.Deep.RegionHeld3
namespace Go.Proofs.Ytjmpiedjhdogeaa
open Go.RowKit
/-- the image of a variable of a formula under its lifted substitution -/
def liftI (a : List Nd) (mask : Nat) (v : Int) : List Nd := ⟨if mask.testBit v.toNat then 4 else 2, 0⟩ :: (a ++ [⟨0, v⟩])
def liftF (a : List Nd) (mask : Nat) (ms : List Int) : List (List Nd) := ms.foldl (fun l v => l.set v.toNat (liftI a mask v)) (idL 6)
def liftL (a : List Nd) (mask : Nat) : List (List Nd) := liftF a mask (mem (vm a))
theorem liftF_snoc (a : List Nd) (mask : Nat) (ms : List Int) (v : Int) : liftF a mask (ms ++ [v]) = (liftF a mask ms).set v.toNat (liftI a mask v) := by simp [liftF, List.foldl_append]
theorem liftF_len (a : List Nd) (mask : Nat) (ms : List Int) : (liftF a mask ms).length = 6 := by
  unfold liftF
  have : ∀ (l : List (List Nd)), (ms.foldl (fun l v => l.set v.toNat (liftI a mask v)) l).length = l.length := by
    induction ms with
    | nil => intro l; rfl
    | cons x ms ih => intro l; rw [List.foldl_cons, ih]; simp
  rw [this, idL_len]
theorem liftI_len (a : List Nd) (mask : Nat) (v : Int) : (liftI a mask v).length = a.length + 2 := by simp [liftI]
theorem OwnL.shape {w : World} {B : Nat} {v : Value} {xs : List (List Nd)} (h : OwnL w B v xs) (hp : 0 < xs.length) : ∃ g cap, v = .slice (some ⟨g, 0, none⟩) xs.length cap ∧ B ≤ g ∧ g < w.heap.size := by
  obtain ⟨vs, ho, _⟩ := h
  rcases ho.2 with ⟨_, h0⟩ | ⟨g, cap, cur, e, hb, hg, _⟩
  · omega
  · exact ⟨g, cap, e, hb, (Array.getElem?_eq_some_iff.1 hg).1⟩
theorem tyni : (25 : TypeId) ≠ 2 := by decide
theorem OwnL.typed {w : World} {B : Nat} {v : Value} {xs : List (List Nd)} (h : OwnL w B v xs) : ∃ vs, w.ownsRow B 25 1 v xs.length vs := by
  obtain ⟨vs, ho, _⟩ := h
  exact ⟨vs, ho⟩
/-- numbers stay where a header of lists is written -/
theorem OwnI.beside {w w' : World} {B B' : Nat} {v u : Value} {a : List Int} {xs : List (List Nd)} {g : Nat} (h : OwnI w B v a) (ho : OwnL w B' u xs) (hg : u.ownBlock = some g) (k : w.grownBy w' (some g)) : OwnI w' B v a := by
  obtain ⟨vs, hr⟩ := ho.typed
  exact own_touch h (Touch.grown k) (fun i hi e => by cases e; exact type_ne hr h tyni hg hi)
end Go.Proofs.Ytjmpiedjhdogeaa
