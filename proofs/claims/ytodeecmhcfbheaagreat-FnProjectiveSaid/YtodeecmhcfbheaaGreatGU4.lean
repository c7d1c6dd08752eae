/- The reference's search as a whole, and the two statements that ask it once. -/
import Derived.Test.YtodeecmhcfbheaaGreatGUA
import Derived.Test.YtodeecmhcfbheaaGreatGUI
import Derived.Test.YtodeecmhcfbheaaGreatGUO
import Derived.Test.YtodeecmhcfbheaaGreatGUL
import Derived.Test.YtodeecmhcfbheaaGreatGW2
namespace Go.Proofs.YtodeecmhcfbheaaGreat
open Go.RowKit
theorem search_step (n : Nat) (hn : n ≤ 1000000000) (ih : Srch n) : Srch (n + 1) := by
  intro G c hw hG hc v u w hv hu
  by_cases h12 : c ∈ G ∨ Fm.fls ∈ G
  · exact search_quick G c h12 v u w hv hu
  have h1 : ¬ c ∈ G := fun h => h12 (.inl h)
  have h2 : ¬ Fm.fls ∈ G := fun h => h12 (.inr h)
  by_cases hs : AllStk G
  · obtain ⟨d, hd⟩ : ∃ d, d = c := ⟨c, rfl⟩
    cases d with
    | and x y => exact search_and n hn ih G c hw hG hc h1 h2 hs x y hd v u w hv hu
    | imp x y => exact search_imp n hn ih G c hw hG hc h1 h2 hs x y hd v u w hv hu
    | or x y => exact search_or n hn ih G c hw hG hc h1 h2 hs x y hd v u w hv hu
    | var i => exact search_leaf n hn ih G c hw hG hc h1 h2 hs (.inl ⟨i, hd.symm, by rw [hd]; exact h1⟩) (by rintro ⟨x, y, h⟩; rw [← hd] at h; cases h) 0 (by rw [← hd]; rfl) rfl rfl rfl v u w hv hu
    | fls => exact search_leaf n hn ih G c hw hG hc h1 h2 hs (.inr (.inl hd.symm)) (by rintro ⟨x, y, h⟩; rw [← hd] at h; cases h) 1 (by rw [← hd]; rfl) rfl rfl rfl v u w hv hu
    | box x => subst hd; cases hc
    | dia x => subst hd; cases hc
  · exact search_loose n hn ih G c hw hG hc h1 h2 hs v u w hv hu
theorem srch_all : ∀ n, n ≤ 1000000001 → Srch n
  | 0, _ => fun G c h => by have := wt_ge c; omega
  | n + 1, h => search_step n (by omega) (srch_all n (by omega))
theorem l23Search_any (G : List Fm) (c : Fm) (hw : wts G + wt c ≤ 1000000000) (hG : ∀ a ∈ G, a.plain = true) (hc : c.plain = true) (v u : Value) (w : World) (hv : FsL w v G) (hu : Nds w u c.enc) :
    Calls Tryz.prog 174 #[v, u] w fun e w' => e = .returned (.bool (sqB G c)) ∧ Keeps w w' :=
  srch_all _ (by omega) G c hw hG hc v u w hv hu
theorem FsL.nilN {w : World} {N : Nat} (h : N = w.heap.size) : FsL (w.alloc (.cells #[] 24)) (.slice (some ⟨N, 0, none⟩) 0 0) [] := by
  subst h
  exact NdsL.lit (w := w) [] [] rfl (by simp) (by intro i hi; simp at hi)
theorem Nds.lenIs {w : World} {p : Option Addr} {n cap : Nat} {a : List Nd} (h : Nds w (.slice p n cap) a) : n = a.length := by
  obtain ⟨_, _, e, _⟩ := h
  cases e
  rfl
/-- what the search of a small sequent answers -/
noncomputable def smallB (n : Nat) (G : List Fm) (c : Fm) : Bool := if 20 < n then false else sqB G c
def smallE (n : Nat) : Int := if 20 < n then 3 else 0
theorem not_plain {t : Fm} (h : t.plain = true) : t.not.plain = true := by simp [Fm.not, Fm.plain, h]
theorem pow_small {n : Nat} (h : n ≤ 29) : 2 ^ n ≤ 1000000000 := Nat.le_trans (Nat.pow_le_pow_right (by omega) h) (by decide)
theorem not_len (t : Fm) : t.not.enc.length = t.enc.length + 2 := by simp [Fm.not, Fm.enc]
end Go.Proofs.YtodeecmhcfbheaaGreat
