/- The reference's search as a whole, and the two statements that ask it once. -/
import Derived.Test.YtajjlnonmaghlaaGreatGUA
import Derived.Test.YtajjlnonmaghlaaGreatGUI
import Derived.Test.YtajjlnonmaghlaaGreatGUO
import Derived.Test.YtajjlnonmaghlaaGreatGUL
import Derived.Test.YtajjlnonmaghlaaGreatGW2
namespace Go.Proofs.YtajjlnonmaghlaaGreat
open Go.RowKit
theorem search_step (n : Nat) (hn : n ≤ 1000000000) (ih : Srch n) : Srch (n + 1) := by
  intro G c hw hG hc v u w hv hu
  by_cases h12 : c ∈ G ∨ Fm.fls ∈ G
  · exact search_quick G c h12 v u w hv hu
  have h1 : ¬ c ∈ G := fun h => h12 (.inl h)
  have h2 : ¬ Fm.fls ∈ G := fun h => h12 (.inr h)
  by_cases hs : AllStk G
  · obtain ⟨d, hd⟩ : ∃ d, d = c := ⟨c, rfl⟩
    cases d with
    | and x y => exact search_and n hn ih G c hw hG hc h1 h2 hs x y hd v u w hv hu
    | imp x y => exact search_imp n hn ih G c hw hG hc h1 h2 hs x y hd v u w hv hu
    | or x y => exact search_or n hn ih G c hw hG hc h1 h2 hs x y hd v u w hv hu
    | var i => exact search_leaf n hn ih G c hw hG hc h1 h2 hs (.inl ⟨i, hd.symm, by rw [hd]; exact h1⟩) (by rintro ⟨x, y, h⟩; rw [← hd] at h; cases h) 0 (by rw [← hd]; rfl) rfl rfl rfl v u w hv hu
    | fls => exact search_leaf n hn ih G c hw hG hc h1 h2 hs (.inr (.inl hd.symm)) (by rintro ⟨x, y, h⟩; rw [← hd] at h; cases h) 1 (by rw [← hd]; rfl) rfl rfl rfl v u w hv hu
    | box x => subst hd; cases hc
    | dia x => subst hd; cases hc
  · exact search_loose n hn ih G c hw hG hc h1 h2 hs v u w hv hu
theorem srch_all : ∀ n, n ≤ 1000000001 → Srch n
  | 0, _ => fun G c h => by have := wt_ge c; omega
  | n + 1, h => search_step n (by omega) (srch_all n (by omega))
theorem l23Search_any (G : List Fm) (c : Fm) (hw : wts G + wt c ≤ 1000000000) (hG : ∀ a ∈ G, a.plain = true) (hc : c.plain = true) (v u : Value) (w : World) (hv : FsL w v G) (hu : Nds w u c.enc) :
    Calls Tryz.prog 31 #[v, u] w fun e w' => e = .returned (.bool (sqB G c)) ∧ Keeps w w' :=
  srch_all _ (by omega) G c hw hG hc v u w hv hu
theorem FsL.nilN {w : World} {N : Nat} (h : N = w.heap.size) : FsL (w.alloc (.cells #[] 26)) (.slice (some ⟨N, 0, none⟩) 0 0) [] := by
  subst h
  exact NdsL.lit (w := w) [] [] rfl (by simp) (by intro i hi; simp at hi)
theorem Nds.lenIs {w : World} {p : Option Addr} {n cap : Nat} {a : List Nd} (h : Nds w (.slice p n cap) a) : n = a.length := by
  obtain ⟨_, _, e, _⟩ := h
  cases e
  rfl
/-- what the search of a small sequent answers -/
noncomputable def smallB (n : Nat) (G : List Fm) (c : Fm) : Bool := if 20 < n then false else sqB G c
def smallE (n : Nat) : Int := if 20 < n then 3 else 0
theorem not_plain {t : Fm} (h : t.plain = true) : t.not.plain = true := by simp [Fm.not, Fm.plain, h]
theorem pow_small {n : Nat} (h : n ≤ 29) : 2 ^ n ≤ 1000000000 := Nat.le_trans (Nat.pow_le_pow_right (by omega) h) (by decide)
theorem not_len (t : Fm) : t.not.enc.length = t.enc.length + 2 := by simp [Fm.not, Fm.enc]
--
theorem specGlivenko_ok (t : Fm) (hp : t.plain = true) (h : plainErr t.enc = 0) (hl : t.enc.length ≤ 1048576) (v : Value) (w : World) (hv : Nds w v t.enc) :
    Calls Tryz.prog 10 #[v] w fun e w' => e = .returned (.tuple #[.bool (smallB (t.enc.length + 4) [] t.not.not), .int .i64 (smallE (t.enc.length + 4))]) ∧ Keeps w w' := by
  have H := hid h; clear h
  have hv0 := hv
  obtain ⟨p, n, cap, rfl⟩ := hv.shape
  have hn : n = t.enc.length := hv.lenIs
  have hnl : n ≤ 1048576 := by omega
  by_cases hs : 20 < n + 4
  · rw [show smallB (t.enc.length + 4) [] t.not.not = false from by simp [smallB]; omega, show smallE (t.enc.length + 4) = 3 from by simp [smallE]; omega]
    clear hn
    go_enter Tryz.func10, Tryz.ntmps10
    go_wp2_with (go_at_call 30; refine (l29Code_any _ _ _ hv).mono ?_; rintro e w' ⟨rfl, rfl⟩; rw [H.out])
    go_ret2
    exact ⟨rfl, Keeps.refl _⟩
  · rw [show smallB (t.enc.length + 4) [] t.not.not = sqB [] t.not.not from by simp [smallB]; omega, show smallE (t.enc.length + 4) = 0 from by simp [smallE]; omega]
    have hw : wts [] + wt t.not.not ≤ 1000000000 := by
      have h1 := wt_le_pow t.not.not
      have h2 : t.not.not.enc.length ≤ 29 := by rw [not_len, not_len]; omega
      have h3 := Nat.le_trans h1 (pow_small (n := t.not.not.enc.length) h2)
      simpa [wts] using h3
    have HN := hid hn; clear hn
    have HW := hid hw; clear hw
    go_enter Tryz.func10, Tryz.ntmps10
    go_wp2_with fail
    refine (l29Code_any _ _ _ hv).mono ?_; rintro e w' ⟨rfl, rfl⟩; rw [H.out]
    have kl := (Keeps.refl w).alloc (.cells #[] 26)
    have hlit : FsL (w.alloc (.cells #[] 26)) (.slice (some ⟨w.heap.size, 0, none⟩) 0 0) [] := FsL.nilN rfl
    go_wp2_with fail
    refine (l02Not_any t _ _ (hv.keeps kl) (by omega)).mono ?_; rintro e w1 ⟨v1, rfl, hv1, k1⟩
    go_wp2_with fail
    refine (l02Not_any t.not _ _ (hv1.nds (by rw [not_len]; omega)) (by rw [not_len]; omega)).mono ?_; rintro e w2 ⟨v2, rfl, hv2, k2⟩
    go_wp2_with fail
    refine (l23Search_any [] t.not.not HW.out (by simp) (not_plain (not_plain hp)) _ _ w2 ((hlit.keeps k1).keeps k2) (hv2.nds (by rw [not_len, not_len]; omega))).mono ?_; rintro e w3 ⟨rfl, k3⟩
    go_wp2_with fail
    go_ret2
    exact ⟨rfl, ((kl.trans k1).trans k2).trans k3⟩
--
theorem specClassicalKind_ok (t : Fm) (hp : t.plain = true) (h : plainErr t.enc = 0) (hl : t.enc.length ≤ 1048576) (v : Value) (w : World) (hv : Nds w v t.enc) :
    Calls Tryz.prog 14 #[v] w fun e w' => e = .returned (.tuple #[.bool (smallB (2 * t.enc.length + 4) [t.not.not] t), .int .i64 (smallE (2 * t.enc.length + 4))]) ∧ Keeps w w' := by
  have H := hid h; clear h
  have hv0 := hv
  obtain ⟨p, n, cap, rfl⟩ := hv.shape
  have hn : n = t.enc.length := hv.lenIs
  have hnl : n ≤ 1048576 := by omega
  by_cases hs : 20 < 2 * n + 4
  · rw [show smallB (2 * t.enc.length + 4) [t.not.not] t = false from by simp [smallB]; omega, show smallE (2 * t.enc.length + 4) = 3 from by simp [smallE]; omega]
    clear hn
    go_enter Tryz.func14, Tryz.ntmps14
    go_wp2_with (go_at_call 30; refine (l29Code_any _ _ _ hv).mono ?_; rintro e w' ⟨rfl, rfl⟩; rw [H.out])
    go_ret2
    exact ⟨rfl, Keeps.refl _⟩
  · rw [show smallB (2 * t.enc.length + 4) [t.not.not] t = sqB [t.not.not] t from by simp [smallB]; omega, show smallE (2 * t.enc.length + 4) = 0 from by simp [smallE]; omega]
    have hw : wts [t.not.not] + wt t ≤ 1000000000 := by
      have h1 := wt_le_pow t.not.not
      have h2 := wt_le_pow t
      have h3 := pow_small (n := t.not.not.enc.length + t.enc.length) (by rw [not_len, not_len]; omega)
      rw [Nat.pow_add] at h3
      have h4 := mul2 (a := 2 ^ t.not.not.enc.length) (b := 2 ^ t.enc.length) (by have := wt_ge t.not.not; omega) (by have := wt_ge t; omega)
      simp only [wts]
      omega
    have HN := hid hn; clear hn
    have HW := hid hw; clear hw
    go_enter Tryz.func14, Tryz.ntmps14
    go_wp2_with fail
    refine (l29Code_any _ _ _ hv).mono ?_; rintro e w' ⟨rfl, rfl⟩; rw [H.out]
    go_wp2_with fail
    refine (l02Not_any t _ _ hv (by omega)).mono ?_; rintro e w1 ⟨v1, rfl, hv1, k1⟩
    go_wp2_with fail
    refine (l02Not_any t.not _ _ (hv1.nds (by rw [not_len]; omega)) (by rw [not_len]; omega)).mono ?_; rintro e w2 ⟨v2, rfl, hv2, k2⟩
    have h2 := hv2.nds (by rw [not_len, not_len]; omega)
    obtain ⟨p2, n2, c2, rfl⟩ := h2.shape
    have kl := (k1.trans k2).alloc (.cells #[.slice p2 n2 c2] 26)
    have hlit : FsL (w2.alloc (.cells #[.slice p2 n2 c2] 26)) (.slice (some ⟨w2.heap.size, 0, none⟩) 1 1) [t.not.not] := NdsL.lit1 h2
    go_wp2_with fail
    refine (l23Search_any [t.not.not] t HW.out (by simpa using not_plain (not_plain hp)) hp _ _ _ hlit (hv.keeps kl)).mono ?_; rintro e w3 ⟨rfl, k3⟩
    go_wp2_with fail
    go_ret2
    exact ⟨rfl, kl.trans k3⟩
end Go.Proofs.YtajjlnonmaghlaaGreat
