/- The program's text of a formula. -/
import Derived.Test.YtodeecmhcfbheaaGreatGW4
import Derived.Test.YtodeecmhcfbheaaGreatGP3
import Derived.BigQuiet
import Derived.Test.YtodeecmhcfbheaaGreatGP7
namespace Go.Proofs.YtodeecmhcfbheaaGreat
open Go.RowKit
theorem bts_append (s t : ByteArray) : bts (s ++ t) = bts s ++ bts t := by simp [bts]
theorem isNeg_imp (a b : Fm) : (Fm.imp a b).isNeg = b.isFls := by cases b <;> rfl
theorem lev_imp (a b : Fm) : (Fm.imp a b).lev = if b.isFls then 3 else 0 := rfl
theorem levelOf_any (t : Fm) (v : Value) (w : World) (hv : Nds w v t.enc) :
    Calls Tryz.prog 208 #[v] w fun e w' => e = .returned (.int .i64 t.lev) ∧ w = w' := by
  have hv0 := hv
  obtain ⟨b, off, n, cap, rfl, h0, h1, h2, h3, hc, _⟩ := hv.root
  cases t with
  | imp x y =>
    replace hc : w.cell? ⟨b, off, none⟩ = some (.int .i64 4) := hc
    have hn := isNegation_any (.imp x y) _ _ hv0
    rw [isNeg_imp] at hn
    rw [lev_imp]
    cases hf : y.isFls
    · rw [hf] at hn
      have HN := hid hn; clear hn
      go_enter Tryz.func208, Tryz.ntmps208
      go_wp2_with (go_at_call 209; refine HN.out.mono ?_; rintro e w' ⟨rfl, rfl⟩)
      go_ret
      exact ⟨rfl, rfl⟩
    · rw [hf] at hn
      have HN := hid hn; clear hn
      go_enter Tryz.func208, Tryz.ntmps208
      go_wp2_with (go_at_call 209; refine HN.out.mono ?_; rintro e w' ⟨rfl, rfl⟩)
      go_ret
      exact ⟨rfl, rfl⟩
  | var _ => 
    replace hc : w.cell? ⟨b, off, none⟩ = some (.int .i64 0) := hc
    go_enter Tryz.func208, Tryz.ntmps208
    go_wp2
    go_ret
    exact ⟨rfl, rfl⟩
  | fls =>
    replace hc : w.cell? ⟨b, off, none⟩ = some (.int .i64 1) := hc
    go_enter Tryz.func208, Tryz.ntmps208
    go_wp2
    go_ret
    exact ⟨rfl, rfl⟩
  | and _ _ =>
    replace hc : w.cell? ⟨b, off, none⟩ = some (.int .i64 2) := hc
    go_enter Tryz.func208, Tryz.ntmps208
    go_wp2
    go_ret
    exact ⟨rfl, rfl⟩
  | or _ _ =>
    replace hc : w.cell? ⟨b, off, none⟩ = some (.int .i64 3) := hc
    go_enter Tryz.func208, Tryz.ntmps208
    go_wp2
    go_ret
    exact ⟨rfl, rfl⟩
  | box _ =>
    replace hc : w.cell? ⟨b, off, none⟩ = some (.int .i64 5) := hc
    go_enter Tryz.func208, Tryz.ntmps208
    go_wp2
    go_ret
    exact ⟨rfl, rfl⟩
  | dia _ =>
    replace hc : w.cell? ⟨b, off, none⟩ = some (.int .i64 6) := hc
    go_enter Tryz.func208, Tryz.ntmps208
    go_wp2
    go_ret
    exact ⟨rfl, rfl⟩
end Go.Proofs.YtodeecmhcfbheaaGreat
/- The program's text of a formula at a level. -/
namespace Go.Proofs.YtodeecmhcfbheaaGreat
open Go.RowKit
theorem bts_len (s : ByteArray) : (bts s).length = s.size := rfl
theorem txt_size {t : Fm} {l : Nat} {s : ByteArray} (h : bts s = t.txt l) (hl : t.enc.length ≤ 100000000) : s.size ≤ 600000000 := by
  have h1 := par_len (decide (t.lev < l)) t.body
  have h2 := body_len t
  rw [← bts_len, h]
  unfold Fm.txt
  omega
def TxtOk (t : Fm) : Prop := t.enc.length ≤ 100000000 → ∀ (l : Nat) (k : Int), k = (l : Int) → ∀ (v : Value) (w : World), Nds w v t.enc →
  Calls Tryz.prog 154 #[v, .int .i64 k] w fun e w' => ∃ s, e = .returned (.string s) ∧ bts s = t.txt l ∧ Keeps w w'
def BodyOk (t : Fm) : Prop := t.enc.length ≤ 100000000 → ∀ (k : Int), ¬ ((t.lev : Int) < k) → ∀ (v : Value) (w : World), Nds w v t.enc →
  Calls Tryz.prog 154 #[v, .int .i64 k] w fun e w' => ∃ s, e = .returned (.string s) ∧ bts s = t.body ∧ Keeps w w'
theorem TxtOk.of {t : Fm} (h : BodyOk t) : TxtOk t := by
  intro hL l k hk v w hv
  by_cases hl : (t.lev : Int) < k
  · have hb := hid (h hL 0 (by omega) v w hv)
    have hr : t.txt l = 40 :: (t.body ++ [41]) := by simp only [Fm.txt, Fm.par]; rw [decide_eq_true (by omega)]; rfl
    rw [hr]
    clear hr hk
    go_enter Tryz.func154, Tryz.ntmps154
    go_wp2_with fail
    refine (levelOf_any t _ _ hv).mono ?_; rintro e w' ⟨rfl, rfl⟩
    go_wp2_with fail
    refine hb.out.mono ?_; rintro e w1 ⟨s, rfl, hs, k1⟩
    have z1 := txt_size (l := 0) (by rw [Fm.txt0]; exact hs) hL
    go_wp2_with fail
    go_ret
    exact ⟨_, rfl, by simp only [bts_append, hs]; rfl, k1⟩
  · have hr : t.txt l = t.body := by simp only [Fm.txt, Fm.par]; rw [decide_eq_false (by omega)]; rfl
    rw [hr]
    exact h hL k hl v w hv
theorem bodyAnd (x y : Fm) (hx : TxtOk x) (hy : TxtOk y) : BodyOk (.and x y) := by
  intro hL k hk v w hv
  simp only [Fm.enc, List.length_cons, List.length_append] at hL
  have hv0 := hv
  obtain ⟨b, off, n, cap, rfl, h0, h1, h2, h3, hc, _⟩ := hv.root
  replace hc : w.cell? ⟨b, off, none⟩ = some (.int .i64 2) := hc
  have HX := hid (hx (by omega)); clear hx
  have HY := hid (hy (by omega)); clear hy
  go_enter Tryz.func154, Tryz.ntmps154
  go_wp2_with fail
  refine (levelOf_any _ _ _ hv).mono ?_; rintro e w' ⟨rfl, rfl⟩
  go_wp2_with fail
  refine (first_any _ _ x y.enc _ _ hv0 rfl).mono ?_; rintro e w' ⟨v1, rfl, hv1, rfl⟩
  go_wp2_with fail
  refine (HX.out 2 _ rfl _ _ hv1).mono ?_; rintro e w1 ⟨s1, rfl, hs1, k1⟩
  have z1 := txt_size hs1 (by omega)
  go_wp2_with fail
  refine (second_any _ _ x y _ _ (hv0.keeps k1) rfl).mono ?_; rintro e w' ⟨v2, rfl, hv2, rfl⟩
  go_wp2_with fail
  refine (HY.out 3 _ rfl _ _ hv2).mono ?_; rintro e w2 ⟨s2, rfl, hs2, k2⟩
  have z2 := txt_size hs2 (by omega)
  go_wp2_with fail
  go_ret
  exact ⟨_, rfl, by simp only [bts_append, hs1, hs2, Fm.body, Fm.txt, List.append_assoc]; rfl, k1.trans k2⟩
theorem bodyOr (x y : Fm) (hx : TxtOk x) (hy : TxtOk y) : BodyOk (.or x y) := by
  intro hL k hk v w hv
  simp only [Fm.enc, List.length_cons, List.length_append] at hL
  have hv0 := hv
  obtain ⟨b, off, n, cap, rfl, h0, h1, h2, h3, hc, _⟩ := hv.root
  replace hc : w.cell? ⟨b, off, none⟩ = some (.int .i64 3) := hc
  have HX := hid (hx (by omega)); clear hx
  have HY := hid (hy (by omega)); clear hy
  go_enter Tryz.func154, Tryz.ntmps154
  go_wp2_with fail
  refine (levelOf_any _ _ _ hv).mono ?_; rintro e w' ⟨rfl, rfl⟩
  go_wp2_with fail
  refine (first_any _ _ x y.enc _ _ hv0 rfl).mono ?_; rintro e w' ⟨v1, rfl, hv1, rfl⟩
  go_wp2_with fail
  refine (HX.out 1 _ rfl _ _ hv1).mono ?_; rintro e w1 ⟨s1, rfl, hs1, k1⟩
  have z1 := txt_size hs1 (by omega)
  go_wp2_with fail
  refine (second_any _ _ x y _ _ (hv0.keeps k1) rfl).mono ?_; rintro e w' ⟨v2, rfl, hv2, rfl⟩
  go_wp2_with fail
  refine (HY.out 2 _ rfl _ _ hv2).mono ?_; rintro e w2 ⟨s2, rfl, hs2, k2⟩
  have z2 := txt_size hs2 (by omega)
  go_wp2_with fail
  go_ret
  exact ⟨_, rfl, by simp only [bts_append, hs1, hs2, Fm.body, Fm.txt, List.append_assoc]; rfl, k1.trans k2⟩
theorem bodyBox (x : Fm) (hx : TxtOk x) : BodyOk (.box x) := by
  intro hL k hk v w hv
  simp only [Fm.enc, List.length_cons] at hL
  have hv0 := hv
  obtain ⟨b, off, n, cap, rfl, h0, h1, h2, h3, hc, hsy⟩ := hv.root
  replace hc : w.cell? ⟨b, off, none⟩ = some (.int .i64 5) := hc
  have HX := hid (hx (by omega)); clear hx
  go_enter Tryz.func154, Tryz.ntmps154
  go_wp2_with fail
  refine (levelOf_any _ _ _ hv).mono ?_; rintro e w' ⟨rfl, rfl⟩
  go_wp2_with fail
  refine (first_any _ ⟨5, 0⟩ x [] _ _ hv0 (by simp [Fm.enc])).mono ?_; rintro e w' ⟨v1, rfl, hv1, rfl⟩
  go_wp2_with fail
  refine (HX.out 3 _ rfl _ _ hv1).mono ?_; rintro e w1 ⟨s1, rfl, hs1, k1⟩
  have z1 := txt_size hs1 (by omega)
  go_wp2_with fail
  go_ret
  exact ⟨_, rfl, by simp only [bts_append, hs1, Fm.body, Fm.txt]; rfl, k1⟩
theorem bodyDia (x : Fm) (hx : TxtOk x) : BodyOk (.dia x) := by
  intro hL k hk v w hv
  simp only [Fm.enc, List.length_cons] at hL
  have hv0 := hv
  obtain ⟨b, off, n, cap, rfl, h0, h1, h2, h3, hc, hsy⟩ := hv.root
  replace hc : w.cell? ⟨b, off, none⟩ = some (.int .i64 6) := hc
  have HX := hid (hx (by omega)); clear hx
  go_enter Tryz.func154, Tryz.ntmps154
  go_wp2_with fail
  refine (levelOf_any _ _ _ hv).mono ?_; rintro e w' ⟨rfl, rfl⟩
  go_wp2_with fail
  refine (first_any _ ⟨6, 0⟩ x [] _ _ hv0 (by simp [Fm.enc])).mono ?_; rintro e w' ⟨v1, rfl, hv1, rfl⟩
  go_wp2_with fail
  refine (HX.out 3 _ rfl _ _ hv1).mono ?_; rintro e w1 ⟨s1, rfl, hs1, k1⟩
  have z1 := txt_size hs1 (by omega)
  go_wp2_with fail
  go_ret
  exact ⟨_, rfl, by simp only [bts_append, hs1, Fm.body, Fm.txt]; rfl, k1⟩
theorem bodyFls : BodyOk .fls := by
  intro hL k hk v w hv
  simp only [Fm.enc, List.length_cons] at hL
  have hv0 := hv
  obtain ⟨b, off, n, cap, rfl, h0, h1, h2, h3, hc, hsy⟩ := hv.root
  replace hc : w.cell? ⟨b, off, none⟩ = some (.int .i64 1) := hc
  go_enter Tryz.func154, Tryz.ntmps154
  go_wp2_with fail
  refine (levelOf_any _ _ _ hv).mono ?_; rintro e w' ⟨rfl, rfl⟩
  go_wp2_with fail
  go_ret
  exact ⟨_, rfl, rfl, Keeps.refl _⟩
theorem bodyImp (x y : Fm) (hf : y.isFls = false) (hx : TxtOk x) (hy : TxtOk y) : BodyOk (.imp x y) := by
  intro hL k hk v w hv
  simp only [Fm.enc, List.length_cons, List.length_append] at hL
  have hv0 := hv
  obtain ⟨b, off, n, cap, rfl, h0, h1, h2, h3, hc, hsy⟩ := hv.root
  replace hc : w.cell? ⟨b, off, none⟩ = some (.int .i64 4) := hc
  have HX := hid (hx (by omega)); clear hx
  have HY := hid (hy (by omega)); clear hy
  have hB : (Fm.imp x y).body = x.txt 1 ++ 62 :: y.body := by simp [Fm.body, Fm.txt, hf]
  have hn := isNegation_any (.imp x y) _ _ hv0
  rw [isNeg_imp, hf] at hn
  have HN := hid hn; clear hn
  have HB := hid hB; clear hB hf
  go_enter Tryz.func154, Tryz.ntmps154
  go_wp2_with fail
  refine (levelOf_any _ _ _ hv).mono ?_; rintro e w' ⟨rfl, rfl⟩
  go_wp2_with fail
  refine HN.out.mono ?_; rintro e w' ⟨rfl, rfl⟩
  go_wp2_with fail
  refine (first_any _ _ x y.enc _ _ hv0 rfl).mono ?_; rintro e w' ⟨v1, rfl, hv1, rfl⟩
  go_wp2_with fail
  refine (HX.out 1 _ rfl _ _ hv1).mono ?_; rintro e w1 ⟨s1, rfl, hs1, k1⟩
  have z1 := txt_size hs1 (by omega)
  go_wp2_with fail
  refine (second_any _ _ x y _ _ (hv0.keeps k1) rfl).mono ?_; rintro e w' ⟨v2, rfl, hv2, rfl⟩
  go_wp2_with fail
  refine (HY.out 0 _ rfl _ _ hv2).mono ?_; rintro e w2 ⟨s2, rfl, hs2, k2⟩
  have z2 := txt_size hs2 (by omega)
  go_wp2_with fail
  go_ret
  exact ⟨_, rfl, by rw [HB.out]; simp only [bts_append, hs1, hs2, Fm.txt0, List.append_assoc]; rfl, k1.trans k2⟩
theorem bodyTop (x y : Fm) (hf : y.isFls = true) (hx1 : x.isFls = true) : BodyOk (.imp x y) := by
  intro hL k hk v w hv
  simp only [Fm.enc, List.length_cons, List.length_append] at hL
  have hv0 := hv
  obtain ⟨b, off, n, cap, rfl, h0, h1, h2, h3, hc, hsy⟩ := hv.root
  replace hc : w.cell? ⟨b, off, none⟩ = some (.int .i64 4) := hc
  have hB : (Fm.imp x y).body = [84] := by simp [Fm.body, hf, hx1]
  have hn := isNegation_any (.imp x y) _ _ hv0
  rw [isNeg_imp, hf] at hn
  have HN := hid hn; clear hn
  have HB := hid hB; clear hB hf
  have HX1 := hid hx1; clear hx1
  go_enter Tryz.func154, Tryz.ntmps154
  go_wp2_with fail
  refine (levelOf_any _ _ _ hv).mono ?_; rintro e w' ⟨rfl, rfl⟩
  go_wp2_with fail
  refine HN.out.mono ?_; rintro e w' ⟨rfl, rfl⟩
  go_wp2_with fail
  refine (first_any _ _ x y.enc _ _ hv0 rfl).mono ?_; rintro e w' ⟨v1, rfl, hv1, rfl⟩
  go_wp2_with fail
  refine (isFalsum_any x _ _ hv1).mono ?_; rintro e w' ⟨rfl, rfl⟩; rw [HX1.out]
  go_wp2_with fail
  go_ret
  exact ⟨_, rfl, by rw [HB.out]; rfl, Keeps.refl _⟩
theorem bodyNeg (x y : Fm) (hf : y.isFls = true) (hx1 : x.isFls = false) (hx : TxtOk x) : BodyOk (.imp x y) := by
  intro hL k hk v w hv
  simp only [Fm.enc, List.length_cons, List.length_append] at hL
  have hv0 := hv
  obtain ⟨b, off, n, cap, rfl, h0, h1, h2, h3, hc, hsy⟩ := hv.root
  replace hc : w.cell? ⟨b, off, none⟩ = some (.int .i64 4) := hc
  have HX := hid (hx (by omega)); clear hx
  have hB : (Fm.imp x y).body = 126 :: x.txt 3 := by simp [Fm.body, Fm.txt, hf, hx1]
  have hn := isNegation_any (.imp x y) _ _ hv0
  rw [isNeg_imp, hf] at hn
  have HN := hid hn; clear hn
  have HB := hid hB; clear hB hf
  have HX1 := hid hx1; clear hx1
  go_enter Tryz.func154, Tryz.ntmps154
  go_wp2_with fail
  refine (levelOf_any _ _ _ hv).mono ?_; rintro e w' ⟨rfl, rfl⟩
  go_wp2_with fail
  refine HN.out.mono ?_; rintro e w' ⟨rfl, rfl⟩
  go_wp2_with fail
  refine (first_any _ _ x y.enc _ _ hv0 rfl).mono ?_; rintro e w' ⟨v1, rfl, hv1, rfl⟩
  go_wp2_with fail
  refine (isFalsum_any x _ _ hv1).mono ?_; rintro e w' ⟨rfl, rfl⟩; rw [HX1.out]
  go_wp2_with fail
  refine (first_any _ _ x y.enc _ _ hv0 rfl).mono ?_; rintro e w' ⟨v2, rfl, hv2, rfl⟩
  go_wp2_with fail
  refine (HX.out 3 _ rfl _ _ hv2).mono ?_; rintro e w1 ⟨s1, rfl, hs1, k1⟩
  have z1 := txt_size hs1 (by omega)
  go_wp2_with fail
  go_ret
  exact ⟨_, rfl, by rw [HB.out]; simp only [bts_append, hs1]; rfl, k1⟩
theorem bodyVar (i : Nat) (hi : i < 6) : BodyOk (.var i) := by
  intro hL k hk v w hv
  simp only [Fm.enc, List.length_cons] at hL
  have hv0 := hv
  obtain ⟨b, off, n, cap, rfl, h0, h1, h2, h3, hc, hsy⟩ := hv.root
  replace hc : w.cell? ⟨b, off, none⟩ = some (.int .i64 0) := hc
  replace hsy : w.cell? ⟨b, off + 1, none⟩ = some (.int .i64 (i : Int)) := hsy
  have hcase : i = 0 ∨ i = 1 ∨ i = 2 ∨ i = 3 ∨ i = 4 ∨ i = 5 := by omega
  rcases hcase with rfl | rfl | rfl | rfl | rfl | rfl
  · replace hsy : w.cell? ⟨b, off + 1, none⟩ = some (.int .i64 0) := hsy
    go_enter Tryz.func154, Tryz.ntmps154
    go_wp2_with fail
    refine (levelOf_any _ _ _ hv).mono ?_; rintro e w' ⟨rfl, rfl⟩
    go_wp2_with fail
    go_quiet (fail)
    go_wp2_with fail
    go_ret
    refine ⟨_, rfl, ?_, ?_⟩
    · decide
    · exact Keeps.drewN (Keeps.refl _) _
  · replace hsy : w.cell? ⟨b, off + 1, none⟩ = some (.int .i64 1) := hsy
    go_enter Tryz.func154, Tryz.ntmps154
    go_wp2_with fail
    refine (levelOf_any _ _ _ hv).mono ?_; rintro e w' ⟨rfl, rfl⟩
    go_wp2_with fail
    go_quiet (fail)
    go_wp2_with fail
    go_ret
    refine ⟨_, rfl, ?_, ?_⟩
    · decide
    · exact Keeps.drewN (Keeps.refl _) _
  · replace hsy : w.cell? ⟨b, off + 1, none⟩ = some (.int .i64 2) := hsy
    go_enter Tryz.func154, Tryz.ntmps154
    go_wp2_with fail
    refine (levelOf_any _ _ _ hv).mono ?_; rintro e w' ⟨rfl, rfl⟩
    go_wp2_with fail
    go_quiet (fail)
    go_wp2_with fail
    go_ret
    refine ⟨_, rfl, ?_, ?_⟩
    · decide
    · exact Keeps.drewN (Keeps.refl _) _
  · replace hsy : w.cell? ⟨b, off + 1, none⟩ = some (.int .i64 3) := hsy
    go_enter Tryz.func154, Tryz.ntmps154
    go_wp2_with fail
    refine (levelOf_any _ _ _ hv).mono ?_; rintro e w' ⟨rfl, rfl⟩
    go_wp2_with fail
    go_quiet (fail)
    go_wp2_with fail
    go_ret
    refine ⟨_, rfl, ?_, ?_⟩
    · decide
    · exact Keeps.drewN (Keeps.refl _) _
  · replace hsy : w.cell? ⟨b, off + 1, none⟩ = some (.int .i64 4) := hsy
    go_enter Tryz.func154, Tryz.ntmps154
    go_wp2_with fail
    refine (levelOf_any _ _ _ hv).mono ?_; rintro e w' ⟨rfl, rfl⟩
    go_wp2_with fail
    go_quiet (fail)
    go_wp2_with fail
    go_ret
    refine ⟨_, rfl, ?_, ?_⟩
    · decide
    · exact Keeps.drewN (Keeps.refl _) _
  · replace hsy : w.cell? ⟨b, off + 1, none⟩ = some (.int .i64 5) := hsy
    go_enter Tryz.func154, Tryz.ntmps154
    go_wp2_with fail
    refine (levelOf_any _ _ _ hv).mono ?_; rintro e w' ⟨rfl, rfl⟩
    go_wp2_with fail
    go_quiet (fail)
    go_wp2_with fail
    go_ret
    refine ⟨_, rfl, ?_, ?_⟩
    · decide
    · exact Keeps.drewN (Keeps.refl _) _
theorem txtOk_any (t : Fm) (hw : t.wf) : TxtOk t := by
  induction t with
  | var i => exact .of (bodyVar i hw)
  | fls => exact .of bodyFls
  | and x y hx hy => exact .of (bodyAnd x y (hx hw.1) (hy hw.2))
  | or x y hx hy => exact .of (bodyOr x y (hx hw.1) (hy hw.2))
  | box x hx => exact .of (bodyBox x (hx hw))
  | dia x hx => exact .of (bodyDia x (hx hw))
  | imp x y hx hy =>
    cases hf : y.isFls
    · exact .of (bodyImp x y hf (hx hw.1) (hy hw.2))
    · cases hx1 : x.isFls
      · exact .of (bodyNeg x y hf hx1 (hx hw.1))
      · exact .of (bodyTop x y hf hx1)
theorem text_any (t : Fm) (hw : t.wf) (hl : t.enc.length ≤ 100000000) (v : Value) (w : World) (hv : Nds w v t.enc) :
    Calls Tryz.prog 67 #[v] w fun e w' => ∃ s, e = .returned (.string s) ∧ bts s = t.body ∧ Keeps w w' := by
  have H := hid (txtOk_any t hw hl 0 0 rfl v w hv)
  go_enter Tryz.func67, Tryz.ntmps67
  go_wp2_with fail
  refine H.out.mono ?_; rintro e w' ⟨s, rfl, hs, k⟩
  go_wp2_with fail
  go_ret
  exact ⟨s, rfl, by rw [hs, Fm.txt0], k⟩
end Go.Proofs.YtodeecmhcfbheaaGreat
