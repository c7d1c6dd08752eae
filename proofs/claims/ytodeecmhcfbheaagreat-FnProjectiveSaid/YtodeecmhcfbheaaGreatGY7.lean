/- The reference's text of a plain formula at a level. (printed by mkwrite.py) -/
import Derived.Test.YtodeecmhcfbheaaGreatGV3
import Derived.Test.YtodeecmhcfbheaaGreatGU3
import Derived.Test.YtodeecmhcfbheaaGreatGP5
import Derived.Test.YtodeecmhcfbheaaGreatGP6
import Derived.Test.YtodeecmhcfbheaaGreatGM3
import Derived.Test.YtodeecmhcfbheaaGreatGU4
import Derived.Test.YtodeecmhcfbheaaGreatGVK
import Derived.Test.YtodeecmhcfbheaaGreatGVI
import Derived.Test.YtodeecmhcfbheaaGreatGT1
import Derived.Test.YtodeecmhcfbheaaGreatGVH
namespace Go.Proofs.YtodeecmhcfbheaaGreat
open Go.RowKit
/-- the reference writes a formula as Fm.txt says -/
def WrOk (t : Fm) : Prop := t.enc.length ≤ 100000000 → ∀ (l : Nat) (k : Int), k = (l : Int) → ∀ (v : Value) (w : World), Nds w v t.enc →
  Calls Tryz.prog 177 #[v, .int .i64 k] w fun e w' => ∃ s, e = .returned (.string s) ∧ bts s = t.txt l ∧ Keeps w w'
theorem txt_yes {t : Fm} {l : Nat} (h : t.lev < l) : t.txt l = 40 :: (t.body ++ [41]) := by simp only [Fm.txt, Fm.par]; rw [decide_eq_true h]; rfl
theorem txt_no {t : Fm} {l : Nat} (h : ¬ t.lev < l) : t.txt l = t.body := by simp only [Fm.txt, Fm.par]; rw [decide_eq_false h]; rfl
set_option maxRecDepth 20000 in
set_option maxHeartbeats 1000000 in
theorem wrAnd (x y : Fm) (hx : WrOk x) (hy : WrOk y) : WrOk (Fm.and x y) := by
  intro hL l k hk v w hv
  simp only [Fm.enc, List.length_cons, List.length_append] at hL
  have hv0 := hv
  obtain ⟨b, off, n, cap, rfl, h0, h1, h2, h3, hc, hsy⟩ := hv.root
  replace hc : w.cell? ⟨b, off, none⟩ = some (.int .i64 2) := hc
  have HX := hid (hx (by omega)); clear hx
  have HY := hid (hy (by omega)); clear hy
  by_cases hlv : (2 : Nat) < l
  · rw [txt_yes (t := Fm.and x y) (show (2) < l from hlv)]
    have hkl : ((2 : Int) < k) := by omega
    clear hlv hk
    go_enter Tryz.func177, Tryz.ntmps177
    go_wp2_with fail
    refine (l02Left_any _ _ x y.enc _ _ hv0 rfl).mono ?_; rintro e w' ⟨v1, rfl, hv1, rfl⟩
    go_wp2_with fail
    refine (HX.out 2 _ rfl _ _ hv1).mono ?_; rintro e w1 ⟨s1, rfl, hs1, k1⟩
    have z1 := txt_size hs1 (by omega)
    go_wp2_with fail
    refine (l02Right_any _ _ x y _ _ (hv0.keeps k1) rfl).mono ?_; rintro e w' ⟨v2, rfl, hv2, rfl⟩
    go_wp2_with fail
    refine (HY.out 3 _ rfl _ _ hv2).mono ?_; rintro e w2 ⟨s2, rfl, hs2, k2⟩
    have z2 := txt_size hs2 (by omega)
    go_wp2_with fail
    go_ret
    exact ⟨_, rfl, by simp only [bts_append, hs1, hs2, Fm.body, Fm.txt, List.append_assoc]; rfl, k1.trans k2⟩
  · rw [txt_no (t := Fm.and x y) (show ¬ (2) < l from hlv)]
    have hkl : ¬ ((2 : Int) < k) := by omega
    clear hlv hk
    go_enter Tryz.func177, Tryz.ntmps177
    go_wp2_with fail
    refine (l02Left_any _ _ x y.enc _ _ hv0 rfl).mono ?_; rintro e w' ⟨v1, rfl, hv1, rfl⟩
    go_wp2_with fail
    refine (HX.out 2 _ rfl _ _ hv1).mono ?_; rintro e w1 ⟨s1, rfl, hs1, k1⟩
    have z1 := txt_size hs1 (by omega)
    go_wp2_with fail
    refine (l02Right_any _ _ x y _ _ (hv0.keeps k1) rfl).mono ?_; rintro e w' ⟨v2, rfl, hv2, rfl⟩
    go_wp2_with fail
    refine (HY.out 3 _ rfl _ _ hv2).mono ?_; rintro e w2 ⟨s2, rfl, hs2, k2⟩
    have z2 := txt_size hs2 (by omega)
    go_wp2_with fail
    go_ret
    exact ⟨_, rfl, by simp only [bts_append, hs1, hs2, Fm.body, Fm.txt, List.append_assoc]; rfl, k1.trans k2⟩
set_option maxRecDepth 20000 in
set_option maxHeartbeats 1000000 in
theorem wrOr (x y : Fm) (hx : WrOk x) (hy : WrOk y) : WrOk (Fm.or x y) := by
  intro hL l k hk v w hv
  simp only [Fm.enc, List.length_cons, List.length_append] at hL
  have hv0 := hv
  obtain ⟨b, off, n, cap, rfl, h0, h1, h2, h3, hc, hsy⟩ := hv.root
  replace hc : w.cell? ⟨b, off, none⟩ = some (.int .i64 3) := hc
  have HX := hid (hx (by omega)); clear hx
  have HY := hid (hy (by omega)); clear hy
  by_cases hlv : (1 : Nat) < l
  · rw [txt_yes (t := Fm.or x y) (show (1) < l from hlv)]
    have hkl : ((1 : Int) < k) := by omega
    clear hlv hk
    go_enter Tryz.func177, Tryz.ntmps177
    go_wp2_with fail
    refine (l02Left_any _ _ x y.enc _ _ hv0 rfl).mono ?_; rintro e w' ⟨v1, rfl, hv1, rfl⟩
    go_wp2_with fail
    refine (HX.out 1 _ rfl _ _ hv1).mono ?_; rintro e w1 ⟨s1, rfl, hs1, k1⟩
    have z1 := txt_size hs1 (by omega)
    go_wp2_with fail
    refine (l02Right_any _ _ x y _ _ (hv0.keeps k1) rfl).mono ?_; rintro e w' ⟨v2, rfl, hv2, rfl⟩
    go_wp2_with fail
    refine (HY.out 2 _ rfl _ _ hv2).mono ?_; rintro e w2 ⟨s2, rfl, hs2, k2⟩
    have z2 := txt_size hs2 (by omega)
    go_wp2_with fail
    go_ret
    exact ⟨_, rfl, by simp only [bts_append, hs1, hs2, Fm.body, Fm.txt, List.append_assoc]; rfl, k1.trans k2⟩
  · rw [txt_no (t := Fm.or x y) (show ¬ (1) < l from hlv)]
    have hkl : ¬ ((1 : Int) < k) := by omega
    clear hlv hk
    go_enter Tryz.func177, Tryz.ntmps177
    go_wp2_with fail
    refine (l02Left_any _ _ x y.enc _ _ hv0 rfl).mono ?_; rintro e w' ⟨v1, rfl, hv1, rfl⟩
    go_wp2_with fail
    refine (HX.out 1 _ rfl _ _ hv1).mono ?_; rintro e w1 ⟨s1, rfl, hs1, k1⟩
    have z1 := txt_size hs1 (by omega)
    go_wp2_with fail
    refine (l02Right_any _ _ x y _ _ (hv0.keeps k1) rfl).mono ?_; rintro e w' ⟨v2, rfl, hv2, rfl⟩
    go_wp2_with fail
    refine (HY.out 2 _ rfl _ _ hv2).mono ?_; rintro e w2 ⟨s2, rfl, hs2, k2⟩
    have z2 := txt_size hs2 (by omega)
    go_wp2_with fail
    go_ret
    exact ⟨_, rfl, by simp only [bts_append, hs1, hs2, Fm.body, Fm.txt, List.append_assoc]; rfl, k1.trans k2⟩
set_option maxRecDepth 20000 in
set_option maxHeartbeats 1000000 in
theorem wrFls : WrOk (Fm.fls) := by
  intro hL l k hk v w hv
  simp only [Fm.enc, List.length_cons] at hL
  have hv0 := hv
  obtain ⟨b, off, n, cap, rfl, h0, h1, h2, h3, hc, hsy⟩ := hv.root
  replace hc : w.cell? ⟨b, off, none⟩ = some (.int .i64 1) := hc
  by_cases hlv : (3 : Nat) < l
  · rw [txt_yes (t := Fm.fls) (show (3) < l from hlv)]
    have hkl : ((3 : Int) < k) := by omega
    clear hlv hk
    go_enter Tryz.func177, Tryz.ntmps177
    go_wp2_with fail
    go_ret
    exact ⟨_, rfl, rfl, Keeps.refl _⟩
  · rw [txt_no (t := Fm.fls) (show ¬ (3) < l from hlv)]
    have hkl : ¬ ((3 : Int) < k) := by omega
    clear hlv hk
    go_enter Tryz.func177, Tryz.ntmps177
    go_wp2_with fail
    go_ret
    exact ⟨_, rfl, rfl, Keeps.refl _⟩
set_option maxRecDepth 20000 in
set_option maxHeartbeats 1000000 in
theorem wrImp (x y : Fm) (hf : y.isFls = false) (hx : WrOk x) (hy : WrOk y) : WrOk (Fm.imp x y) := by
  intro hL l k hk v w hv
  simp only [Fm.enc, List.length_cons, List.length_append] at hL
  have hv0 := hv
  obtain ⟨b, off, n, cap, rfl, h0, h1, h2, h3, hc, hsy⟩ := hv.root
  replace hc : w.cell? ⟨b, off, none⟩ = some (.int .i64 4) := hc
  have HX := hid (hx (by omega)); clear hx
  have HY := hid (hy (by omega)); clear hy
  have hB : (Fm.imp x y).body = x.txt 1 ++ 62 :: y.body := by simp [Fm.body, Fm.txt, hf]
  have hE : decide ((Fm.imp x y).enc = (Fm.imp Fm.fls Fm.fls).enc) = false := decide_eq_false (fun h => by cases enc_inj h; cases hf)
  have hlv0 : (Fm.imp x y).lev = 0 := by simp [Fm.lev, hf]
  have hkd : (y.kind == 1) = false := by cases y <;> first | rfl | (cases hf)
  have HEQ := hid hE; clear hE
  have HB := hid hB; clear hB
  by_cases hlv : (0 : Nat) < l
  · rw [txt_yes (t := Fm.imp x y) (by rw [hlv0]; exact hlv)]
    have hkl : ((0 : Int) < k) := by omega
    clear hlv hk
    go_enter Tryz.func177, Tryz.ntmps177
    go_wp2_with fail
    refine (l02True_any w).mono ?_; rintro e wt ⟨vt, rfl, hvt, kt⟩
    go_wp2_with fail
    refine (l02Equal_any _ _ _ _ wt (hv0.keeps kt) (hvt.nds (by simp [Fm.enc]))).mono ?_; rintro e we ⟨rfl, ke⟩
    rw [HEQ.out]
    have k0 := kt.trans ke
    go_wp2_with fail
    refine (l02Right_any _ _ x y _ _ (hv0.keeps k0) rfl).mono ?_; rintro e w' ⟨vy, rfl, hvy, rfl⟩
    obtain ⟨by', oy, ny, cy, rfl, g0, g1, g2, g3, gk, _⟩ := hvy.root
    go_wp2_with fail
    refine (l02Left_any _ _ x y.enc _ _ (hv0.keeps k0) rfl).mono ?_; rintro e w' ⟨v1, rfl, hv1, rfl⟩
    go_wp2_with fail
    refine (HX.out 1 _ rfl _ _ hv1).mono ?_; rintro e w1 ⟨s1, rfl, hs1, k1⟩
    have z1 := txt_size hs1 (by omega)
    go_wp2_with fail
    refine (l02Right_any _ _ x y _ _ ((hv0.keeps k0).keeps k1) rfl).mono ?_; rintro e w' ⟨v2, rfl, hv2, rfl⟩
    go_wp2_with fail
    refine (HY.out 0 _ rfl _ _ hv2).mono ?_; rintro e w2 ⟨s2, rfl, hs2, k2⟩
    have z2 := txt_size hs2 (by omega)
    go_wp2_with fail
    go_ret
    exact ⟨_, rfl, by rw [HB.out]; simp only [bts_append, hs1, hs2, Fm.txt0, List.append_assoc]; rfl, k0.trans (k1.trans k2)⟩
  · rw [txt_no (t := Fm.imp x y) (by rw [hlv0]; exact hlv)]
    have hkl : ¬ ((0 : Int) < k) := by omega
    clear hlv hk
    go_enter Tryz.func177, Tryz.ntmps177
    go_wp2_with fail
    refine (l02True_any w).mono ?_; rintro e wt ⟨vt, rfl, hvt, kt⟩
    go_wp2_with fail
    refine (l02Equal_any _ _ _ _ wt (hv0.keeps kt) (hvt.nds (by simp [Fm.enc]))).mono ?_; rintro e we ⟨rfl, ke⟩
    rw [HEQ.out]
    have k0 := kt.trans ke
    go_wp2_with fail
    refine (l02Right_any _ _ x y _ _ (hv0.keeps k0) rfl).mono ?_; rintro e w' ⟨vy, rfl, hvy, rfl⟩
    obtain ⟨by', oy, ny, cy, rfl, g0, g1, g2, g3, gk, _⟩ := hvy.root
    go_wp2_with fail
    refine (l02Left_any _ _ x y.enc _ _ (hv0.keeps k0) rfl).mono ?_; rintro e w' ⟨v1, rfl, hv1, rfl⟩
    go_wp2_with fail
    refine (HX.out 1 _ rfl _ _ hv1).mono ?_; rintro e w1 ⟨s1, rfl, hs1, k1⟩
    have z1 := txt_size hs1 (by omega)
    go_wp2_with fail
    refine (l02Right_any _ _ x y _ _ ((hv0.keeps k0).keeps k1) rfl).mono ?_; rintro e w' ⟨v2, rfl, hv2, rfl⟩
    go_wp2_with fail
    refine (HY.out 0 _ rfl _ _ hv2).mono ?_; rintro e w2 ⟨s2, rfl, hs2, k2⟩
    have z2 := txt_size hs2 (by omega)
    go_wp2_with fail
    go_ret
    exact ⟨_, rfl, by rw [HB.out]; simp only [bts_append, hs1, hs2, Fm.txt0, List.append_assoc]; rfl, k0.trans (k1.trans k2)⟩
set_option maxRecDepth 20000 in
set_option maxHeartbeats 1000000 in
theorem wrNeg (x : Fm) (hx1 : x.isFls = false) (hx : WrOk x) : WrOk (Fm.imp x Fm.fls) := by
  intro hL l k hk v w hv
  simp only [Fm.enc, List.length_cons, List.length_append] at hL
  have hv0 := hv
  obtain ⟨b, off, n, cap, rfl, h0, h1, h2, h3, hc, hsy⟩ := hv.root
  replace hc : w.cell? ⟨b, off, none⟩ = some (.int .i64 4) := hc
  have HX := hid (hx (by omega)); clear hx
  have hB : (Fm.imp x Fm.fls).body = 126 :: x.txt 3 := by have hf : Fm.fls.isFls = true := rfl; simp [Fm.body, Fm.txt, hf, hx1]
  have hE : decide ((Fm.imp x Fm.fls).enc = (Fm.imp Fm.fls Fm.fls).enc) = false := decide_eq_false (fun h => by cases enc_inj h; cases hx1)
  have hlv0 : (Fm.imp x Fm.fls).lev = 3 := rfl
  have HEQ := hid hE; clear hE
  have HB := hid hB; clear hB hx1
  by_cases hlv : (3 : Nat) < l
  · rw [txt_yes (t := Fm.imp x Fm.fls) (by rw [hlv0]; exact hlv)]
    have hkl : ((3 : Int) < k) := by omega
    clear hlv hk
    go_enter Tryz.func177, Tryz.ntmps177
    go_wp2_with fail
    refine (l02True_any w).mono ?_; rintro e wt ⟨vt, rfl, hvt, kt⟩
    go_wp2_with fail
    refine (l02Equal_any _ _ _ _ wt (hv0.keeps kt) (hvt.nds (by simp [Fm.enc]))).mono ?_; rintro e we ⟨rfl, ke⟩
    rw [HEQ.out]
    have k0 := kt.trans ke
    go_wp2_with fail
    refine (l02Right_any _ _ x Fm.fls _ _ (hv0.keeps k0) rfl).mono ?_; rintro e w' ⟨vy, rfl, hvy, rfl⟩
    obtain ⟨by', oy, ny, cy, rfl, g0, g1, g2, g3, gk, _⟩ := hvy.root
    replace gk : we.cell? ⟨by', oy, none⟩ = some (.int .i64 1) := gk
    go_wp2_with fail
    refine (l02Left_any _ _ x Fm.fls.enc _ _ (hv0.keeps k0) rfl).mono ?_; rintro e w' ⟨v1, rfl, hv1, rfl⟩
    go_wp2_with fail
    refine (HX.out 3 _ rfl _ _ hv1).mono ?_; rintro e w1 ⟨s1, rfl, hs1, k1⟩
    have z1 := txt_size hs1 (by omega)
    go_wp2_with fail
    go_ret
    exact ⟨_, rfl, by rw [HB.out]; simp only [bts_append, hs1]; rfl, k0.trans k1⟩
  · rw [txt_no (t := Fm.imp x Fm.fls) (by rw [hlv0]; exact hlv)]
    have hkl : ¬ ((3 : Int) < k) := by omega
    clear hlv hk
    go_enter Tryz.func177, Tryz.ntmps177
    go_wp2_with fail
    refine (l02True_any w).mono ?_; rintro e wt ⟨vt, rfl, hvt, kt⟩
    go_wp2_with fail
    refine (l02Equal_any _ _ _ _ wt (hv0.keeps kt) (hvt.nds (by simp [Fm.enc]))).mono ?_; rintro e we ⟨rfl, ke⟩
    rw [HEQ.out]
    have k0 := kt.trans ke
    go_wp2_with fail
    refine (l02Right_any _ _ x Fm.fls _ _ (hv0.keeps k0) rfl).mono ?_; rintro e w' ⟨vy, rfl, hvy, rfl⟩
    obtain ⟨by', oy, ny, cy, rfl, g0, g1, g2, g3, gk, _⟩ := hvy.root
    replace gk : we.cell? ⟨by', oy, none⟩ = some (.int .i64 1) := gk
    go_wp2_with fail
    refine (l02Left_any _ _ x Fm.fls.enc _ _ (hv0.keeps k0) rfl).mono ?_; rintro e w' ⟨v1, rfl, hv1, rfl⟩
    go_wp2_with fail
    refine (HX.out 3 _ rfl _ _ hv1).mono ?_; rintro e w1 ⟨s1, rfl, hs1, k1⟩
    have z1 := txt_size hs1 (by omega)
    go_wp2_with fail
    go_ret
    exact ⟨_, rfl, by rw [HB.out]; simp only [bts_append, hs1]; rfl, k0.trans k1⟩
set_option maxRecDepth 20000 in
set_option maxHeartbeats 1000000 in
theorem wrTop : WrOk (Fm.imp Fm.fls Fm.fls) := by
  intro hL l k hk v w hv
  simp only [Fm.enc, List.length_cons, List.length_append] at hL
  have hv0 := hv
  obtain ⟨b, off, n, cap, rfl, h0, h1, h2, h3, hc, hsy⟩ := hv.root
  replace hc : w.cell? ⟨b, off, none⟩ = some (.int .i64 4) := hc
  by_cases hlv : (3 : Nat) < l
  · rw [txt_yes (t := Fm.imp Fm.fls Fm.fls) (show (3) < l from hlv)]
    have hkl : ((3 : Int) < k) := by omega
    clear hlv hk
    go_enter Tryz.func177, Tryz.ntmps177
    go_wp2_with fail
    refine (l02True_any w).mono ?_; rintro e wt ⟨vt, rfl, hvt, kt⟩
    go_wp2_with fail
    refine (l02Equal_any _ _ _ _ wt (hv0.keeps kt) (hvt.nds (by simp [Fm.enc]))).mono ?_; rintro e we ⟨rfl, ke⟩
    rw [show decide ((Fm.imp Fm.fls Fm.fls).enc = (Fm.imp Fm.fls Fm.fls).enc) = true from decide_eq_true rfl]
    have k0 := kt.trans ke
    go_wp2_with fail
    go_ret
    exact ⟨_, rfl, rfl, k0⟩
  · rw [txt_no (t := Fm.imp Fm.fls Fm.fls) (show ¬ (3) < l from hlv)]
    have hkl : ¬ ((3 : Int) < k) := by omega
    clear hlv hk
    go_enter Tryz.func177, Tryz.ntmps177
    go_wp2_with fail
    refine (l02True_any w).mono ?_; rintro e wt ⟨vt, rfl, hvt, kt⟩
    go_wp2_with fail
    refine (l02Equal_any _ _ _ _ wt (hv0.keeps kt) (hvt.nds (by simp [Fm.enc]))).mono ?_; rintro e we ⟨rfl, ke⟩
    rw [show decide ((Fm.imp Fm.fls Fm.fls).enc = (Fm.imp Fm.fls Fm.fls).enc) = true from decide_eq_true rfl]
    have k0 := kt.trans ke
    go_wp2_with fail
    go_ret
    exact ⟨_, rfl, rfl, k0⟩
set_option maxRecDepth 20000 in
set_option maxHeartbeats 1000000 in
theorem wrVar (i : Nat) (hi : i < 6) : WrOk (.var i) := by
  intro hL l k hk v w hv
  simp only [Fm.enc, List.length_cons] at hL
  have hv0 := hv
  obtain ⟨b, off, n, cap, rfl, h0, h1, h2, h3, hc, hsy⟩ := hv.root
  replace hc : w.cell? ⟨b, off, none⟩ = some (.int .i64 0) := hc
  replace hsy : w.cell? ⟨b, off + 1, none⟩ = some (.int .i64 (i : Int)) := hsy
  have hcase : i = 0 ∨ i = 1 ∨ i = 2 ∨ i = 3 ∨ i = 4 ∨ i = 5 := by omega
  by_cases hlv : (3 : Nat) < l
  · rw [txt_yes (t := Fm.var i) (show (3) < l from hlv)]
    have hkl : ((3 : Int) < k) := by omega
    clear hlv hk
    rcases hcase with rfl | rfl | rfl | rfl | rfl | rfl
    · replace hsy : w.cell? ⟨b, off + 1, none⟩ = some (.int .i64 0) := hsy
      go_enter Tryz.func177, Tryz.ntmps177
      go_wp2_with fail
      go_quiet (fail)
      go_wp2_with fail
      go_ret
      refine ⟨_, rfl, ?_, ?_⟩
      · decide
      · exact Keeps.drewN (Keeps.refl _) _
    · replace hsy : w.cell? ⟨b, off + 1, none⟩ = some (.int .i64 1) := hsy
      go_enter Tryz.func177, Tryz.ntmps177
      go_wp2_with fail
      go_quiet (fail)
      go_wp2_with fail
      go_ret
      refine ⟨_, rfl, ?_, ?_⟩
      · decide
      · exact Keeps.drewN (Keeps.refl _) _
    · replace hsy : w.cell? ⟨b, off + 1, none⟩ = some (.int .i64 2) := hsy
      go_enter Tryz.func177, Tryz.ntmps177
      go_wp2_with fail
      go_quiet (fail)
      go_wp2_with fail
      go_ret
      refine ⟨_, rfl, ?_, ?_⟩
      · decide
      · exact Keeps.drewN (Keeps.refl _) _
    · replace hsy : w.cell? ⟨b, off + 1, none⟩ = some (.int .i64 3) := hsy
      go_enter Tryz.func177, Tryz.ntmps177
      go_wp2_with fail
      go_quiet (fail)
      go_wp2_with fail
      go_ret
      refine ⟨_, rfl, ?_, ?_⟩
      · decide
      · exact Keeps.drewN (Keeps.refl _) _
    · replace hsy : w.cell? ⟨b, off + 1, none⟩ = some (.int .i64 4) := hsy
      go_enter Tryz.func177, Tryz.ntmps177
      go_wp2_with fail
      go_quiet (fail)
      go_wp2_with fail
      go_ret
      refine ⟨_, rfl, ?_, ?_⟩
      · decide
      · exact Keeps.drewN (Keeps.refl _) _
    · replace hsy : w.cell? ⟨b, off + 1, none⟩ = some (.int .i64 5) := hsy
      go_enter Tryz.func177, Tryz.ntmps177
      go_wp2_with fail
      go_quiet (fail)
      go_wp2_with fail
      go_ret
      refine ⟨_, rfl, ?_, ?_⟩
      · decide
      · exact Keeps.drewN (Keeps.refl _) _
  · rw [txt_no (t := Fm.var i) (show ¬ (3) < l from hlv)]
    have hkl : ¬ ((3 : Int) < k) := by omega
    clear hlv hk
    rcases hcase with rfl | rfl | rfl | rfl | rfl | rfl
    · replace hsy : w.cell? ⟨b, off + 1, none⟩ = some (.int .i64 0) := hsy
      go_enter Tryz.func177, Tryz.ntmps177
      go_wp2_with fail
      go_quiet (fail)
      go_wp2_with fail
      go_ret
      refine ⟨_, rfl, ?_, ?_⟩
      · decide
      · exact Keeps.drewN (Keeps.refl _) _
    · replace hsy : w.cell? ⟨b, off + 1, none⟩ = some (.int .i64 1) := hsy
      go_enter Tryz.func177, Tryz.ntmps177
      go_wp2_with fail
      go_quiet (fail)
      go_wp2_with fail
      go_ret
      refine ⟨_, rfl, ?_, ?_⟩
      · decide
      · exact Keeps.drewN (Keeps.refl _) _
    · replace hsy : w.cell? ⟨b, off + 1, none⟩ = some (.int .i64 2) := hsy
      go_enter Tryz.func177, Tryz.ntmps177
      go_wp2_with fail
      go_quiet (fail)
      go_wp2_with fail
      go_ret
      refine ⟨_, rfl, ?_, ?_⟩
      · decide
      · exact Keeps.drewN (Keeps.refl _) _
    · replace hsy : w.cell? ⟨b, off + 1, none⟩ = some (.int .i64 3) := hsy
      go_enter Tryz.func177, Tryz.ntmps177
      go_wp2_with fail
      go_quiet (fail)
      go_wp2_with fail
      go_ret
      refine ⟨_, rfl, ?_, ?_⟩
      · decide
      · exact Keeps.drewN (Keeps.refl _) _
    · replace hsy : w.cell? ⟨b, off + 1, none⟩ = some (.int .i64 4) := hsy
      go_enter Tryz.func177, Tryz.ntmps177
      go_wp2_with fail
      go_quiet (fail)
      go_wp2_with fail
      go_ret
      refine ⟨_, rfl, ?_, ?_⟩
      · decide
      · exact Keeps.drewN (Keeps.refl _) _
    · replace hsy : w.cell? ⟨b, off + 1, none⟩ = some (.int .i64 5) := hsy
      go_enter Tryz.func177, Tryz.ntmps177
      go_wp2_with fail
      go_quiet (fail)
      go_wp2_with fail
      go_ret
      refine ⟨_, rfl, ?_, ?_⟩
      · decide
      · exact Keeps.drewN (Keeps.refl _) _
theorem wrOk_any (t : Fm) (hw : t.wf) (hp : t.plain = true) : WrOk t := by
  induction t with
  | var i => exact wrVar i hw
  | fls => exact wrFls
  | and x y hx hy => simp [Fm.plain] at hp; exact wrAnd x y (hx hw.1 hp.1) (hy hw.2 hp.2)
  | or x y hx hy => simp [Fm.plain] at hp; exact wrOr x y (hx hw.1 hp.1) (hy hw.2 hp.2)
  | box x hx => simp [Fm.plain] at hp
  | dia x hx => simp [Fm.plain] at hp
  | imp x y hx hy =>
    simp [Fm.plain] at hp
    cases hf : y.isFls
    · exact wrImp x y hf (hx hw.1 hp.1) (hy hw.2 hp.2)
    · cases y <;> simp [Fm.isFls] at hf
      cases hx1 : x.isFls
      · exact wrNeg x hx1 (hx hw.1 hp.1)
      · cases x <;> simp [Fm.isFls] at hx1
        exact wrTop
theorem l02Text_any (t : Fm) (hw : t.wf) (hp : t.plain = true) (hl : t.enc.length ≤ 100000000) (v : Value) (w : World) (hv : Nds w v t.enc) :
    Calls Tryz.prog 95 #[v] w fun e w' => ∃ s, e = .returned (.string s) ∧ bts s = t.body ∧ Keeps w w' := by
  have H := hid (wrOk_any t hw hp hl 0 0 rfl v w hv)
  go_enter Tryz.func95, Tryz.ntmps95
  go_wp2_with fail
  refine H.out.mono ?_; rintro e w1 ⟨s, rfl, hs, k1⟩
  go_wp2_with fail
  go_ret
  exact ⟨_, rfl, by rw [hs, Fm.txt0], k1⟩
end Go.Proofs.YtodeecmhcfbheaaGreat
/- The reference: the formula of a text, the formulas of texts, l23Ok. -/
namespace Go.Proofs.YtodeecmhcfbheaaGreat
open Go.RowKit
theorem small_size {t : Fm} {s : ByteArray} (hb : bts s = t.body) (hl : t.enc.length ≤ 40) : s.size ≤ 200 := by
  have := body_len t
  rw [← bts_len, hb]; omega
set_option maxRecDepth 20000 in
theorem specParse_any (t : Fm) (hw : t.wf) (s : ByteArray) (w : World) (hb : bts s = t.body) (hl : t.enc.length ≤ 40) :
    Calls Tryz.prog 132 #[.string s] w fun e w' => ∃ v, e = .returned (.tuple #[v, .int .i64 0, .int .i64 0]) ∧ OwnN w' w.heap.size v t.enc ∧ Keeps w w' := by
  have hs := small_size hb hl
  have HR := hid (l02Read_any t hw s w hb (by omega) (by omega))
  have hs' : ¬ ((s.size : Int) > 200) := by omega
  clear hb
  go_enter Tryz.func132, Tryz.ntmps132
  go_wp2_with fail
  refine HR.out.mono ?_; rintro e w1 ⟨v1, rfl, hv1, k1⟩
  obtain ⟨p1, n1, q1, rfl⟩ : ∃ p n c, v1 = .slice p n c := by obtain ⟨p, c, e, _⟩ := At.of_own hv1; exact ⟨p, _, c, e⟩
  have hn1 : n1 = t.enc.length := by obtain ⟨p, c, e, _⟩ := At.of_own hv1; cases e; rfl
  have hl1 : ¬ ((n1 : Int) > 40) := by omega
  have HN1 := hid hn1; clear hn1
  go_wp2_with fail
  refine bodyPost_ret (v := .tuple #[.slice p1 n1 q1, .int .i64 0, .int .i64 0]) (by simp [results, Tryz.results132, go_sem]) rfl ?_
  exact ⟨_, rfl, hv1, k1⟩
set_option maxRecDepth 20000 in
theorem l02Good_any (t : Fm) (hok : OkF t) (s : ByteArray) (w : World) (hb : bts s = t.body) (hl : t.enc.length ≤ 40) :
    Calls Tryz.prog 220 #[.string s] w fun e w' => ∃ v, e = .returned (.tuple #[v, .bool true]) ∧ OwnN w' w.heap.size v t.enc ∧ Keeps w w' := by
  have HR := hid (specParse_any t hok.1 s w hb hl)
  have HT := hid (fun v w2 (hv : Nds w2 v t.enc) => l02Text_any t hok.1 hok.2 (by omega) v w2 hv)
  have HB := hid hb; clear hb
  go_enter Tryz.func220, Tryz.ntmps220
  go_wp2_with fail
  refine HR.out.mono ?_; rintro e w1 ⟨v1, rfl, hv1, k1⟩
  have hn1 : Nds w1 v1 t.enc := hv1.nds (by omega)
  go_wp2_with fail
  refine (HT.out v1 w1 hn1).mono ?_; rintro e w2 ⟨s2, rfl, hs2, k2⟩
  have he : (s2.toList == s.toList) = true := by rw [beq_bts, decide_eq_true_iff, hs2, HB.out]
  go_wp2_with fail
  go_ret2
  exact ⟨_, rfl, hv1.keeps k2, k1.trans k2⟩
set_option maxRecDepth 20000 in
theorem l22Formula_any (t : Fm) (hok : OkF t) (s : ByteArray) (w : World) (hb : bts s = t.body) (hl : t.enc.length ≤ 40) :
    Calls Tryz.prog 173 #[.string s] w fun e w' => ∃ v, e = .returned (.tuple #[v, .bool true]) ∧ OwnN w' w.heap.size v t.enc ∧ Keeps w w' := by
  have HR := hid (l02Good_any t hok s w hb hl)
  have hp := hid ((plainL_enc t).trans hok.2)
  clear hb
  go_enter Tryz.func173, Tryz.ntmps173
  go_wp2_with fail
  refine HR.out.mono ?_; rintro e w1 ⟨v1, rfl, hv1, k1⟩
  have hn1 : Nds w1 v1 t.enc := hv1.nds (by omega)
  go_wp2_with fail
  refine (l02Plain_any _ _ _ hn1).mono ?_; rintro e w' ⟨rfl, rfl⟩; rw [hp.out]
  go_wp2_with fail
  go_ret2
  exact ⟨_, rfl, hv1, k1⟩
theorem tot_enc (G : List Fm) (h : ∀ a ∈ G, a.enc.length ≤ 40) : tot (G.map Fm.enc) ≤ 40 * G.length := by
  induction G with
  | nil => simp [tot]
  | cons a G ih =>
    have h1 := h a (by simp)
    have h2 := ih (fun b hb => h b (by simp [hb]))
    simp only [List.map_cons, tot, List.length_cons]
    omega
set_option maxRecDepth 20000 in
set_option maxHeartbeats 1000000 in
theorem l22Formulas_any (G : List Fm) (hG : OkL G) (hlen : ∀ a ∈ G, a.enc.length ≤ 40) (hn : G.length ≤ 1000) (v : Value) (w : World) (hv : Left w v G) :
    Calls Tryz.prog 175 #[v] w fun e w' => ∃ v', e = .returned v' ∧ FsL w' v' G ∧ Keeps w w' := by
  obtain ⟨ss, hss, htx⟩ := hv
  obtain ⟨p, cap, rfl, hle, hmx, _, hsl⟩ := hss.at
  unfold maxLen at hmx
  have hln := htx.length
  have hm1 : ss.length ≤ 1000 := by omega
  have HLN := hid hln; clear hln
  have HSS := hid hss; clear hss
  have k0 := (Keeps.refl w).alloc (.cells #[] 24)
  have hE := hid (OwnL.empty w)
  go_enter Tryz.func175, Tryz.ntmps175
  go_wp2
  go_loopw [3, 4] (fun r i' wr => ∃ k : Nat, k ≤ ss.length ∧ i' = .int .i64 k ∧ OwnL wr w.heap.size r ((G.take k).map Fm.enc) ∧ Keeps w wr) (fun _ i _ => ss.length - (intOf i).toNat)
  case atStart => exact ⟨0, by omega, rfl, by simpa using hE.out, k0⟩
  case round =>
    obtain ⟨k, hk, rfl, hown, kw⟩ := hrel
    by_cases hlt : k < ss.length
    · have hlt' : (k : Int) < ss.length := by omega
      have hkG : k < G.length := by have := HLN.out; omega
      obtain ⟨b, off, rfl, hc⟩ := (HSS.out.keeps kw).get k hlt
      have hx := htx.get k hlt hkG
      have HF := hid (l22Formula_any G[k] (hG _ (List.getElem_mem hkG)) ss[k] wr hx (hlen _ (List.getElem_mem hkG)))
      have hsucc := hid (show (G.take (k + 1)).map Fm.enc = (G.take k).map Fm.enc ++ [G[k].enc] by rw [List.take_succ_eq_append_getElem hkG, List.map_append]; rfl)
      generalize ss[k] = x at *
      have hsz := kw.size
      have hlk : ((G.take k).map Fm.enc).length ≤ 1000 := by simp; omega
      clear hx
      go_wp2_with fail
      refine HF.out.mono ?_; rintro e w2 ⟨v2, rfl, hv2, k2⟩
      obtain ⟨p2, n2, q2, rfl⟩ : ∃ p n c, v2 = .slice p n c := by obtain ⟨p, c, e, _⟩ := At.of_own hv2; exact ⟨p, _, c, e⟩
      have kl := (Keeps.refl w2).alloc (.cells #[.slice p2 n2 q2] 24)
      have hat := At.lit1 w2 (.slice p2 n2 q2) 24
      have hsz2 := k2.size
      go_wp2_with (at_builtin; refine appL rfl _ _ rfl w.heap.size _ ((G.take k).map Fm.enc) rfl wr hown (k2.trans kl) _ _ (hv2.keeps kl) hsz _ _ rfl hat (by omega) ?_; intro v4 w4 hv4 hg4 hr4; have k4 := ((kw.trans k2).trans kl).grown hg4 hr4)
      go_roundw
      case rel => exact ⟨k + 1, by omega, by go_num, by rw [hsucc.out]; exact hv4, k4⟩
      case measure => simp [intOf]; omega
    · obtain rfl : k = ss.length := by omega
      have hlt' : ¬ ((ss.length : Int) < ss.length) := by omega
      have hT := tot_enc G hlen
      have hGk : G.take ss.length = G := by rw [HLN.out]; exact List.take_length
      rw [hGk] at hown
      have hfs : FsL wr _ G := hown.ndsL (by simp; omega) (by omega)
      have HFS := hid hfs
      clear hfs hown hGk
      go_wp2
      go_ret
      exact ⟨_, rfl, HFS.out, kw⟩
end Go.Proofs.YtodeecmhcfbheaaGreat
/- The reference: texts in order, each once (l02Insert, l31Texts); l23Ok, l31Theorem. -/
namespace Go.Proofs.YtodeecmhcfbheaaGreat
open Go.RowKit
theorem OLeft.keeps {w w' : World} {B : Nat} {v : Value} {G : List Fm} (h : OLeft w B v G) (k : Keeps w w') : OLeft w' B v G := by
  obtain ⟨ss, h1, h2, h3⟩ := h
  exact ⟨ss, h1.keeps k, h2, h3⟩
theorem sizeOfS (w : World) : (sizeOf 9).run Tryz.prog w = .ok 1 w := by
  obtain ⟨i0, hi, hz0, hz1, hz2⟩ := info_parts infoS
  simp [sizeOf, typeInfo, hi, hz1]
theorem tailS (b off m cap l : Nat) (i : Int) (hi : i = l) (hl : l ≤ m) (hc : m ≤ cap) :
    ∃ q, (∀ (w : World) (vs : List Value), At w (some ⟨b, off, none⟩) vs → vs.length = m → At w q (vs.drop l)) ∧
      ∀ wx, (Instr.slice 30 (.slice (some ⟨b, off, none⟩) m cap) (some (.int .i64 i)) none none).run Tryz.prog wx = .ok (.slice q (m - l) (cap - l)) wx := by
  subst hi
  have hT : Tryz.prog.underlying 30 = some (.slice (Tryz.prog.elem 30)) := by kernel_rfl
  have hE : Tryz.prog.elem 30 = 9 := by kernel_rfl
  refine ⟨if cap = l then some ⟨b, off, none⟩ else some ⟨b, off + l, none⟩, fun w vs h hvl => ?_, fun wx => ?_⟩
  · split
    · rename_i e
      have : vs.drop l = [] := List.drop_eq_nil_of_le (by omega)
      rw [this]
      exact At.nil _ _
    · exact h.drop l rfl
  · rw [run_slice_l (P := Tryz.prog) wx 30 (some ⟨b, off, none⟩) m cap hT .i64 (l : Int) (by omega) (by omega), hE, sizeOfS]
    simp only [Result.andThen_ok, sliced, Int.toNat_natCast, Nat.mul_one, Option.map_some]
    have hadd : (⟨b, off, none⟩ : Addr).add l = ⟨b, off + l, none⟩ := by unfold Addr.add; split <;> simp_all
    rw [hadd]
theorem At.takeN {w : World} {p : Option Addr} {vs : List Value} (h : At w p vs) (k : Nat) : At w p (vs.take k) := fun j hj => by
  simp at hj
  obtain ⟨b, off, hp, hc⟩ := h j (by omega)
  exact ⟨b, off, hp, by simpa using hc⟩
theorem insert_mem {R : List Fm} {t : Fm} (k : Nat) : ∀ a, a ∈ R.take k ++ [t] ++ R.drop k ↔ a ∈ R ∨ a = t := by
  intro a
  have h : a ∈ R ↔ a ∈ R.take k ∨ a ∈ R.drop k := by
    conv => lhs; rw [← List.take_append_drop k R]
    exact List.mem_append
  rw [h]
  simp only [List.mem_append, List.mem_singleton]
  constructor
  · rintro ((h | h) | h)
    · exact .inl (.inl h)
    · exact .inr h
    · exact .inl (.inr h)
  · rintro ((h | h) | h)
    · exact .inl (.inl h)
    · exact .inr h
    · exact .inl (.inr h)
theorem insert_wts (R : List Fm) (t : Fm) (k : Nat) : wts (R.take k ++ [t] ++ R.drop k) = wts R + wt t := by
  have h : wts R = wts (R.take k) + wts (R.drop k) := by
    conv => lhs; rw [← List.take_append_drop k R]
    exact wts_append _ _
  rw [wts_append, wts_append, h]
  simp only [wts]
  omega
theorem strs_of {w : World} {p : Option Addr} {k cap : Nat} {a : List ByteArray} (h1 : k = a.length) (h2 : cap ≤ maxLen) (h : At w p (strCells a)) (h3 : a.length ≤ 2147483648 ∧ a.length ≤ cap) : Strs w (.slice p k cap) a := by
  subst h1
  exact Strs.ofAt h3.2 h2 h h3.1
theorem at_take {w : World} {p : Option Addr} {a : List ByteArray} (h : At w p (strCells a)) (k : Nat) : At w p (strCells (a.take k)) := by
  have := At.takeN h k
  rwa [show (strCells a).take k = strCells (a.take k) by simp [strCells, List.map_take]] at this
theorem at_drop {w : World} {p : Option Addr} {a : List ByteArray} {k : Nat} (h : At w p ((strCells a).drop k)) : At w p (strCells (a.drop k)) := by
  rwa [show (strCells a).drop k = strCells (a.drop k) by simp [strCells, List.map_drop]] at h
theorem own_some {w : World} {B : Nat} {v : Value} {a : List ByteArray} (h : OwnS w B v a) (hp : 0 < a.length) : ∃ g cap, v = .slice (some ⟨g, 0, none⟩) a.length cap := by
  rcases h.2 with ⟨_, e⟩ | ⟨g, c, _, e, _⟩
  · omega
  · exact ⟨g, c, e⟩
/-- a text is put in its place -/
def InsOk (w : World) (B : Nat) (R : List Fm) (t : Fm) (e : Ending) (w' : World) : Prop := ∃ b' o' n' c' R', e = .returned (.slice (some ⟨b', o', none⟩) n' c') ∧ OLeft w' B (.slice (some ⟨b', o', none⟩) n' c') R' ∧ (∀ a, a ∈ R' ↔ a ∈ R ∨ a = t) ∧ wts R' ≤ wts R + wt t ∧ R'.length ≤ R.length + 1 ∧ Keeps w w'
set_option maxRecDepth 20000 in
set_option maxHeartbeats 2000000 in
theorem l02Insert_any (R : List Fm) (t : Fm) (b off n cap : Nat) (s : ByteArray) (B : Nat) (w : World) (hv : OLeft w B (.slice (some ⟨b, off, none⟩) n cap) R) (hs : bts s = t.body) (hR : ∀ a ∈ R, a.wf) (ht : t.wf) (hn : R.length ≤ 1000) (hB : B ≤ w.heap.size) :
    Calls Tryz.prog 176 #[.slice (some ⟨b, off, none⟩) n cap, .string s] w (InsOk w B R t) := by
  have HV := hid hv
  obtain ⟨ss, hss, htx, _⟩ := hv
  have hst := hss.strs (by rw [htx.length]; omega)
  obtain ⟨p', c', e, hnc, hcm, hat, _⟩ := hst.at
  cases e
  unfold maxLen at hcm
  have hln := htx.length
  have hm1 : ss.length ≤ 1000 := by omega
  have HST := hid hst; clear hst hss
  have HAT := hid hat; clear hat
  have HTX := hid htx; clear htx
  have HLN := hid hln; clear hln
  have HS := hid hs; clear hs
  go_enter Tryz.func176, Tryz.ntmps176
  go_wp2
  go_loop [5] (fun i' => ∃ k : Nat, k ≤ ss.length ∧ i' = .int .i64 k) (fun i => ss.length - (intOf i).toNat)
  case atStart => exact ⟨0, by omega, rfl⟩
  case round =>
    obtain ⟨k, hk, rfl⟩ := hrel
    by_cases hlt : k < ss.length
    · have hlt' : (k : Int) < ss.length := by omega
      obtain ⟨b', off', e, hc⟩ := HST.out.get k hlt
      cases e
      have hkR : k < R.length := by have := HLN.out; omega
      have hx := hid (HTX.out.get k hlt hkR)
      have hxm := hid (List.getElem_mem hkR)
      generalize R[k] = tk at *
      generalize ss[k] = x at *
      cases hless : Op.bytesLess x.toList s.toList with
      | true =>
        go_wp2
        go_round
        case rel => exact ⟨k + 1, by omega, by go_num⟩
        case measure => simp [intOf]; omega
      | false =>
        cases heq : (x.toList == s.toList) with
        | true =>
          have htt : tk = t := by
            have h1 : bts x = bts s := by rw [beq_bts] at heq; exact of_decide_eq_true heq
            exact body_inj (hR _ hxm.out) ht (hx.out.symm.trans (h1.trans HS.out))
          have HM := hid (show ∀ a, a ∈ R ↔ a ∈ R ∨ a = t from fun a => ⟨.inl, fun h => h.elim id (fun e => by rw [e, ← htt]; exact hxm.out)⟩)
          clear htt
          go_wp2
          go_ret
          exact ⟨b, off, _, cap, R, rfl, HV.out, HM.out, by omega, by omega, Keeps.refl _⟩
        | false =>
          have HU1 := hid (show Strs (w.alloc (.cells #[] 9)) (.slice (some ⟨b, off, none⟩) k cap) (ss.take k) from by
            have h1 := HAT.out
            refine (strs_of (by simp; omega) (by unfold maxLen; omega) (at_take h1 k) ⟨by simp; omega, by simp; omega⟩).keeps ((Keeps.refl w).alloc _))
          have HU3 := hid (fun w3 (k3 : Keeps w w3) => (show Strs w3 (.slice (some ⟨b, off + k, none⟩) (ss.length - k) (cap - k)) (ss.drop k) from by
            have h1 := (show At w (some ⟨b, off + k, none⟩) ((strCells ss).drop k) from HAT.out.drop k rfl)
            exact (strs_of (by simp) (by unfold maxLen; omega) (at_drop h1) ⟨by simp; omega, by simp; omega⟩).keeps k3))
          have HTI := hid (show Txts ([] ++ ss.take k ++ [s] ++ ss.drop k) (R.take k ++ [t] ++ R.drop k) from by
            have h1 : ss.map bts = R.map Fm.body := HTX.out
            simp only [Txts, List.nil_append, List.map_append, List.map_take, List.map_drop, h1, List.map_cons, List.map_nil, HS.out])
          go_wp2_with (at_builtin; first
            | (refine appS rfl (.tmp 34) (.tmp 37) rfl w.heap.size _ [] rfl (OwnS.empty w) _ (ss.take k) rfl HU1.out (by simp) (by simp; omega) ?_; intro v2 w2 hv2 hg2 hr2; have k2 : Keeps w w2 := ((Keeps.refl w).alloc _).grown hg2 (fun q hq => hr2 q hq); have hs2 := k2.size)
            | (refine appS rfl (.tmp 39) (.tmp 41) rfl w.heap.size _ ([] ++ ss.take k) rfl (hv2.keeps ((Keeps.refl w2).alloc _)) _ [s] rfl (Strs.lit1 w2 s) (by simp; omega) (by simp; omega) ?_; intro v3 w3 hv3 hg3 hr3; have k3 : Keeps w w3 := (k2.alloc _).grown hg3 (fun q hq => hr3 q hq); have hs3 := k3.size)
            | (refine appS rfl (.tmp 43) (.tmp 46) rfl w.heap.size _ ([] ++ ss.take k ++ [s]) rfl hv3 _ (ss.drop k) rfl (HU3.out w3 k3) (by omega) (by simp; omega) ?_; intro v4 w4 hv4 hg4 hr4; have k4 : Keeps w w4 := k3.grown hg4 (fun q hq => hr4 q hq)))
          go_ret
          obtain ⟨g4, c4, rfl⟩ := own_some hv4 (by simp; omega)
          exact ⟨g4, 0, _, c4, _, rfl, ⟨_, hv4.mono hB, HTI.out, by have := HLN.out; simp; omega⟩, insert_mem k, by rw [insert_wts]; exact Nat.le_refl _, by have := HLN.out; simp; omega, k4⟩
    · have hlt' : ¬ ((k : Int) < ss.length) := by omega
      have HU1 := hid (show Strs (w.alloc (.cells #[] 9)) (.slice (some ⟨b, off, none⟩) k cap) (ss.take k) from by
        have h1 := HAT.out
        refine (strs_of (by simp; omega) (by unfold maxLen; omega) (at_take h1 k) ⟨by simp; omega, by simp; omega⟩).keeps ((Keeps.refl w).alloc _))
      obtain ⟨q, hq, hrun⟩ := tailS b off ss.length cap k (k : Int) rfl hk hnc
      have HU3 := hid (fun w3 (k3 : Keeps w w3) => (show Strs w3 (.slice q (ss.length - k) (cap - k)) (ss.drop k) from by
        have h1 := hq w (strCells ss) HAT.out (by simp [strCells])
        exact (strs_of (by simp) (by unfold maxLen; omega) (at_drop h1) ⟨by simp; omega, by simp; omega⟩).keeps k3))
      have HTI := hid (show Txts ([] ++ ss.take k ++ [s] ++ ss.drop k) (R.take k ++ [t] ++ R.drop k) from by
        have h1 : ss.map bts = R.map Fm.body := HTX.out
        simp only [Txts, List.nil_append, List.map_append, List.map_take, List.map_drop, h1, List.map_cons, List.map_nil, HS.out])
      clear hq
      go_wp2_with (at_builtin; first
        | (refine appS rfl (.tmp 34) (.tmp 37) rfl w.heap.size _ [] rfl (OwnS.empty w) _ (ss.take k) rfl HU1.out (by simp) (by simp; omega) ?_; intro v2 w2 hv2 hg2 hr2; have k2 : Keeps w w2 := ((Keeps.refl w).alloc _).grown hg2 (fun q hq => hr2 q hq); have hs2 := k2.size)
        | (refine appS rfl (.tmp 39) (.tmp 41) rfl w.heap.size _ ([] ++ ss.take k) rfl (hv2.keeps ((Keeps.refl w2).alloc _)) _ [s] rfl (Strs.lit1 w2 s) (by simp; omega) (by simp; omega) ?_; intro v3 w3 hv3 hg3 hr3; have k3 : Keeps w w3 := (k2.alloc _).grown hg3 (fun q hq => hr3 q hq); have hs3 := k3.size)
        | (refine appS rfl (.tmp 43) (.tmp 46) rfl w.heap.size _ ([] ++ ss.take k ++ [s]) rfl hv3 _ (ss.drop k) rfl (HU3.out w3 k3) (by omega) (by simp; omega) ?_; intro v4 w4 hv4 hg4 hr4; have k4 : Keeps w w4 := k3.grown hg4 (fun q hq => hr4 q hq)))
      go_ret
      obtain ⟨g4, c4, rfl⟩ := own_some hv4 (by simp; omega)
      exact ⟨g4, 0, _, c4, _, rfl, ⟨_, hv4.mono hB, HTI.out, by have := HLN.out; simp; omega⟩, insert_mem k, by rw [insert_wts]; exact Nat.le_refl _, by have := HLN.out; simp; omega, k4⟩
set_option maxRecDepth 20000 in
set_option maxHeartbeats 1000000 in
theorem l31Texts_any (G : List Fm) (hG : OkL G) (hlen : ∀ a ∈ G, a.enc.length ≤ 40) (hn : G.length ≤ 900) (v : Value) (w : World) (hv : FsL w v G) :
    Calls Tryz.prog 94 #[v] w fun e w' => ∃ v', e = .returned v' ∧ (∃ R, Left w' v' R ∧ (∀ a, a ∈ R ↔ a ∈ G) ∧ wts R ≤ wts G ∧ R.length ≤ G.length) ∧ Keeps w w' := by
  obtain ⟨p, n, cap, rfl⟩ := NdsL.shapeL hv
  obtain ⟨hm, hmc, hmx⟩ := FsL.len hv
  unfold maxLen at hmx
  have hn1 : n ≤ 900 := by omega
  have HM := hid hm; clear hm
  have HV := hid hv; clear hv
  have k0 := (Keeps.refl w).alloc (.cells #[] 9)
  have hE := hid (show OLeft (w.alloc (.cells #[] 9)) w.heap.size (.slice (some ⟨w.heap.size, 0, none⟩) 0 0) [] from ⟨[], OwnS.empty w, rfl, by simp⟩)
  go_enter Tryz.func94, Tryz.ntmps94
  go_wp2
  go_loopw [3, 4] (fun r i' wr => ∃ k : Nat, k ≤ n ∧ i' = .int .i64 k ∧ (∃ b o n' c' R, r = .slice (some ⟨b, o, none⟩) n' c' ∧ OLeft wr w.heap.size (.slice (some ⟨b, o, none⟩) n' c') R ∧ (∀ a, a ∈ R ↔ a ∈ G.take k) ∧ wts R ≤ wts (G.take k) ∧ R.length ≤ k) ∧ Keeps w wr) (fun _ i _ => n - (intOf i).toNat)
  case atStart => exact ⟨0, by omega, rfl, ⟨_, _, _, _, [], rfl, hE.out, by simp, by simp [wts], by simp⟩, k0⟩
  case round =>
    obtain ⟨k, hk, rfl, ⟨b, o, n', c', R, rfl, hR, hmem, hwt, hlr⟩, kw⟩ := hrel
    by_cases hlt : k < n
    · have hlt' : (k : Int) < n := by omega
      have hkG : k < G.length := by have := HM.out; omega
      obtain ⟨b1, off, u1, rfl, hc, hu1⟩ := (HV.out.keeps kw).get k hkG
      have hok := hid (hG _ (List.getElem_mem hkG))
      have HT := hid (l02Text_any G[k] hok.out.1 hok.out.2 (by have := hlen _ (List.getElem_mem hkG); omega) u1 wr hu1)
      have htk := hid (show G.take (k + 1) = G.take k ++ [G[k]] from List.take_succ_eq_append_getElem hkG)
      obtain ⟨pu, nu, cu, rfl⟩ := hu1.shape
      have HI := hid (fun s (hs : bts s = G[k].body) w2 (k2 : Keeps wr w2) => l02Insert_any R G[k] b o n' c' s w.heap.size w2 (hR.keeps k2) hs (fun a ha => (hG a (List.mem_of_mem_take ((hmem a).1 ha))).1) hok.out.1 (by omega) (Nat.le_trans kw.size k2.size))
      clear hu1 hR
      go_wp2_with fail
      refine HT.out.mono ?_; rintro e w2 ⟨s, rfl, hs, k2⟩
      have HI2 := hid (HI.out s hs w2 k2)
      go_wp2_with fail
      refine HI2.out.mono ?_; rintro e w3 ⟨b', o', n2, c2, R', rfl, hR', hm', hw', hl', k3⟩
      go_wp2_with fail
      go_roundw
      case rel =>
        refine ⟨k + 1, by omega, by go_num, ⟨_, _, _, _, R', rfl, hR', ?_, ?_, by omega⟩, (kw.trans k2).trans k3⟩
        · intro a
          rw [hm' a, hmem a, htk.out, List.mem_append, List.mem_singleton]
        · rw [htk.out, wts_append]
          simp only [wts]
          omega
      case measure => simp [intOf]; omega
    · obtain rfl : k = n := by omega
      have hGk : G.take k = G := by have := HM.out; rw [this]; exact List.take_length
      rw [hGk] at hmem hwt
      have HA := hid (And.intro hR.left (And.intro hmem (And.intro hwt (show R.length ≤ G.length by have := HM.out; omega))))
      clear hR hmem hwt hGk
      have hlt' : ¬ ((k : Int) < k) := by omega
      go_wp2
      go_ret
      exact ⟨_, rfl, ⟨R, HA.out⟩, kw⟩
set_option maxRecDepth 20000 in
theorem l23Ok_any (G : List Fm) (c : Fm) (hG : OkL G) (hc : OkF c) (hlen : ∀ a ∈ G, a.enc.length ≤ 40) (hlc : c.enc.length ≤ 40) (hn : G.length ≤ 900) (hw : wts G + wt c ≤ 1000000000) (s : ByteArray) (v : Value) (w : World) (hv : Left w v G) (hs : bts s = c.body) :
    Calls Tryz.prog 93 #[v, .string s] w fun e w' => e = .returned (.bool (sqB G c)) ∧ Keeps w w' := by
  obtain ⟨p, n, cap, rfl⟩ := hv.shape
  have HF := hid (l22Formula_any c hc s w hs hlc)
  have HG := hid (fun w2 (k : Keeps w w2) => l22Formulas_any G hG hlen (by omega) _ w2 (hv.keeps k))
  have HS := hid (fun v u w2 (h1 : FsL w2 v G) (h2 : Nds w2 u c.enc) => l23Search_any G c hw (fun a ha => (hG a ha).2) hc.2 v u w2 h1 h2)
  clear hv hs
  go_enter Tryz.func93, Tryz.ntmps93
  go_wp2_with fail
  refine HF.out.mono ?_; rintro e w1 ⟨v1, rfl, hv1, k1⟩
  have hn1 := hid (hv1.nds (by omega))
  go_wp2_with fail
  refine (HG.out w1 k1).mono ?_; rintro e w2 ⟨v2, rfl, hv2, k2⟩
  go_wp2_with fail
  refine (HS.out _ _ w2 hv2 (hn1.out.keeps k2)).mono ?_; rintro e w3 ⟨rfl, k3⟩
  go_wp2_with fail
  go_ret
  exact ⟨rfl, (k1.trans k2).trans k3⟩
set_option maxRecDepth 20000 in
theorem l31Theorem_any (c : Fm) (hc : OkF c) (hlc : c.enc.length ≤ 20) (v : Value) (w : World) (hv : Nds w v c.enc) :
    Calls Tryz.prog 122 #[v] w fun e w' => e = .returned (.bool (sqB [] c)) ∧ Keeps w w' := by
  have kl := (Keeps.refl w).alloc (.cells #[] 9)
  have HT := hid (l02Text_any c hc.1 hc.2 (by omega) v _ (hv.keeps kl))
  have hE := hid (show Left (w.alloc (.cells #[] 9)) (.slice (some ⟨w.heap.size, 0, none⟩) 0 0) [] from ⟨[], (OwnS.empty w).strs (by simp), rfl⟩)
  have hw : wts [] + wt c ≤ 1000000000 := by
    have h1 := wt_le_pow c
    have h2 := pow_small (n := c.enc.length) (by omega)
    simp only [wts]; omega
  have HK := hid (fun s (hs : bts s = c.body) v w2 (h : Left w2 v []) => l23Ok_any [] c okL_nil hc (by simp) (by omega) (by simp) hw s v w2 h hs)
  clear hv hw
  go_enter Tryz.func122, Tryz.ntmps122
  go_wp2_with fail
  refine HT.out.mono ?_; rintro e w1 ⟨s, rfl, hs, k1⟩
  go_wp2_with fail
  refine (HK.out s hs _ w1 (hE.out.keeps k1)).mono ?_; rintro e w2 ⟨rfl, k2⟩
  go_wp2_with fail
  go_ret
  exact ⟨rfl, (kl.trans k1).trans k2⟩
end Go.Proofs.YtodeecmhcfbheaaGreat
