import Derived.Test.YtkkcfifnkcnceaaGreatHQ1
import Derived.Test.YtkkcfifnkcnceaaGreatHU1
import Derived.Test.YtkkcfifnkcnceaaGreatHP6
import Derived.Test.YtkkcfifnkcnceaaGreatHP4
/- The reference's text of a plain formula at a level. (printed by mkwrite.py) -/
namespace Go.Proofs.YtkkcfifnkcnceaaGreat
open Go.RowKit
def WrOk (t : Fm) : Prop := t.enc.length ≤ 100000000 → ∀ (l : Nat) (k : Int), k = (l : Int) → ∀ (v : Value) (w : World), Nds w v t.enc →
 Calls Tryz.prog 148 #[v, .int .i64 k] w fun e w' => ∃ s, e = .returned (.string s) ∧ bts s = t.txt l ∧ Keeps w w'
theorem txt_yes {t : Fm} {l : Nat} (h : t.lev < l) : t.txt l = 40 :: (t.body ++ [41]) := by simp only [Fm.txt, Fm.par]; rw [decide_eq_true h]; rfl
theorem txt_no {t : Fm} {l : Nat} (h : ¬ t.lev < l) : t.txt l = t.body := by simp only [Fm.txt, Fm.par]; rw [decide_eq_false h]; rfl
set_option maxRecDepth 20000 in
set_option maxHeartbeats 1000000 in
theorem wrAnd (x y : Fm) (hx : WrOk x) (hy : WrOk y) : WrOk (Fm.and x y) := by
 intro hL l k hk v w hv
 simp only [Fm.enc, List.length_cons, List.length_append] at hL
 have hv0 := hv
 obtain ⟨b, off, n, cap, rfl, h0, h1, h2, h3, hc, hsy⟩ := hv.root
 replace hc : w.cell? ⟨b, off, none⟩ = some (.int .i64 2) := hc
 have HX := hid (hx (by omega)); clear hx
 have HY := hid (hy (by omega)); clear hy
 by_cases hlv : (2 : Nat) < l
 ·rw [txt_yes (t := Fm.and x y) (show (2) < l from hlv)]
  have hkl : ((2 : Int) < k) := by omega
  clear hlv hk
  go_enter Tryz.func148, Tryz.ntmps148
  go_wp2_with fail
  refine (l02Left_any _ _ x y.enc _ _ hv0 rfl).mono ?_; rintro e w' ⟨v1, rfl, hv1, rfl⟩
  go_wp2_with fail
  refine (HX.out 2 _ rfl _ _ hv1).mono ?_; rintro e w1 ⟨s1, rfl, hs1, k1⟩
  have z1 := txt_size hs1 (by omega)
  go_wp2_with fail
  refine (l02Right_any _ _ x y _ _ (hv0.keeps k1) rfl).mono ?_; rintro e w' ⟨v2, rfl, hv2, rfl⟩
  go_wp2_with fail
  refine (HY.out 3 _ rfl _ _ hv2).mono ?_; rintro e w2 ⟨s2, rfl, hs2, k2⟩
  have z2 := txt_size hs2 (by omega)
  go_wp2_with fail
  go_ret
  exact ⟨_, rfl, by simp only [bts_append, hs1, hs2, Fm.body, Fm.txt, List.append_assoc]; rfl, k1.trans k2⟩
 ·rw [txt_no (t := Fm.and x y) (show ¬ (2) < l from hlv)]
  have hkl : ¬ ((2 : Int) < k) := by omega
  clear hlv hk
  go_enter Tryz.func148, Tryz.ntmps148
  go_wp2_with fail
  refine (l02Left_any _ _ x y.enc _ _ hv0 rfl).mono ?_; rintro e w' ⟨v1, rfl, hv1, rfl⟩
  go_wp2_with fail
  refine (HX.out 2 _ rfl _ _ hv1).mono ?_; rintro e w1 ⟨s1, rfl, hs1, k1⟩
  have z1 := txt_size hs1 (by omega)
  go_wp2_with fail
  refine (l02Right_any _ _ x y _ _ (hv0.keeps k1) rfl).mono ?_; rintro e w' ⟨v2, rfl, hv2, rfl⟩
  go_wp2_with fail
  refine (HY.out 3 _ rfl _ _ hv2).mono ?_; rintro e w2 ⟨s2, rfl, hs2, k2⟩
  have z2 := txt_size hs2 (by omega)
  go_wp2_with fail
  go_ret
  exact ⟨_, rfl, by simp only [bts_append, hs1, hs2, Fm.body, Fm.txt, List.append_assoc]; rfl, k1.trans k2⟩
set_option maxRecDepth 20000 in
set_option maxHeartbeats 1000000 in
theorem wrOr (x y : Fm) (hx : WrOk x) (hy : WrOk y) : WrOk (Fm.or x y) := by
 intro hL l k hk v w hv
 simp only [Fm.enc, List.length_cons, List.length_append] at hL
 have hv0 := hv
 obtain ⟨b, off, n, cap, rfl, h0, h1, h2, h3, hc, hsy⟩ := hv.root
 replace hc : w.cell? ⟨b, off, none⟩ = some (.int .i64 3) := hc
 have HX := hid (hx (by omega)); clear hx
 have HY := hid (hy (by omega)); clear hy
 by_cases hlv : (1 : Nat) < l
 ·rw [txt_yes (t := Fm.or x y) (show (1) < l from hlv)]
  have hkl : ((1 : Int) < k) := by omega
  clear hlv hk
  go_enter Tryz.func148, Tryz.ntmps148
  go_wp2_with fail
  refine (l02Left_any _ _ x y.enc _ _ hv0 rfl).mono ?_; rintro e w' ⟨v1, rfl, hv1, rfl⟩
  go_wp2_with fail
  refine (HX.out 1 _ rfl _ _ hv1).mono ?_; rintro e w1 ⟨s1, rfl, hs1, k1⟩
  have z1 := txt_size hs1 (by omega)
  go_wp2_with fail
  refine (l02Right_any _ _ x y _ _ (hv0.keeps k1) rfl).mono ?_; rintro e w' ⟨v2, rfl, hv2, rfl⟩
  go_wp2_with fail
  refine (HY.out 2 _ rfl _ _ hv2).mono ?_; rintro e w2 ⟨s2, rfl, hs2, k2⟩
  have z2 := txt_size hs2 (by omega)
  go_wp2_with fail
  go_ret
  exact ⟨_, rfl, by simp only [bts_append, hs1, hs2, Fm.body, Fm.txt, List.append_assoc]; rfl, k1.trans k2⟩
 ·rw [txt_no (t := Fm.or x y) (show ¬ (1) < l from hlv)]
  have hkl : ¬ ((1 : Int) < k) := by omega
  clear hlv hk
  go_enter Tryz.func148, Tryz.ntmps148
  go_wp2_with fail
  refine (l02Left_any _ _ x y.enc _ _ hv0 rfl).mono ?_; rintro e w' ⟨v1, rfl, hv1, rfl⟩
  go_wp2_with fail
  refine (HX.out 1 _ rfl _ _ hv1).mono ?_; rintro e w1 ⟨s1, rfl, hs1, k1⟩
  have z1 := txt_size hs1 (by omega)
  go_wp2_with fail
  refine (l02Right_any _ _ x y _ _ (hv0.keeps k1) rfl).mono ?_; rintro e w' ⟨v2, rfl, hv2, rfl⟩
  go_wp2_with fail
  refine (HY.out 2 _ rfl _ _ hv2).mono ?_; rintro e w2 ⟨s2, rfl, hs2, k2⟩
  have z2 := txt_size hs2 (by omega)
  go_wp2_with fail
  go_ret
  exact ⟨_, rfl, by simp only [bts_append, hs1, hs2, Fm.body, Fm.txt, List.append_assoc]; rfl, k1.trans k2⟩
set_option maxRecDepth 20000 in
set_option maxHeartbeats 1000000 in
theorem wrFls : WrOk (Fm.fls) := by
 intro hL l k hk v w hv
 simp only [Fm.enc, List.length_cons] at hL
 have hv0 := hv
 obtain ⟨b, off, n, cap, rfl, h0, h1, h2, h3, hc, hsy⟩ := hv.root
 replace hc : w.cell? ⟨b, off, none⟩ = some (.int .i64 1) := hc
 by_cases hlv : (3 : Nat) < l
 ·rw [txt_yes (t := Fm.fls) (show (3) < l from hlv)]
  have hkl : ((3 : Int) < k) := by omega
  clear hlv hk
  go_enter Tryz.func148, Tryz.ntmps148
  go_wp2_with fail
  go_ret
  exact ⟨_, rfl, rfl, Keeps.refl _⟩
 ·rw [txt_no (t := Fm.fls) (show ¬ (3) < l from hlv)]
  have hkl : ¬ ((3 : Int) < k) := by omega
  clear hlv hk
  go_enter Tryz.func148, Tryz.ntmps148
  go_wp2_with fail
  go_ret
  exact ⟨_, rfl, rfl, Keeps.refl _⟩
set_option maxRecDepth 20000 in
set_option maxHeartbeats 1000000 in
theorem wrImp (x y : Fm) (hf : y.isFls = false) (hx : WrOk x) (hy : WrOk y) : WrOk (Fm.imp x y) := by
 intro hL l k hk v w hv
 simp only [Fm.enc, List.length_cons, List.length_append] at hL
 have hv0 := hv
 obtain ⟨b, off, n, cap, rfl, h0, h1, h2, h3, hc, hsy⟩ := hv.root
 replace hc : w.cell? ⟨b, off, none⟩ = some (.int .i64 4) := hc
 have HX := hid (hx (by omega)); clear hx
 have HY := hid (hy (by omega)); clear hy
 have hB : (Fm.imp x y).body = x.txt 1 ++ 62 :: y.body := by simp [Fm.body, Fm.txt, hf]
 have hE : decide ((Fm.imp x y).enc = (Fm.imp Fm.fls Fm.fls).enc) = false := decide_eq_false (fun h => by cases enc_inj h; cases hf)
 have hlv0 : (Fm.imp x y).lev = 0 := by simp [Fm.lev, hf]
 have hkd : (y.kind == 1) = false := by cases y <;> first | rfl | (cases hf)
 have HEQ := hid hE; clear hE
 have HB := hid hB; clear hB
 by_cases hlv : (0 : Nat) < l
 ·rw [txt_yes (t := Fm.imp x y) (by rw [hlv0]; exact hlv)]
  have hkl : ((0 : Int) < k) := by omega
  clear hlv hk
  go_enter Tryz.func148, Tryz.ntmps148
  go_wp2_with fail
  refine (l02True_any w).mono ?_; rintro e wt ⟨vt, rfl, hvt, kt⟩
  go_wp2_with fail
  refine (l02Equal_any _ _ _ _ wt (hv0.keeps kt) (hvt.nds (by simp [Fm.enc]))).mono ?_; rintro e we ⟨rfl, ke⟩
  rw [HEQ.out]
  have k0 := kt.trans ke
  go_wp2_with fail
  refine (l02Right_any _ _ x y _ _ (hv0.keeps k0) rfl).mono ?_; rintro e w' ⟨vy, rfl, hvy, rfl⟩
  obtain ⟨by', oy, ny, cy, rfl, g0, g1, g2, g3, gk, _⟩ := hvy.root
  go_wp2_with fail
  refine (l02Left_any _ _ x y.enc _ _ (hv0.keeps k0) rfl).mono ?_; rintro e w' ⟨v1, rfl, hv1, rfl⟩
  go_wp2_with fail
  refine (HX.out 1 _ rfl _ _ hv1).mono ?_; rintro e w1 ⟨s1, rfl, hs1, k1⟩
  have z1 := txt_size hs1 (by omega)
  go_wp2_with fail
  refine (l02Right_any _ _ x y _ _ ((hv0.keeps k0).keeps k1) rfl).mono ?_; rintro e w' ⟨v2, rfl, hv2, rfl⟩
  go_wp2_with fail
  refine (HY.out 0 _ rfl _ _ hv2).mono ?_; rintro e w2 ⟨s2, rfl, hs2, k2⟩
  have z2 := txt_size hs2 (by omega)
  go_wp2_with fail
  go_ret
  exact ⟨_, rfl, by rw [HB.out]; simp only [bts_append, hs1, hs2, Fm.txt0, List.append_assoc]; rfl, k0.trans (k1.trans k2)⟩
 ·rw [txt_no (t := Fm.imp x y) (by rw [hlv0]; exact hlv)]
  have hkl : ¬ ((0 : Int) < k) := by omega
  clear hlv hk
  go_enter Tryz.func148, Tryz.ntmps148
  go_wp2_with fail
  refine (l02True_any w).mono ?_; rintro e wt ⟨vt, rfl, hvt, kt⟩
  go_wp2_with fail
  refine (l02Equal_any _ _ _ _ wt (hv0.keeps kt) (hvt.nds (by simp [Fm.enc]))).mono ?_; rintro e we ⟨rfl, ke⟩
  rw [HEQ.out]
  have k0 := kt.trans ke
  go_wp2_with fail
  refine (l02Right_any _ _ x y _ _ (hv0.keeps k0) rfl).mono ?_; rintro e w' ⟨vy, rfl, hvy, rfl⟩
  obtain ⟨by', oy, ny, cy, rfl, g0, g1, g2, g3, gk, _⟩ := hvy.root
  go_wp2_with fail
  refine (l02Left_any _ _ x y.enc _ _ (hv0.keeps k0) rfl).mono ?_; rintro e w' ⟨v1, rfl, hv1, rfl⟩
  go_wp2_with fail
  refine (HX.out 1 _ rfl _ _ hv1).mono ?_; rintro e w1 ⟨s1, rfl, hs1, k1⟩
  have z1 := txt_size hs1 (by omega)
  go_wp2_with fail
  refine (l02Right_any _ _ x y _ _ ((hv0.keeps k0).keeps k1) rfl).mono ?_; rintro e w' ⟨v2, rfl, hv2, rfl⟩
  go_wp2_with fail
  refine (HY.out 0 _ rfl _ _ hv2).mono ?_; rintro e w2 ⟨s2, rfl, hs2, k2⟩
  have z2 := txt_size hs2 (by omega)
  go_wp2_with fail
  go_ret
  exact ⟨_, rfl, by rw [HB.out]; simp only [bts_append, hs1, hs2, Fm.txt0, List.append_assoc]; rfl, k0.trans (k1.trans k2)⟩
set_option maxRecDepth 20000 in
set_option maxHeartbeats 1000000 in
theorem wrNeg (x : Fm) (hx1 : x.isFls = false) (hx : WrOk x) : WrOk (Fm.imp x Fm.fls) := by
 intro hL l k hk v w hv
 simp only [Fm.enc, List.length_cons, List.length_append] at hL
 have hv0 := hv
 obtain ⟨b, off, n, cap, rfl, h0, h1, h2, h3, hc, hsy⟩ := hv.root
 replace hc : w.cell? ⟨b, off, none⟩ = some (.int .i64 4) := hc
 have HX := hid (hx (by omega)); clear hx
 have hB : (Fm.imp x Fm.fls).body = 126 :: x.txt 3 := by have hf : Fm.fls.isFls = true := rfl; simp [Fm.body, Fm.txt, hf, hx1]
 have hE : decide ((Fm.imp x Fm.fls).enc = (Fm.imp Fm.fls Fm.fls).enc) = false := decide_eq_false (fun h => by cases enc_inj h; cases hx1)
 have hlv0 : (Fm.imp x Fm.fls).lev = 3 := rfl
 have HEQ := hid hE; clear hE
 have HB := hid hB; clear hB hx1
 by_cases hlv : (3 : Nat) < l
 ·rw [txt_yes (t := Fm.imp x Fm.fls) (by rw [hlv0]; exact hlv)]
  have hkl : ((3 : Int) < k) := by omega
  clear hlv hk
  go_enter Tryz.func148, Tryz.ntmps148
  go_wp2_with fail
  refine (l02True_any w).mono ?_; rintro e wt ⟨vt, rfl, hvt, kt⟩
  go_wp2_with fail
  refine (l02Equal_any _ _ _ _ wt (hv0.keeps kt) (hvt.nds (by simp [Fm.enc]))).mono ?_; rintro e we ⟨rfl, ke⟩
  rw [HEQ.out]
  have k0 := kt.trans ke
  go_wp2_with fail
  refine (l02Right_any _ _ x Fm.fls _ _ (hv0.keeps k0) rfl).mono ?_; rintro e w' ⟨vy, rfl, hvy, rfl⟩
  obtain ⟨by', oy, ny, cy, rfl, g0, g1, g2, g3, gk, _⟩ := hvy.root
  replace gk : we.cell? ⟨by', oy, none⟩ = some (.int .i64 1) := gk
  go_wp2_with fail
  refine (l02Left_any _ _ x Fm.fls.enc _ _ (hv0.keeps k0) rfl).mono ?_; rintro e w' ⟨v1, rfl, hv1, rfl⟩
  go_wp2_with fail
  refine (HX.out 3 _ rfl _ _ hv1).mono ?_; rintro e w1 ⟨s1, rfl, hs1, k1⟩
  have z1 := txt_size hs1 (by omega)
  go_wp2_with fail
  go_ret
  exact ⟨_, rfl, by rw [HB.out]; simp only [bts_append, hs1]; rfl, k0.trans k1⟩
 ·rw [txt_no (t := Fm.imp x Fm.fls) (by rw [hlv0]; exact hlv)]
  have hkl : ¬ ((3 : Int) < k) := by omega
  clear hlv hk
  go_enter Tryz.func148, Tryz.ntmps148
  go_wp2_with fail
  refine (l02True_any w).mono ?_; rintro e wt ⟨vt, rfl, hvt, kt⟩
  go_wp2_with fail
  refine (l02Equal_any _ _ _ _ wt (hv0.keeps kt) (hvt.nds (by simp [Fm.enc]))).mono ?_; rintro e we ⟨rfl, ke⟩
  rw [HEQ.out]
  have k0 := kt.trans ke
  go_wp2_with fail
  refine (l02Right_any _ _ x Fm.fls _ _ (hv0.keeps k0) rfl).mono ?_; rintro e w' ⟨vy, rfl, hvy, rfl⟩
  obtain ⟨by', oy, ny, cy, rfl, g0, g1, g2, g3, gk, _⟩ := hvy.root
  replace gk : we.cell? ⟨by', oy, none⟩ = some (.int .i64 1) := gk
  go_wp2_with fail
  refine (l02Left_any _ _ x Fm.fls.enc _ _ (hv0.keeps k0) rfl).mono ?_; rintro e w' ⟨v1, rfl, hv1, rfl⟩
  go_wp2_with fail
  refine (HX.out 3 _ rfl _ _ hv1).mono ?_; rintro e w1 ⟨s1, rfl, hs1, k1⟩
  have z1 := txt_size hs1 (by omega)
  go_wp2_with fail
  go_ret
  exact ⟨_, rfl, by rw [HB.out]; simp only [bts_append, hs1]; rfl, k0.trans k1⟩
set_option maxRecDepth 20000 in
set_option maxHeartbeats 1000000 in
theorem wrTop : WrOk (Fm.imp Fm.fls Fm.fls) := by
 intro hL l k hk v w hv
 simp only [Fm.enc, List.length_cons, List.length_append] at hL
 have hv0 := hv
 obtain ⟨b, off, n, cap, rfl, h0, h1, h2, h3, hc, hsy⟩ := hv.root
 replace hc : w.cell? ⟨b, off, none⟩ = some (.int .i64 4) := hc
 by_cases hlv : (3 : Nat) < l
 ·rw [txt_yes (t := Fm.imp Fm.fls Fm.fls) (show (3) < l from hlv)]
  have hkl : ((3 : Int) < k) := by omega
  clear hlv hk
  go_enter Tryz.func148, Tryz.ntmps148
  go_wp2_with fail
  refine (l02True_any w).mono ?_; rintro e wt ⟨vt, rfl, hvt, kt⟩
  go_wp2_with fail
  refine (l02Equal_any _ _ _ _ wt (hv0.keeps kt) (hvt.nds (by simp [Fm.enc]))).mono ?_; rintro e we ⟨rfl, ke⟩
  rw [show decide ((Fm.imp Fm.fls Fm.fls).enc = (Fm.imp Fm.fls Fm.fls).enc) = true from decide_eq_true rfl]
  have k0 := kt.trans ke
  go_wp2_with fail
  go_ret
  exact ⟨_, rfl, rfl, k0⟩
 ·rw [txt_no (t := Fm.imp Fm.fls Fm.fls) (show ¬ (3) < l from hlv)]
  have hkl : ¬ ((3 : Int) < k) := by omega
  clear hlv hk
  go_enter Tryz.func148, Tryz.ntmps148
  go_wp2_with fail
  refine (l02True_any w).mono ?_; rintro e wt ⟨vt, rfl, hvt, kt⟩
  go_wp2_with fail
  refine (l02Equal_any _ _ _ _ wt (hv0.keeps kt) (hvt.nds (by simp [Fm.enc]))).mono ?_; rintro e we ⟨rfl, ke⟩
  rw [show decide ((Fm.imp Fm.fls Fm.fls).enc = (Fm.imp Fm.fls Fm.fls).enc) = true from decide_eq_true rfl]
  have k0 := kt.trans ke
  go_wp2_with fail
  go_ret
  exact ⟨_, rfl, rfl, k0⟩
set_option maxRecDepth 20000 in
set_option maxHeartbeats 1000000 in
theorem wrVar (i : Nat) (hi : i < 6) : WrOk (.var i) := by
 intro hL l k hk v w hv
 simp only [Fm.enc, List.length_cons] at hL
 have hv0 := hv
 obtain ⟨b, off, n, cap, rfl, h0, h1, h2, h3, hc, hsy⟩ := hv.root
 replace hc : w.cell? ⟨b, off, none⟩ = some (.int .i64 0) := hc
 replace hsy : w.cell? ⟨b, off + 1, none⟩ = some (.int .i64 (i : Int)) := hsy
 have hcase : i = 0 ∨ i = 1 ∨ i = 2 ∨ i = 3 ∨ i = 4 ∨ i = 5 := by omega
 by_cases hlv : (3 : Nat) < l
 ·rw [txt_yes (t := Fm.var i) (show (3) < l from hlv)]
  have hkl : ((3 : Int) < k) := by omega
  clear hlv hk
  rcases hcase with rfl | rfl | rfl | rfl | rfl | rfl
  ·replace hsy : w.cell? ⟨b, off + 1, none⟩ = some (.int .i64 0) := hsy
   go_enter Tryz.func148, Tryz.ntmps148
   go_wp2_with fail
   go_quiet (fail)
   go_wp2_with fail
   go_ret
   refine ⟨_, rfl, ?_, ?_⟩
   ·decide
   ·exact Keeps.drewN (Keeps.refl _) _
  ·replace hsy : w.cell? ⟨b, off + 1, none⟩ = some (.int .i64 1) := hsy
   go_enter Tryz.func148, Tryz.ntmps148
   go_wp2_with fail
   go_quiet (fail)
   go_wp2_with fail
   go_ret
   refine ⟨_, rfl, ?_, ?_⟩
   ·decide
   ·exact Keeps.drewN (Keeps.refl _) _
  ·replace hsy : w.cell? ⟨b, off + 1, none⟩ = some (.int .i64 2) := hsy
   go_enter Tryz.func148, Tryz.ntmps148
   go_wp2_with fail
   go_quiet (fail)
   go_wp2_with fail
   go_ret
   refine ⟨_, rfl, ?_, ?_⟩
   ·decide
   ·exact Keeps.drewN (Keeps.refl _) _
  ·replace hsy : w.cell? ⟨b, off + 1, none⟩ = some (.int .i64 3) := hsy
   go_enter Tryz.func148, Tryz.ntmps148
   go_wp2_with fail
   go_quiet (fail)
   go_wp2_with fail
   go_ret
   refine ⟨_, rfl, ?_, ?_⟩
   ·decide
   ·exact Keeps.drewN (Keeps.refl _) _
  ·replace hsy : w.cell? ⟨b, off + 1, none⟩ = some (.int .i64 4) := hsy
   go_enter Tryz.func148, Tryz.ntmps148
   go_wp2_with fail
   go_quiet (fail)
   go_wp2_with fail
   go_ret
   refine ⟨_, rfl, ?_, ?_⟩
   ·decide
   ·exact Keeps.drewN (Keeps.refl _) _
  ·replace hsy : w.cell? ⟨b, off + 1, none⟩ = some (.int .i64 5) := hsy
   go_enter Tryz.func148, Tryz.ntmps148
   go_wp2_with fail
   go_quiet (fail)
   go_wp2_with fail
   go_ret
   refine ⟨_, rfl, ?_, ?_⟩
   ·decide
   ·exact Keeps.drewN (Keeps.refl _) _
 ·rw [txt_no (t := Fm.var i) (show ¬ (3) < l from hlv)]
  have hkl : ¬ ((3 : Int) < k) := by omega
  clear hlv hk
  rcases hcase with rfl | rfl | rfl | rfl | rfl | rfl
  ·replace hsy : w.cell? ⟨b, off + 1, none⟩ = some (.int .i64 0) := hsy
   go_enter Tryz.func148, Tryz.ntmps148
   go_wp2_with fail
   go_quiet (fail)
   go_wp2_with fail
   go_ret
   refine ⟨_, rfl, ?_, ?_⟩
   ·decide
   ·exact Keeps.drewN (Keeps.refl _) _
  ·replace hsy : w.cell? ⟨b, off + 1, none⟩ = some (.int .i64 1) := hsy
   go_enter Tryz.func148, Tryz.ntmps148
   go_wp2_with fail
   go_quiet (fail)
   go_wp2_with fail
   go_ret
   refine ⟨_, rfl, ?_, ?_⟩
   ·decide
   ·exact Keeps.drewN (Keeps.refl _) _
  ·replace hsy : w.cell? ⟨b, off + 1, none⟩ = some (.int .i64 2) := hsy
   go_enter Tryz.func148, Tryz.ntmps148
   go_wp2_with fail
   go_quiet (fail)
   go_wp2_with fail
   go_ret
   refine ⟨_, rfl, ?_, ?_⟩
   ·decide
   ·exact Keeps.drewN (Keeps.refl _) _
  ·replace hsy : w.cell? ⟨b, off + 1, none⟩ = some (.int .i64 3) := hsy
   go_enter Tryz.func148, Tryz.ntmps148
   go_wp2_with fail
   go_quiet (fail)
   go_wp2_with fail
   go_ret
   refine ⟨_, rfl, ?_, ?_⟩
   ·decide
   ·exact Keeps.drewN (Keeps.refl _) _
  ·replace hsy : w.cell? ⟨b, off + 1, none⟩ = some (.int .i64 4) := hsy
   go_enter Tryz.func148, Tryz.ntmps148
   go_wp2_with fail
   go_quiet (fail)
   go_wp2_with fail
   go_ret
   refine ⟨_, rfl, ?_, ?_⟩
   ·decide
   ·exact Keeps.drewN (Keeps.refl _) _
  ·replace hsy : w.cell? ⟨b, off + 1, none⟩ = some (.int .i64 5) := hsy
   go_enter Tryz.func148, Tryz.ntmps148
   go_wp2_with fail
   go_quiet (fail)
   go_wp2_with fail
   go_ret
   refine ⟨_, rfl, ?_, ?_⟩
   ·decide
   ·exact Keeps.drewN (Keeps.refl _) _
end Go.Proofs.YtkkcfifnkcnceaaGreat
namespace Go.Proofs.YtkkcfifnkcnceaaGreat
open Go.RowKit
set_option maxRecDepth 20000 in
set_option maxHeartbeats 1000000 in
theorem wrBox (x : Fm) (hx : WrOk x) : WrOk (Fm.box x) := by
 intro hL l k hk v w hv
 have hle1 : (Fm.box x).enc.length = x.enc.length + 1 := by simp only [Fm.enc, List.length_cons]
 have hp := Fm.enc_pos x
 have hv0 := hv
 obtain ⟨b, off, n, cap, rfl, h0, h1, h2, h3, hc, hsy⟩ := hv.root
 replace hc : w.cell? ⟨b, off, none⟩ = some (.int .i64 5) := hc
 obtain ⟨hn, hat⟩ : n = (Fm.box x).enc.length ∧ At w (some ⟨b, off, none⟩) (ndCells (Fm.box x).enc) := by
  obtain ⟨p', c', e, _, _, hat, _⟩ := hv0
  cases e
  exact ⟨rfl, hat⟩
 have HVs := hid (fun o n' c' (ho : o = off + 1 * 2) (hn' : n' = n - 1) (hc1 : n' ≤ c') (hc2 : c' ≤ maxLen) => (Nds.sub (w := w) (l := [⟨5, 0⟩]) (m := x.enc) (r := []) (b := b) (off := off) (o := o) (n := n') (cap := c') (by simpa [Fm.enc] using hat) (by omega) (by simpa using ho) (by omega) hc1 hc2))
 have HX := hid (hx (by omega)); clear hx
 have hB : (Fm.box x).body = 91 :: 93 :: x.txt 3 := rfl
 have hlv0 : (Fm.box x).lev = 3 := rfl
 have HB := hid hB; clear hB hat hv hv0
 have hc1 : ¬ cap = 1 := by omega
 unfold maxLen at h2
 by_cases hlv : (3 : Nat) < l
 ·rw [txt_yes (t := Fm.box x) (by rw [hlv0]; exact hlv)]
  have hkl : ((3 : Int) < k) := by omega
  clear hlv hk
  go_enter Tryz.func148, Tryz.ntmps148
  go_wp2_with fail
  refine (HX.out 3 _ rfl _ _ (HVs.out _ _ _ (by first | rfl | omega) (by omega) (by omega) (by unfold maxLen; omega))).mono ?_; rintro e w1 ⟨s1, rfl, hs1, k1⟩
  have z1 := txt_size hs1 (by omega)
  go_wp2_with fail
  go_ret
  exact ⟨_, rfl, by rw [HB.out]; simp only [bts_append, hs1]; rfl, k1⟩
 ·rw [txt_no (t := Fm.box x) (by rw [hlv0]; exact hlv)]
  have hkl : ¬ ((3 : Int) < k) := by omega
  clear hlv hk
  go_enter Tryz.func148, Tryz.ntmps148
  go_wp2_with fail
  refine (HX.out 3 _ rfl _ _ (HVs.out _ _ _ (by first | rfl | omega) (by omega) (by omega) (by unfold maxLen; omega))).mono ?_; rintro e w1 ⟨s1, rfl, hs1, k1⟩
  have z1 := txt_size hs1 (by omega)
  go_wp2_with fail
  go_ret
  exact ⟨_, rfl, by rw [HB.out]; simp only [bts_append, hs1]; rfl, k1⟩
set_option maxRecDepth 20000 in
set_option maxHeartbeats 1000000 in
theorem wrDia (x : Fm) (hx : WrOk x) : WrOk (Fm.dia x) := by
 intro hL l k hk v w hv
 have hle1 : (Fm.dia x).enc.length = x.enc.length + 1 := by simp only [Fm.enc, List.length_cons]
 have hp := Fm.enc_pos x
 have hv0 := hv
 obtain ⟨b, off, n, cap, rfl, h0, h1, h2, h3, hc, hsy⟩ := hv.root
 replace hc : w.cell? ⟨b, off, none⟩ = some (.int .i64 6) := hc
 obtain ⟨hn, hat⟩ : n = (Fm.dia x).enc.length ∧ At w (some ⟨b, off, none⟩) (ndCells (Fm.dia x).enc) := by
  obtain ⟨p', c', e, _, _, hat, _⟩ := hv0
  cases e
  exact ⟨rfl, hat⟩
 have HVs := hid (fun o n' c' (ho : o = off + 1 * 2) (hn' : n' = n - 1) (hc1 : n' ≤ c') (hc2 : c' ≤ maxLen) => (Nds.sub (w := w) (l := [⟨6, 0⟩]) (m := x.enc) (r := []) (b := b) (off := off) (o := o) (n := n') (cap := c') (by simpa [Fm.enc] using hat) (by omega) (by simpa using ho) (by omega) hc1 hc2))
 have HX := hid (hx (by omega)); clear hx
 have hB : (Fm.dia x).body = 60 :: 62 :: x.txt 3 := rfl
 have hlv0 : (Fm.dia x).lev = 3 := rfl
 have HB := hid hB; clear hB hat hv hv0
 have hc1 : ¬ cap = 1 := by omega
 unfold maxLen at h2
 by_cases hlv : (3 : Nat) < l
 ·rw [txt_yes (t := Fm.dia x) (by rw [hlv0]; exact hlv)]
  have hkl : ((3 : Int) < k) := by omega
  clear hlv hk
  go_enter Tryz.func148, Tryz.ntmps148
  go_wp2_with fail
  refine (HX.out 3 _ rfl _ _ (HVs.out _ _ _ (by first | rfl | omega) (by omega) (by omega) (by unfold maxLen; omega))).mono ?_; rintro e w1 ⟨s1, rfl, hs1, k1⟩
  have z1 := txt_size hs1 (by omega)
  go_wp2_with fail
  go_ret
  exact ⟨_, rfl, by rw [HB.out]; simp only [bts_append, hs1]; rfl, k1⟩
 ·rw [txt_no (t := Fm.dia x) (by rw [hlv0]; exact hlv)]
  have hkl : ¬ ((3 : Int) < k) := by omega
  clear hlv hk
  go_enter Tryz.func148, Tryz.ntmps148
  go_wp2_with fail
  refine (HX.out 3 _ rfl _ _ (HVs.out _ _ _ (by first | rfl | omega) (by omega) (by omega) (by unfold maxLen; omega))).mono ?_; rintro e w1 ⟨s1, rfl, hs1, k1⟩
  have z1 := txt_size hs1 (by omega)
  go_wp2_with fail
  go_ret
  exact ⟨_, rfl, by rw [HB.out]; simp only [bts_append, hs1]; rfl, k1⟩
theorem wrOkA (t : Fm) (hw : t.wf) : WrOk t := by
 induction t with
 | var i => exact wrVar i hw
 | fls => exact wrFls
 | and x y hx hy => exact wrAnd x y (hx hw.1) (hy hw.2)
 | or x y hx hy => exact wrOr x y (hx hw.1) (hy hw.2)
 | box x hx => exact wrBox x (hx hw)
 | dia x hx => exact wrDia x (hx hw)
 | imp x y hx hy =>
  cases hf : y.isFls
  ·exact wrImp x y hf (hx hw.1) (hy hw.2)
  ·cases y <;> simp [Fm.isFls] at hf
   cases hx1 : x.isFls
   ·exact wrNeg x hx1 (hx hw.1)
   ·cases x <;> simp [Fm.isFls] at hx1
    exact wrTop
theorem l02TextA (t : Fm) (hw : t.wf) (hl : t.enc.length ≤ 100000000) (v : Value) (w : World) (hv : Nds w v t.enc) :
  Calls Tryz.prog 105 #[v] w fun e w' => ∃ s, e = .returned (.string s) ∧ bts s = t.body ∧ Keeps w w' := by
 have H := hid (wrOkA t hw hl 0 0 rfl v w hv)
 go_enter Tryz.func105, Tryz.ntmps105
 go_wp2_with fail
 refine H.out.mono ?_; rintro e w1 ⟨s, rfl, hs, k1⟩
 go_wp2_with fail
 go_ret
 exact ⟨_, rfl, by rw [hs, Fm.txt0], k1⟩
end Go.Proofs.YtkkcfifnkcnceaaGreat
namespace Go.Proofs.YtkkcfifnkcnceaaGreat
open Go.RowKit
def TakeA (w : World) (r : Nat) (s : ByteArray) (i : Nat) (bad : Bool) (e : Ending) (w' : World) : Prop :=
 (e = .returned (.bool true) ∧ bad = false ∧ i < s.size ∧ RdAt w' r s (i + 1) false ∧ w.grownBy w' (some r)) ∨ (e = .returned (.bool false) ∧ RdAt w' r s i bad ∧ Keeps w w')
def RetA (w : World) (r : Nat) (s : ByteArray) (i : Nat) (e : Ending) (w' : World) : Prop :=
 ∃ (v : Value) (t : Fm) (j : Nat) (bad : Bool), e = .returned v ∧ t.wf ∧ OwnN w' w.heap.size v t.enc ∧ RdAt w' r s j bad ∧ i ≤ j ∧ t.enc.length ≤ 3 * (j - i) + 1 ∧ w.grownBy w' (some r)
def LoopA (w : World) (r : Nat) (s : ByteArray) (i : Nat) (v : Value) (w' : World) : Prop :=
 ∃ (t : Fm) (j : Nat) (bad : Bool), t.wf ∧ OwnN w' w.heap.size v t.enc ∧ RdAt w' r s j bad ∧ i ≤ j ∧ t.enc.length ≤ 3 * (j - i) + 1 ∧ w.grownBy w' (some r)
def NeedA (w : World) (r : Nat) (s : ByteArray) (i : Nat) (e : Ending) (w' : World) : Prop :=
 ∃ (j : Nat) (bad : Bool), e = .returned (.tuple #[]) ∧ i ≤ j ∧ RdAt w' r s j bad ∧ w.grownBy w' (some r)
def ReadA (f : FuncId) (m : Nat) : Prop :=
 ∀ (w : World) (r : Nat) (s : ByteArray) (i : Nat) (bad : Bool), RdAt w r s i bad → s.size ≤ 10000000 → s.size - i ≤ m → Calls Tryz.prog f #[.pointer (some ⟨r, 0, none⟩)] w (RetA w r s i)
theorem RdAt.spoiled {w : World} {r : Nat} {s : ByteArray} {i : Nat} {bad : Bool} (h : RdAt w r s i bad) : RdAt (w.setCell ⟨r, 2, none⟩ (.bool true)) r s i true := by
 refine ⟨?_, ?_, ?_, ?_, ?_, h.le, h.sz⟩
 ·exact (World.cell?_setCell_other (a := ⟨r, 2, none⟩) (b := ⟨r, 0, none⟩) (h := by simp) ..).trans h.c0
 ·exact (World.cell?_setCell_other (a := ⟨r, 2, none⟩) (b := ⟨r, 1, none⟩) (h := by simp) ..).trans h.c1
 ·exact World.cell?_setCell_same (h := h.c2) ..
 ·rw [World.frozen?_setCell]; exact h.f1
 ·rw [World.frozen?_setCell]; exact h.f2
theorem run_next_end_at {P : Program} (w : World) (g : Nat) (s : ByteArray) (pos : Nat) (ty : TypeId) (hh : w.heap[g]? = some (.stringIter s pos)) (h : ¬ pos < s.size) :
  (Instr.next (.pointer (some ⟨g, 0, none⟩)) true ty).run P w = .ok (.tuple #[.bool false]) w := by
 simp [Instr.next, getObj, Sem.run, hh, h]
set_option maxRecDepth 20000 in
set_option maxHeartbeats 1000000 in
theorem take_bad {w : World} {r : Nat} {s : ByteArray} {i : Nat} {k : Int} (h : RdAt w r s i true) :
  Calls Tryz.prog 195 #[.pointer (some ⟨r, 0, none⟩), .int .u8 k] w fun e w' => e = .returned (.bool false) ∧ RdAt w' r s i true ∧ Keeps w w' := by
 have hm := fun n => h.keeps ((Keeps.refl w).drewN n)
 obtain ⟨c0, c1, c2, f1, f2, le, sz⟩ := h
 go_enter Tryz.func195, Tryz.ntmps195
 go_wp2_with fail
 go_quiet (fail)
 go_wp2_with fail
 go_ret
 exact ⟨rfl, hm _, (Keeps.refl w).drewN _⟩
theorem take_any (b : UInt8) {w : World} {r : Nat} {s : ByteArray} {i : Nat} {bad : Bool} {k : Int} (h : RdAt w r s i bad) (hk : k = (b.toNat : Int)) :
  Calls Tryz.prog 195 #[.pointer (some ⟨r, 0, none⟩), .int .u8 k] w (TakeA w r s i bad) := by
 cases bad with
 | true => exact (take_bad h).mono fun e w' ⟨h1, h2, h3⟩ => .inr ⟨h1, h2, h3⟩
 | false =>
  by_cases hh : ((bts s).drop i).head? = some b
  ·cases hl : (bts s).drop i with
   | nil => rw [hl] at hh; cases hh
   | cons c l =>
    rw [hl] at hh
    obtain rfl : c = b := Option.some.inj hh
    obtain ⟨hi, _⟩ := bts_head hl
    exact (take_hit h hl hk).mono fun e w' ⟨h1, h2, h3⟩ => .inl ⟨h1, rfl, hi, h2, h3⟩
  ·exact (take_miss b h rfl hh hk).mono fun e w' ⟨h1, h2, h3⟩ => .inr ⟨h1, h2, h3⟩
set_option maxRecDepth 20000 in
set_option maxHeartbeats 1000000 in
theorem l02Take_bad {w : World} {r : Nat} {s : ByteArray} {i : Nat} {k : Int} (h : RdAt w r s i true) :
  Calls Tryz.prog 217 #[.pointer (some ⟨r, 0, none⟩), .int .u8 k] w fun e w' => e = .returned (.bool false) ∧ RdAt w' r s i true ∧ Keeps w w' := by
 have hm := fun n => h.keeps ((Keeps.refl w).drewN n)
 obtain ⟨c0, c1, c2, f1, f2, le, sz⟩ := h
 go_enter Tryz.func217, Tryz.ntmps217
 go_wp2_with fail
 go_quiet (fail)
 go_wp2_with fail
 go_ret
 exact ⟨rfl, hm _, (Keeps.refl w).drewN _⟩
theorem l02Take_any (b : UInt8) {w : World} {r : Nat} {s : ByteArray} {i : Nat} {bad : Bool} {k : Int} (h : RdAt w r s i bad) (hk : k = (b.toNat : Int)) :
  Calls Tryz.prog 217 #[.pointer (some ⟨r, 0, none⟩), .int .u8 k] w (TakeA w r s i bad) := by
 cases bad with
 | true => exact (l02Take_bad h).mono fun e w' ⟨h1, h2, h3⟩ => .inr ⟨h1, h2, h3⟩
 | false =>
  by_cases hh : ((bts s).drop i).head? = some b
  ·cases hl : (bts s).drop i with
   | nil => rw [hl] at hh; cases hh
   | cons c l =>
    rw [hl] at hh
    obtain rfl : c = b := Option.some.inj hh
    obtain ⟨hi, _⟩ := bts_head hl
    exact (l02Take_hit h hl hk).mono fun e w' ⟨h1, h2, h3⟩ => .inl ⟨h1, rfl, hi, h2, h3⟩
  ·exact (l02Take_miss b h rfl hh hk).mono fun e w' ⟨h1, h2, h3⟩ => .inr ⟨h1, h2, h3⟩
set_option maxRecDepth 20000 in
set_option maxHeartbeats 2000000 in
theorem iNeedA (b : UInt8) {w : World} {r : Nat} {s : ByteArray} {i : Nat} {bad : Bool} {k : Int} (h : RdAt w r s i bad) (hk : k = (b.toNat : Int)) :
  Calls Tryz.prog 226 #[.pointer (some ⟨r, 0, none⟩), .int .u8 k] w (NeedA w r s i) := by
 have H := hid (take_any b h hk)
 clear h hk
 go_enter Tryz.func226, Tryz.ntmps226
 go_wp2_with fail
 refine H.out.mono ?_; rintro e w1 (⟨rfl, rfl, hi, h1, g1⟩ | ⟨rfl, h1, k1⟩)
 ·go_wp2_with fail
  refine bodyPost_end (v := .tuple #[]) (by simp [results, Tryz.results226, go_sem]) rfl ?_
  exact ⟨i + 1, false, rfl, by omega, h1, g1⟩
 ·have hs := h1.spoiled
  obtain ⟨c0, c1, c2, f1, f2, le, sz⟩ := h1
  go_wp2_with fail
  refine bodyPost_end (v := .tuple #[]) (by simp [results, Tryz.results226, go_sem]) rfl ?_
  exact ⟨i, true, rfl, Nat.le_refl _, hs, grown_pre0 k1 (grown_set _ _ _)⟩
set_option maxRecDepth 20000 in
set_option maxHeartbeats 2000000 in
theorem sNeedA (b : UInt8) {w : World} {r : Nat} {s : ByteArray} {i : Nat} {bad : Bool} {k : Int} (h : RdAt w r s i bad) (hk : k = (b.toNat : Int)) :
  Calls Tryz.prog 234 #[.pointer (some ⟨r, 0, none⟩), .int .u8 k] w (NeedA w r s i) := by
 have H := hid (l02Take_any b h hk)
 clear h hk
 go_enter Tryz.func234, Tryz.ntmps234
 go_wp2_with fail
 refine H.out.mono ?_; rintro e w1 (⟨rfl, rfl, hi, h1, g1⟩ | ⟨rfl, h1, k1⟩)
 ·go_wp2_with fail
  refine bodyPost_end (v := .tuple #[]) (by simp [results, Tryz.results234, go_sem]) rfl ?_
  exact ⟨i + 1, false, rfl, by omega, h1, g1⟩
 ·have hs := h1.spoiled
  obtain ⟨c0, c1, c2, f1, f2, le, sz⟩ := h1
  go_wp2_with fail
  refine bodyPost_end (v := .tuple #[]) (by simp [results, Tryz.results234, go_sem]) rfl ?_
  exact ⟨i, true, rfl, Nat.le_refl _, hs, grown_pre0 k1 (grown_set _ _ _)⟩
end Go.Proofs.YtkkcfifnkcnceaaGreat
