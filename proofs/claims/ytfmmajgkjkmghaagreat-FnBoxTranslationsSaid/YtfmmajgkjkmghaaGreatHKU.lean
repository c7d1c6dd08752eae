import Derived.Test.YtfmmajgkjkmghaaGreatHKP
import Derived.Test.YtfmmajgkjkmghaaGreatHQI
/- Draws of frames: l05Some. -/
namespace Go.Proofs.YtfmmajgkjkmghaaGreat
open Go.RowKit
theorem RB.madeF (w : World) : RB (w.alloc (.cells #[.int .i64 0, .slice none 0 0] 35)) w.heap.size := ⟨by simp, by simp, by simp, by simp⟩
theorem Bnd.set {n i x : Nat} {a : List Nat} (h : Bnd n a) (hx : x < 2 ^ n) : Bnd n (a.set i x) := mem_bnd fun y hy => by
 rcases List.mem_or_eq_of_mem_set hy with h1 | h1
 ·exact bnd_mem h y h1
 ·rw [h1]; exact hx
def DrawF (B N : Nat) (w : World) (e : Ending) (w' : World) : Prop := ∃ v, ∃ a : List Nat, e = .returned (.agg #[.int .i64 a.length, v]) ∧ OwnI w' w.heap.size v (zs a) ∧ a.length ≤ N ∧ Bnd a.length a ∧ Dr B w w'
theorem drawF_end {B N g : Nat} {w W : World} {p : Option Addr} {c : Nat} {a : List Nat} (hg : w.heap.size ≤ g) (hB : B < g) (b : Nat) (hb : g < b) (hv : OwnI W b (.slice p a.length c) (zs a)) (hw : w.heap.size ≤ b) (hN : a.length ≤ N) (hbn : Bnd a.length a) (D : Dr B w W) (x y : Value) :
  DrawF B N w (.returned (.agg #[.int .i64 a.length, .slice p a.length c])) ((W.setCell ⟨g, 0, none⟩ x).setCell ⟨g, 1, none⟩ y) := drawP_end hg hB b hb hv hw hN hbn D x y
def ArrD (B n g cap : Nat) (w wx : World) : Prop := ∃ a : List Nat, OwnI wx (w.heap.size + 1) (.slice (some ⟨g, 0, none⟩) n cap) (zs a) ∧ a.length = n ∧ Bnd n a ∧ Dr B w wx ∧ RB wx w.heap.size
def ArrU (B n : Nat) (w : World) (u : Value) (wx : World) : Prop := ∃ a : List Nat, OwnI wx (w.heap.size + 1) u (zs a) ∧ a.length = n ∧ Bnd n a ∧ Dr B w wx ∧ RB wx w.heap.size
set_option maxRecDepth 20000 in
set_option maxHeartbeats 4000000 in
theorem l05Some_any (B N : Nat) (hN : N ≤ 8) (w : World) (hs : Src w B) : Calls Tryz.prog 177 #[.pointer (some ⟨B, 0, none⟩), .int .i64 N] w (DrawF B N w) := by
 have hB := hs.lt
 obtain ⟨W0, hW0⟩ : ∃ W, W = w.alloc (.cells #[.int .i64 0, .slice none 0 0] 35) := ⟨_, rfl⟩
 have hb0 : RB W0 w.heap.size := by rw [hW0]; exact RB.madeF w
 have D0 : Dr B w W0 := by rw [hW0]; exact Dr.of hs ((Keeps.refl w).alloc _)
 have hs0 : W0.heap.size = w.heap.size + 1 := by rw [hW0]; simp
 have HW0 := hid hW0
 have HB0 := hid hb0
 clear hb0
 go_enter Tryz.func177, Tryz.ntmps177
 go_wp2_with fail
 rw [← HW0.out]
 refine (l01Next_any ((N : Int) + 1) B W0 D0.2 (by omega)).mono ?_; rintro e w1 ⟨n, rfl, hn, d1⟩
 have D1 := D0.trans d1
 have hb1 := HB0.out.dr d1 (by omega)
 have hs1 := d1.size
 have hnN : n ≤ N := by omega
 clear hn d1
 have HF := hid (fun wz => l01Full_any (n : Int) wz (by omega) (by omega))
 simp only [Int.toNat_natCast] at HF
 have hp8 : (2 : Nat) ^ n ≤ 2 ^ 8 := Nat.pow_le_pow_right (by omega) (by omega)
 have hpc : (2 : Int) ^ n = ((2 ^ n : Nat) : Int) := by push_cast; rfl
 have D2 := D1.keeps ((Keeps.refl w1).alloc (.cells #[] 2))
 have hE := (OwnI.empty w1).mono (show w.heap.size + 1 ≤ w1.heap.size by omega)
 have HE := hid hE; clear hE
 have hb2 := hb1.keeps ((Keeps.refl w1).alloc (.cells #[] 2))
 have HNX := hid (l01Next_any 3 B _ D2.2 (by omega))
 go_wp2_with fail
 refine HNX.out.mono ?_; rintro e w2 ⟨th, rfl, hth, d2⟩
 have D3 := D2.trans d2
 have hE2 := HE.out.dr d2 (by omega)
 have hb3 := hb2.dr d2 (by omega)
 have hth2 : th ≤ 2 := by omega
 have HST := hid (show SmRelD B n w _ (.int .i64 0) w2 from ⟨[], by simp, rfl, hE2, fun i => by simp [Nat.two_pow_pos], D3⟩)
 clear HE hE2 hth d2 D2 D1 hb2 hb1 HB0 hs1 hs0 HW0 hW0 D0 HNX
 have hP0 : (0 : Int) ≤ (2 : Int) ^ n - 1 ∧ (2 : Int) ^ n - 1 ≤ 255 ∧ (2 : Int) ^ n - 1 + 1 = ((2 ^ n : Nat) : Int) := by
  have := Nat.two_pow_pos n
  rw [hpc]; omega
 generalize (2 : Int) ^ n - 1 = P at *
 obtain ⟨hP1, hP2, hP3⟩ := hP0
 have HP3 := hid hP3
 clear hpc hP3
 go_wp2_with fail
 go_loopw [6, 8] (fun s6 s8 wr => SmRelD B n w s6 s8 wr ∧ RB wr w.heap.size) (fun _ s8 _ => n - (intOf s8).toNat)
 case atStart => exact ⟨HST.out, hb3⟩
 case round =>
  obtain ⟨⟨l, hl, rfl, hown, hbl, D⟩, hb⟩ := hrel
  clear HST hb3 D3
  obtain ⟨p6, n6, c6, rfl⟩ := hown.shape0
  by_cases hlt : l.length < n
  ·have hlt' : (l.length : Int) < n := by omega
   have HBL := hid hbl; clear hbl
   have HLL : Hid (l.length = l.length) := hid rfl
   generalize hln : l.length = ln at *
   have HLN := hid hln; clear hln
   go_wp2_with fail
   refine (HF.out _).mono ?_; rintro e w' ⟨rfl, rfl⟩
   go_wp2_with fail
   refine (l01Next_any (P + 1) B _ D.2 (by omega)).mono ?_; rintro e w4 ⟨r4, rfl, hr4, d4⟩
   have D4 := D.trans d4
   have hr4' : r4 < 2 ^ n := by have := HP3.out; have := Nat.two_pow_pos n; omega
   have hown4 := hown.dr d4 (by omega)
   have hb4 := hb.dr d4 (by omega)
   have HIN := hid (show SmInD B n th w (.slice p6 n6 c6) l (.int .i64 r4) (.int .i64 0) w4 from ⟨0, r4, by omega, rfl, rfl, by omega, hown4, D4⟩)
   clear hown hown4 D D4 d4 hb hr4
   go_wp2_with fail
   go_loopw [9, 10] (fun s9 s10 wx => SmInD B n th w (.slice p6 n6 c6) l s9 s10 wx ∧ RB wx w.heap.size) (fun _ s10 _ => th - (intOf s10).toNat)
   case atStart => exact ⟨HIN.out, hb4⟩
   case round =>
    clear HIN hb4 hr4'
    obtain ⟨⟨j, m, hj, rfl, rfl, hm, hown, D⟩, hb⟩ := hrel
    by_cases hjt : j < th
    ·have hjt' : (j : Int) < th := by omega
     go_wp2_with fail
     refine (HF.out _).mono ?_; rintro e w' ⟨rfl, rfl⟩
     go_wp2_with fail
     refine (l01Next_any (P + 1) B _ D.2 (by omega)).mono ?_; rintro e w5 ⟨r5, rfl, hr5, d5⟩
     have D5 := D.trans d5
     have hown5 := hown.dr d5 (by omega)
     have hb5 := hb.dr d5 (by omega)
     have han5 := andN m r5 (by omega) (by omega)
     have hle5 : m &&& r5 ≤ m := Nat.and_le_left
     generalize m &&& r5 = m5 at *
     have HI5 := hid (show SmInD B n th w (.slice p6 n6 c6) l (.int .i64 m5) (.int .i64 ((j + 1 : Nat) : Int)) w5 from ⟨j + 1, m5, by omega, rfl, rfl, by omega, hown5, D5⟩)
     clear hown hown5 D D5 d5 hb
     go_wp2_with fail
     go_roundw
     case rel => first | exact ⟨HI5.out, hb5⟩ | (rw [han5]; exact ⟨HI5.out, hb5⟩)
     case measure => simp [intOf]; omega
    ·have e : th = j := by omega
     subst e
     have hjt' : ¬ (th : Int) < th := by omega
     have hsz := D.size
     have kA := (Keeps.refl wr).alloc (.cells #[.int .i64 (m : Int)] 2)
     have hlz : (zs l).length = ln := by rw [zs_length]; exact HLN.out
     go_wp2_with (at_builtin; refine appI rfl _ _ rfl (w.heap.size + 1) _ (zs l) rfl (hown.keeps kA) _ [(m : Int)] rfl (Ints.lit1 wr m) (by have := D.2.lt; have := hb.lt; simp; omega) (by rw [hlz]; simp; omega) ?_; intro v7 w7 hv7 hg7 hr7)
     go_roundw
     case rel =>
      refine ⟨⟨l ++ [m], by simp; have := HLN.out; omega, by simp [HLN.out], by rw [zs_snoc]; exact hv7, HBL.out.snoc hm, (D.keeps kA).besideR hg7 (fun i hi => by have := hr7 i hi; omega)⟩, (hb.keeps kA).touch (Touch.grown hg7) (fun e => by have := hr7 _ e.symm; omega)⟩
     case measure => simp [intOf]; omega
  ·have e : l.length = n := by omega
   have hlt' : ¬ (l.length : Int) < n := by omega
   go_wp2_with fail
   refine (l01Next_any 8 B wr D.2 (by omega)).mono ?_; rintro e w4 ⟨r4, rfl, hr4, d4⟩
   have HA := hid (show ArrU B n w _ w4 from ⟨l, hown.dr d4 (by omega), e, hbl, D.trans d4, hb.dr d4 (by have := hb.lt; omega)⟩)
   clear hown hbl D hb d4 hlt' hlt
   go_upto_block 4 with fail
   go_cut [6] (fun u6 wx => ArrU B n w u6 wx)
   case first =>
    obtain ⟨a, hown, hla, hba, D, hb⟩ := HA.out
    have h8 : r4 = 0 ∨ r4 = 1 ∨ r4 = 2 ∨ r4 = 3 ∨ r4 = 4 ∨ 4 < r4 := by omega
    have hin := hown.ints (by rw [zs_length]; omega)
    have hwb := hb.lt
    rcases h8 with rfl | rfl | rfl | rfl | rfl | h4
    ·have HRF := hid (l01Reflexive_any a _ w4 hin (by omega) (hba.mono (by omega)))
     have hlr : (rfL a a.length).length = n := by rw [rfL_len]; exact hla
     have hbr : Bnd n (rfL a a.length) := rfL_bnd hba (by omega)
     clear hin hown HA
     go_wp2_with fail
     refine HRF.out.mono ?_; rintro e w5 ⟨v5, rfl, hv5, k5⟩
     go_wp2_with fail
     go_meet
     exact ⟨_, hv5.mono (by omega), hlr, hbr, D.keeps k5, hb.keeps k5⟩
    ·have HRF := hid (l01Closure_any a _ w4 hin (by omega) (by rw [hla]; exact hba))
     have hlr : (wAll a a.length a.length).length = n := by rw [wAll_len]; exact hla
     have hbr : Bnd n (wAll a a.length a.length) := wAll_bnd hba _ _
     clear hin hown HA
     go_wp2_with fail
     refine HRF.out.mono ?_; rintro e w5 ⟨v5, rfl, hv5, k5⟩
     go_wp2_with fail
     go_meet
     exact ⟨_, hv5.mono (by omega), hlr, hbr, D.keeps k5, hb.keeps k5⟩
    ·have HRF := hid (l01Closure_any a _ w4 hin (by omega) (by rw [hla]; exact hba))
     have hlr : (wAll a a.length a.length).length = n := by rw [wAll_len]; exact hla
     have hbr : Bnd n (wAll a a.length a.length) := wAll_bnd hba _ _
     clear hin hown HA
     generalize wAll a a.length a.length = b at *
     go_wp2_with fail
     refine HRF.out.mono ?_; rintro e w5 ⟨v5, rfl, hv5, k5⟩
     have HR2 := hid (l01Reflexive_any b v5 w5 (hv5.ints (by rw [zs_length]; omega)) (by omega) (hbr.mono (by omega)))
     have hlr2 : (rfL b b.length).length = n := by rw [rfL_len]; exact hlr
     have hbr2 : Bnd n (rfL b b.length) := rfL_bnd hbr (by omega)
     obtain ⟨p5, n5, c5, rfl⟩ := hv5.shape0
     have hz5 := k5.size
     go_wp2_with fail
     refine HR2.out.mono ?_; rintro e w6 ⟨v6, rfl, hv6, k6⟩
     go_wp2_with fail
     go_meet
     exact ⟨_, hv6.mono (by omega), hlr2, hbr2, (D.keeps k5).keeps k6, (hb.keeps k5).keeps k6⟩
    ·rw [show ((3 : Nat) : Int) = 3 from rfl]
     rcases Nat.eq_zero_or_pos n with hz | hpos
     ·subst hz
      clear hin
      go_wp2_with fail
      go_loopw [11] (fun s11 wx => s11 = .int .i64 0 ∧ wx = w4) (fun _ _ => 0)
      case atStart => exact ⟨rfl, rfl⟩
      case round =>
       obtain ⟨rfl, rfl⟩ := hrel
       go_wp2_with fail
       go_meet
       exact HA.out
     ·obtain ⟨g, cap, e9, hg, hg2, hcap, hmx⟩ := hown.shape (by rw [zs_length]; omega)
      injection e9 with e91 e92 e93
      have hzl : (zs a).length = n := by rw [zs_length]; exact hla
      have e92' : n = n6 := by rw [e92, hzl]
      have e93' := e93.symm
      subst e91 e92' e93'
      rw [hzl] at hcap
      clear e92 e93
      unfold maxLen at hmx
      have hBg : B < g := by omega
      have hg : w.heap.size ≤ g := by omega
      have HAR := hid (show ArrD B n g cap w w4 from ⟨a, hown, hla, hba, D, hb⟩)
      clear hown hba D hb hin HA
      go_wp2_with fail
      go_loopw [11] (fun s11 wx => ∃ k : Nat, k ≤ n ∧ s11 = .int .i64 k ∧ ArrD B n g cap w wx) (fun s11 _ => n - (intOf s11).toNat)
      case atStart => exact ⟨0, by omega, rfl, HAR.out⟩
      case round =>
       obtain ⟨k, hk, rfl, a, hown, hla, hba, D, hb⟩ := hrel
       clear HAR
       by_cases hlt : k < n
       ·have hlt' : (k : Int) < n := by omega
        have hwk : IntKind.i64.wrap ((k : Int) + 1) = ((k + 1 : Nat) : Int) := by rw [show (k : Int) + 1 = ((k + 1 : Nat) : Int) by push_cast; rfl]; exact wrapN _ (by omega)
        have hq : (2 : Int) ^ (k + 1) - 1 = ((2 ^ (k + 1) - 1 : Nat) : Int) := by
         have := Nat.two_pow_pos (k + 1)
         rw [show (2 : Int) ^ (k + 1) = ((2 ^ (k + 1) : Nat) : Int) by push_cast; rfl]
         omega
        have HF2 : Hid (∀ wz, Calls Tryz.prog 80 #[.int .i64 (IntKind.i64.wrap ((k : Int) + 1))] wz fun e w' => e = .returned (.int .i64 ((2 ^ (k + 1) - 1 : Nat) : Int)) ∧ wz = w') := hid fun wz => by
         have h := l01Full_any ((k + 1 : Nat) : Int) wz (by omega) (by omega)
         rw [Int.toNat_natCast, hq] at h
         rw [hwk]; exact h
        clear hq hwk
        have hq8 : 2 ^ (k + 1) - 1 < 512 := by
         have : (2 : Nat) ^ (k + 1) ≤ 2 ^ 8 := Nat.pow_le_pow_right (by omega) (by omega)
         omega
        generalize 2 ^ (k + 1) - 1 = q at *
        have kd := (Keeps.refl wr).drew
        obtain ⟨c1, f1⟩ := hown.zcell k (by omega)
        obtain ⟨c2, f2⟩ := (hown.keeps kd).zcell k (by omega)
        have hxb : a.getD k 0 < 2 ^ n := hba k
        have han := andNotN (a.getD k 0) q (by omega) (by omega)
        have hle := and_not_le (a.getD k 0) q
        obtain ⟨st, gr⟩ := (hown.keeps kd).store k (by rw [zs_length]; omega) ((a.getD k 0 ^^^ (a.getD k 0 &&& q) : Nat) : Int)
        rw [← zs_set] at st
        have D2 := (D.keeps kd).beside ((Touch.grown gr).mono (fun k e => by simpa using e)) hBg hg
        have hb2 := (hb.keeps kd).touch (Touch.grown gr) (by simp; omega)
        have HE := hid (show ArrD B n g cap w _ from ⟨_, st, by rw [List.length_set]; exact hla, hba.set (by omega), D2, hb2⟩)
        rw [← han] at HE
        clear st gr D2 hb2 hown hba D hb hle han kd
        generalize a.getD k 0 = x at *
        go_wp2_with fail
        go_region_law (first | (go_simp; go_at_call 80; refine (HF2.out _).mono ?_; rintro e w' ⟨rfl, rfl⟩))
        all_goals
         go_wp2
         go_roundw
         case rel => exact ⟨k + 1, by omega, by go_num, by first | exact HE.out | (rw [setCell_drew]; exact HE.out)⟩
         case measure => simp [intOf]; omega
       ·have e : n = k := by omega
        subst e
        have hlt' : ¬ (n : Int) < n := by omega
        go_wp2_with fail
        go_meet
        exact ⟨a, hown, hla, hba, D, hb⟩
    ·rw [show ((4 : Nat) : Int) = 4 from rfl]
     rcases Nat.eq_zero_or_pos n with hz | hpos
     ·subst hz
      have HCL := hid (l01Closure_any a _ w4 hin (by omega) (by rw [hla]; exact hba))
      have hlr : (wAll a a.length a.length).length = 0 := by rw [wAll_len]; exact hla
      have hbr : Bnd 0 (wAll a a.length a.length) := wAll_bnd hba _ _
      clear hin
      go_wp2_with fail
      go_loopw [12] (fun s12 wx => s12 = .int .i64 0 ∧ wx = w4) (fun _ _ => 0)
      case atStart => exact ⟨rfl, rfl⟩
      case round =>
       obtain ⟨rfl, rfl⟩ := hrel
       go_wp2_with fail
       refine HCL.out.mono ?_; rintro e w5 ⟨v5, rfl, hv5, k5⟩
       go_wp2_with fail
       go_meet
       exact ⟨_, hv5.mono (by omega), hlr, hbr, D.keeps k5, hb.keeps k5⟩
     ·obtain ⟨g, cap, e9, hg, hg2, hcap, hmx⟩ := hown.shape (by rw [zs_length]; omega)
      injection e9 with e91 e92 e93
      have hzl : (zs a).length = n := by rw [zs_length]; exact hla
      have e92' : n = n6 := by rw [e92, hzl]
      have e93' := e93.symm
      subst e91 e92' e93'
      rw [hzl] at hcap
      clear e92 e93
      unfold maxLen at hmx
      have hBg : B < g := by omega
      have hg : w.heap.size ≤ g := by omega
      have HAR := hid (show ArrD B n g cap w w4 from ⟨a, hown, hla, hba, D, hb⟩)
      clear hown hba D hb hin HA
      go_wp2_with fail
      go_loopw [12] (fun s12 wx => ∃ k : Nat, k ≤ n ∧ s12 = .int .i64 k ∧ ArrD B n g cap w wx) (fun s12 _ => n - (intOf s12).toNat)
      case atStart => exact ⟨0, by omega, rfl, HAR.out⟩
      case round =>
       obtain ⟨k, hk, rfl, a, hown, hla, hba, D, hb⟩ := hrel
       clear HAR
       by_cases hlt : k < n
       ·have hlt' : (k : Int) < n := by omega
        have hwk : IntKind.i64.wrap ((k : Int) + 1) = ((k + 1 : Nat) : Int) := by rw [show (k : Int) + 1 = ((k + 1 : Nat) : Int) by push_cast; rfl]; exact wrapN _ (by omega)
        have hq : (2 : Int) ^ (k + 1) - 1 = ((2 ^ (k + 1) - 1 : Nat) : Int) := by
         have := Nat.two_pow_pos (k + 1)
         rw [show (2 : Int) ^ (k + 1) = ((2 ^ (k + 1) : Nat) : Int) by push_cast; rfl]
         omega
        have HF2 : Hid (∀ wz, Calls Tryz.prog 80 #[.int .i64 (IntKind.i64.wrap ((k : Int) + 1))] wz fun e w' => e = .returned (.int .i64 ((2 ^ (k + 1) - 1 : Nat) : Int)) ∧ wz = w') := hid fun wz => by
         have h := l01Full_any ((k + 1 : Nat) : Int) wz (by omega) (by omega)
         rw [Int.toNat_natCast, hq] at h
         rw [hwk]; exact h
        clear hq hwk
        have hq8 : 2 ^ (k + 1) - 1 < 512 := by
         have : (2 : Nat) ^ (k + 1) ≤ 2 ^ 8 := Nat.pow_le_pow_right (by omega) (by omega)
         omega
        generalize 2 ^ (k + 1) - 1 = q at *
        have kd := (Keeps.refl wr).drew
        obtain ⟨c1, f1⟩ := hown.zcell k (by omega)
        obtain ⟨c2, f2⟩ := (hown.keeps kd).zcell k (by omega)
        have hxb : a.getD k 0 < 2 ^ n := hba k
        have han := andNotN (a.getD k 0) q (by omega) (by omega)
        have hle := and_not_le (a.getD k 0) q
        obtain ⟨st, gr⟩ := (hown.keeps kd).store k (by rw [zs_length]; omega) ((a.getD k 0 ^^^ (a.getD k 0 &&& q) : Nat) : Int)
        rw [← zs_set] at st
        have D2 := (D.keeps kd).beside ((Touch.grown gr).mono (fun k e => by simpa using e)) hBg hg
        have hb2 := (hb.keeps kd).touch (Touch.grown gr) (by simp; omega)
        have HE := hid (show ArrD B n g cap w _ from ⟨_, st, by rw [List.length_set]; exact hla, hba.set (by omega), D2, hb2⟩)
        rw [← han] at HE
        clear st gr D2 hb2 hown hba D hb hle han kd
        generalize a.getD k 0 = x at *
        go_wp2_with fail
        go_region_law (first | (go_simp; go_at_call 80; refine (HF2.out _).mono ?_; rintro e w' ⟨rfl, rfl⟩))
        all_goals
         go_wp2
         go_roundw
         case rel => exact ⟨k + 1, by omega, by go_num, by first | exact HE.out | (rw [setCell_drew]; exact HE.out)⟩
         case measure => simp [intOf]; omega
       ·have e : n = k := by omega
        subst e
        have hlt' : ¬ (n : Int) < n := by omega
        have HCL := hid (l01Closure_any a _ wr (hown.ints (by rw [zs_length]; omega)) (by omega) (by rw [hla]; exact hba))
        have hlr : (wAll a a.length a.length).length = n := by rw [wAll_len]; exact hla
        have hbr : Bnd n (wAll a a.length a.length) := wAll_bnd hba _ _
        clear hown hba
        go_wp2_with fail
        refine HCL.out.mono ?_; rintro e w5 ⟨v5, rfl, hv5, k5⟩
        have hwx := hb.lt
        go_wp2_with fail
        go_meet
        exact ⟨_, hv5.mono (by omega), hlr, hbr, D.keeps k5, hb.keeps k5⟩
    ·have n0 : ((r4 : Nat) : Int) ≠ 0 := by omega
     have n1 : ((r4 : Nat) : Int) ≠ 1 := by omega
     have n2 : ((r4 : Nat) : Int) ≠ 2 := by omega
     have n3 : ((r4 : Nat) : Int) ≠ 3 := by omega
     have n4 : ((r4 : Nat) : Int) ≠ 4 := by omega
     clear hown hba D hb hin
     go_wp2_with fail
     go_meet
     exact HA.out
   case rest =>
    obtain ⟨a, hown, hla, hba, D, hb⟩ := hcut
    clear HA hr4
    have HMK := hid (l05Make_any (zs a) _ wc (hown.ints (by rw [zs_length]; omega)))
    obtain ⟨p7, n7, c7, rfl⟩ := hown.shape0
    have hwb := hb.lt
    clear hown
    go_wp2_with fail
    refine HMK.out.mono ?_; rintro e w7 ⟨v7, rfl, hv7, k7⟩
    have D7 := D.keeps k7
    have hb7 := hb.keeps k7
    have hz7 := k7.size
    obtain ⟨p9, c9, rfl, -, -, -⟩ := At.of_own hv7
    have hlz : (zs a).length = n := by rw [zs_length]; exact hla
    have HE := hid (fun x y => drawF_end (N := N) (Nat.le_refl _) hB wc.heap.size (show w.heap.size < wc.heap.size by omega) (by rw [zs_length] at hv7; exact hv7) (by omega) (by omega) (by rw [hla]; exact hba) D7 x y)
    rw [hla] at HE
    rw [hlz]
    obtain ⟨r0, r1, f0, f1⟩ := hb7
    clear hv7 k7 D7
    go_wp2_with fail
    refine bodyPost_ret (v := .agg #[.int .i64 (n : Int), .slice p9 n c9]) (by simp [results, Tryz.results177, go_sem, r0, r1]) rfl ?_
    exact HE.out _ _
end Go.Proofs.YtfmmajgkjkmghaaGreat
namespace Go.Proofs.YtfmmajgkjkmghaaGreat
open Go.RowKit
set_option maxRecDepth 20000 in
set_option maxHeartbeats 4000000 in
theorem l05Draw_any (B N : Nat) (hN : N ≤ 8) (w : World) (hs : Src w B) : Calls Tryz.prog 105 #[.pointer (some ⟨B, 0, none⟩), .int .i64 N] w (DrawQ B w) := by
 have hB := hs.lt
 obtain ⟨W0, hW0⟩ : ∃ W, W = w.alloc (.cells #[.int .i64 0, .slice none 0 0] 35) := ⟨_, rfl⟩
 have hb0 : RB W0 w.heap.size := by rw [hW0]; exact RB.madeF w
 have D0 : Dr B w W0 := by rw [hW0]; exact Dr.of hs ((Keeps.refl w).alloc _)
 have hs0 : W0.heap.size = w.heap.size + 1 := by rw [hW0]; simp
 have HW0 := hid hW0
 clear hW0
 go_enter Tryz.func105, Tryz.ntmps105
 go_wp2_with fail
 rw [← HW0.out]
 refine (l05Some_any B N hN W0 D0.2).mono ?_; rintro e w1 ⟨v1, b, rfl, hv1, hla, hba, d1⟩
 have D1 := D0.trans d1
 have hb1 := hb0.dr d1 (by omega)
 have hz1 := d1.size
 obtain ⟨p, c, rfl, -, -, -⟩ := At.of_own hv1
 rw [zs_length b] at *
 have kA := (Keeps.refl w1).alloc (.cells #[.int .i64 b.length, .slice p b.length c] 35)
 have HPX := hid (show PX w (w1.alloc (.cells #[.int .i64 b.length, .slice p b.length c] 35)) B w1.heap.size p c b from by
  have hm : (w1.alloc (.cells #[.int .i64 b.length, .slice p b.length c] 35)).cell? ⟨w1.heap.size, 0, none⟩ = some (.int .i64 b.length) ∧ (w1.alloc (.cells #[.int .i64 b.length, .slice p b.length c] 35)).cell? ⟨w1.heap.size, 1, none⟩ = some (.slice p b.length c) ∧ (w1.alloc (.cells #[.int .i64 b.length, .slice p b.length c] 35)).frozen? ⟨w1.heap.size, 0, none⟩ = false ∧ (w1.alloc (.cells #[.int .i64 b.length, .slice p b.length c] 35)).frozen? ⟨w1.heap.size, 1, none⟩ = false := ⟨by simp, by simp, by simp, by simp⟩
  exact ⟨hm.1, hm.2.1, hm.2.2.1, hm.2.2.2, (hv1.mono (by omega)).keeps kA, fun k hk e => by have := (hv1.len k hk).2; omega, by omega, by omega, hba, hb1.keeps kA, hB, D1.keeps kA⟩)
 clear hb0 D0 hs0 HW0 d1 D1 hb1 hv1 hba kA
 have hg1 : w.heap.size + 1 ≤ w1.heap.size := HPX.out.g1
 have HN3 := hid (l01Next_any 40 B _ HPX.out.D.2 (by omega))
 go_wp2_with fail
 generalize w1.alloc (.cells #[.int .i64 b.length, .slice p b.length c] 35) = W1 at *
 generalize w1.heap.size = g at *
 refine HN3.out.mono ?_; rintro e w5 ⟨r5, rfl, hr5, d5⟩
 have P4 := HPX.out
 have P5 := hid (P4.dr d5)
 have hgl := P5.out.lt
 have hlen := P5.out.len
 clear HPX HN3 hz1
 clear P4 d5 hr5
 obtain rfl | rfl | rfl | h3 : r5 = 0 ∨ r5 = 1 ∨ r5 = 2 ∨ 2 < r5 := by omega
 ·have hl : OwnI (w5.alloc (.cells #[.int .i64 (-1), .int .i64 9, .int .i64 ((b.length : Int) + 1)] 2)) w5.heap.size (.slice (some ⟨w5.heap.size, 0, none⟩) 3 3) [-1, 9, (b.length : Int) + 1] := OwnI.lit w5 _ (by simp [maxLen])
  have kA := (Keeps.refl w5).alloc (.cells #[.int .i64 (-1), .int .i64 9, .int .i64 ((b.length : Int) + 1)] 2)
  have P6 := P5.out.keeps kA
  have HPK := hid (l01Pick_any B w5.heap.size _ _ _ P6.D.2 hl (by omega) (by simp) (by simp))
  have HP6 := hid P6
  have x0 := P5.out.c0
  clear hl kA P6
  go_wp2_with fail
  refine HPK.out.mono ?_; rintro e w6 ⟨x, hx, rfl, d6⟩
  have P7 := HP6.out.dr d6
  have hx2 : -100 ≤ x ∧ x ≤ 100 := by
   simp only [List.mem_cons, List.not_mem_nil, or_false] at hx
   omega
  have HE := hid (fun y z => drawQ_end hB (W := w6.setCell ⟨g, 0, none⟩ (.int .i64 x)) (n := x) (P7.own.put P7.ne _) (by rw [zs_length]; omega) hx2 (P7.D.put (by omega) (by omega) _) y z)
  have hbx := P7.rb.put (o := 0) (show w.heap.size ≠ g by omega) (.int .i64 x)
  obtain ⟨r0, r1, f0, f1⟩ := hbx
  have z0 := World.cell?_setCell_same w6 ⟨g, 0, none⟩ (.int .i64 x) P7.c0
  have z1 := (World.cell?_setCell_other (w := w6) (a := ⟨g, 0, none⟩) (b := ⟨g, 1, none⟩) (v := .int .i64 x) (by simp)).trans P7.c1
  obtain ⟨y0, y1, y2⟩ := And.intro P7.c0 (And.intro P7.c1 P7.f0)
  clear P7 HP6 d6 hx x0 HPK
  go_wp2_with fail
  refine bodyPost_ret (v := .agg #[Value.int .i64 x, Value.slice p b.length c]) (by simp [results, Tryz.results105, go_sem, r0, r1]) rfl ?_
  exact HE.out _ _
 ·have hin := P5.out.own.ints (by rw [zs_length]; omega)
  have hlz := zs_length b
  have HOW := hid (l01Own_any (zs b) _ w5 hin)
  have x1 := P5.out.c1
  clear hin
  go_wp2_with fail
  refine HOW.out.mono ?_; rintro e w6 ⟨v6, rfl, hv6, k6⟩
  obtain ⟨p6, c6, rfl, -, -, -⟩ := At.of_own hv6
  rw [hlz] at hv6 ⊢
  have hz6 := k6.size
  go_wp2_with (at_builtin; refine appI rfl (.tmp 24) (.tmp 25) rfl w5.heap.size _ (zs b) rfl (hv6.keeps ((Keeps.refl w6).alloc _)) _ [0] rfl (Ints.lit1 w6 0) (by simp; omega) (by rw [hlz]; simp; omega) ?_; intro v7 w7 hv7 hg7 hr7; have k7 := (k6.alloc (.cells #[.int .i64 0] 2)).grown hg7 hr7; have P7 := P5.out.keeps k7; obtain ⟨y1, y2⟩ := And.intro P7.c1 P7.f1; obtain ⟨p9, n9, c9, rfl⟩ := hv7.shape0; have hne7 : ∀ k, (Value.slice p9 n9 c9).ownBlock = some k → k ≠ g := fun k hk e => (by have := (hv7.len k hk).1; omega); have hz5 : w.heap.size + 1 ≤ w5.heap.size := (by have := P5.out.g1; omega); have HE := hid (fun y z => drawQ_end hB (W := w7.setCell ⟨g, 1, none⟩ (.slice p9 n9 c9)) (n := (b.length : Int)) ((hv7.mono hz5).put hne7 _) (by simp [hlz]; omega) (by omega) (P7.D.put (by omega) (by omega) _) y z); obtain ⟨r0, r1, f0, f1⟩ := P7.rb.put (o := 1) (show w.heap.size ≠ g by omega) (.slice p9 n9 c9); have z1 := World.cell?_setCell_same w7 ⟨g, 1, none⟩ (.slice p9 n9 c9) P7.c1; have z0 := (World.cell?_setCell_other (w := w7) (a := ⟨g, 1, none⟩) (b := ⟨g, 0, none⟩) (v := .slice p9 n9 c9) (by simp)).trans P7.c0)
  go_wp2_with fail
  refine bodyPost_ret (v := .agg #[Value.int .i64 (b.length : Int), Value.slice p9 n9 c9]) (by simp [results, Tryz.results105, go_sem, r0, r1]) rfl ?_
  exact HE.out _ _
 ·have x0 := P5.out.c0
  by_cases hbz : b.length = 0
  ·have hbz' : ¬ (0 : Int) < (b.length : Int) := by omega
   have x1 := P5.out.c1
   obtain ⟨r0, r1, f0, f1⟩ := P5.out.rb
   have HE := hid (fun y z => drawQ_end hB (W := w5) (n := (b.length : Int)) P5.out.own (by rw [zs_length]; omega) (by omega) P5.out.D y z)
   clear hbz
   generalize b.length = bl at *
   go_wp2_with fail
   refine bodyPost_ret (v := .agg #[Value.int .i64 (bl : Int), Value.slice p bl c]) (by simp [results, Tryz.results105, go_sem, r0, r1]) rfl ?_
   exact HE.out _ _
  ·have hbz' : (0 : Int) < (b.length : Int) := by omega
   have hbp : 0 < b.length := by omega
   clear hbz
   have kd := (Keeps.refl w5).drew
   have Pd := P5.out.keeps kd
   have HF := hid (fun wz => l01Full_any (b.length : Int) wz (by omega) (by omega))
   have hp8 : (2 : Nat) ^ b.length ≤ 2 ^ 8 := Nat.pow_le_pow_right (by omega) (by omega)
   have hpp := Nat.two_pow_pos b.length
   have hpc : (2 : Int) ^ b.length - 1 = ((2 ^ b.length - 1 : Nat) : Int) := by
    rw [show (2 : Int) ^ b.length = ((2 ^ b.length : Nat) : Int) by push_cast; rfl]
    omega
   simp only [Int.toNat_natCast, hpc] at HF
   clear hpc
   have hq : 2 ^ b.length - 1 ≤ 255 := by omega
   generalize 2 ^ b.length - 1 = q at *
   clear hp8 hpp
   skip
   obtain ⟨gp, cap, ev, hgp, -, -, -⟩ := P5.out.own.shape (by rw [zs_length]; exact hbp)
   rw [zs_length] at ev
   injection ev with ev1 _ ev3
   subst ev1 ev3
   have y0 := Pd.c0
   have y1 := Pd.c1
   go_wp2_with fail
   go_region_law (first
    | (go_simp; go_at_call 80; refine (HF.out _).mono ?_; rintro e w' ⟨rfl, rfl⟩)
    | (have hq7 := P7L.D.2; go_simp; go_at_call 106; refine (l01Pick_any B w7.heap.size _ _ _ hq7 hl7 (by have := P7.D.2.lt; omega) (by simp) (by simp)).mono ?_; rintro e w8 ⟨x8v, hx8, rfl, d8⟩; have P8 := P7L.dr d8; have x8 := P8.c0; have x81 := P8.c1; have hrr : r7 < b.length := hr7'; obtain ⟨c8, f8⟩ := P8.own.zcell r7 hrr)
    | (go_simp; go_at_call 50; refine (l01Next_any (b.length : Int) B _ Pd.D.2 (by omega)).mono ?_; rintro e w7 ⟨r7, rfl, hr7, d7⟩; have P7 := Pd.dr d7; have x7 := P7.c0; have x71 := P7.c1; have hr7' : r7 < b.length := (by omega); have hr7i : (r7 : Int) < b.length := (by omega); have hl7 : OwnI (w7.alloc (.cells #[.int .i64 (-1), .int .i64 (IntKind.i64.wrap ((q : Int) + 1))] 2)) w7.heap.size (.slice (some ⟨w7.heap.size, 0, none⟩) 2 2) [-1, IntKind.i64.wrap ((q : Int) + 1)] := OwnI.lit w7 _ (by simp [maxLen]); have P7L := P7.keeps ((Keeps.refl w7).alloc (.cells #[.int .i64 (-1), .int .i64 (IntKind.i64.wrap ((q : Int) + 1))] 2)); have x7L := P7L.c0; have x71L := P7L.c1))
   all_goals
    have hne := P8.ne gp rfl
    have HE := hid (fun x y z => drawQ_end hB (W := w8.setCell ⟨gp, r7, none⟩ (.int .i64 x)) (n := (b.length : Int)) (P8.own.store r7 (by rw [zs_length]; exact hr7') x).1 (by rw [List.length_set, zs_length]; omega) (by omega) (P8.D.put (by omega) (by omega) _) y z)
    have z0 := fun x => (World.cell?_setCell_other (w := w8) (a := ⟨gp, r7, none⟩) (b := ⟨g, 0, none⟩) (v := .int .i64 x) (by simp)).trans P8.c0
    have z1 := fun x => (World.cell?_setCell_other (w := w8) (a := ⟨gp, r7, none⟩) (b := ⟨g, 1, none⟩) (v := .int .i64 x) (by simp)).trans P8.c1
    have r0 := fun x => (P8.rb.put (o := r7) (show w.heap.size ≠ gp by omega) (.int .i64 x)).c0
    have r1 := fun x => (P8.rb.put (o := r7) (show w.heap.size ≠ gp by omega) (.int .i64 x)).c1
    have f0 := fun x => (P8.rb.put (o := r7) (show w.heap.size ≠ gp by omega) (.int .i64 x)).f0
    have f1 := fun x => (P8.rb.put (o := r7) (show w.heap.size ≠ gp by omega) (.int .i64 x)).f1
    clear P8 P7 P7L hl7 Pd d7 d8 hq7
    go_wp2_with fail
    refine bodyPost_ret (v := .agg #[Value.int .i64 (b.length : Int), Value.slice (some ⟨gp, 0, none⟩) b.length c]) (by simp [results, Tryz.results105, go_sem, r0, r1]) rfl ?_
    exact HE.out _ _ _
 ·have x0 := P5.out.c0
  have x1 := P5.out.c1
  obtain ⟨r0, r1, f0, f1⟩ := P5.out.rb
  have hz0 : ((r5 : Nat) : Int) ≠ 0 := by omega
  have hz1 : ((r5 : Nat) : Int) ≠ 1 := by omega
  have hz2 : ((r5 : Nat) : Int) ≠ 2 := by omega
  have HE := hid (fun y z => drawQ_end hB (W := w5) (n := (b.length : Int)) P5.out.own (by rw [zs_length]; omega) (by omega) P5.out.D y z)
  go_wp2_with fail
  refine bodyPost_ret (v := .agg #[Value.int .i64 (b.length : Int), Value.slice p b.length c]) (by simp [results, Tryz.results105, go_sem, r0, r1]) rfl ?_
  exact HE.out _ _
end Go.Proofs.YtfmmajgkjkmghaaGreat
namespace Go.Proofs.YtfmmajgkjkmghaaGreat
open Go.RowKit
theorem tyneMd : (37 : TypeId) ≠ 2 := by decide
theorem box_three {W : World} {r : Nat} {T : TypeId} {c d e x y z : Value} (hb : BoxG W r T [c, d, e]) : (((W.setCell ⟨r, 0, none⟩ x).setCell ⟨r, 1, none⟩ y).setCell ⟨r, 2, none⟩ z).cell? ⟨r, 0, none⟩ = some x ∧ (((W.setCell ⟨r, 0, none⟩ x).setCell ⟨r, 1, none⟩ y).setCell ⟨r, 2, none⟩ z).cell? ⟨r, 1, none⟩ = some y ∧ (((W.setCell ⟨r, 0, none⟩ x).setCell ⟨r, 1, none⟩ y).setCell ⟨r, 2, none⟩ z).cell? ⟨r, 2, none⟩ = some z := by
 have h := ((hb.set 0 x).set 1 y).set 2 z
 exact ⟨h.cell 0 (by simp), h.cell 1 (by simp), h.cell 2 (by simp)⟩
def DrawM (B : Nat) (w : World) (e : Ending) (w' : World) : Prop := ∃ (v : Value) (a : List Nat) (u : Value) (vs : List Int), e = .returned (.agg #[.int .i64 a.length, v, u]) ∧ OwnI w' w.heap.size v (zs a) ∧ OwnI w' w.heap.size u vs ∧ Sep v u ∧ a.length ≤ 6 ∧ Bnd a.length a ∧ vs.length = 6 ∧ Dr B w w'
def DrawMQ (B : Nat) (w : World) (e : Ending) (w' : World) : Prop := ∃ (n : Int) (v : Value) (a : List Int) (u : Value) (vs : List Int), e = .returned (.agg #[.int .i64 n, v, u]) ∧ OwnI w' w.heap.size v a ∧ PullI w.heap.size w' u vs ∧ a.length ≤ 9 ∧ vs.length ≤ 6 ∧ Dr B w w'
theorem drawMQ_end {B : Nat} {w W : World} {n : Int} {v u : Value} {a vs : List Int} (hb : BoxG W w.heap.size 37 [.int .i64 0, .slice none 0 0, .slice none 0 0]) (hv : OwnI W w.heap.size v a) (hu : PullI w.heap.size W u vs) (hl : a.length ≤ 9) (h6 : vs.length ≤ 6) (hB : B < w.heap.size) (D : Dr B w W) :
  DrawMQ B w (.returned (.agg #[.int .i64 n, v, u])) (((W.setCell ⟨w.heap.size, 0, none⟩ (.int .i64 n)).setCell ⟨w.heap.size, 1, none⟩ v).setCell ⟨w.heap.size, 2, none⟩ u) ∧ (((W.setCell ⟨w.heap.size, 0, none⟩ (.int .i64 n)).setCell ⟨w.heap.size, 1, none⟩ v).setCell ⟨w.heap.size, 2, none⟩ u).cell? ⟨w.heap.size, 0, none⟩ = some (.int .i64 n) ∧ (((W.setCell ⟨w.heap.size, 0, none⟩ (.int .i64 n)).setCell ⟨w.heap.size, 1, none⟩ v).setCell ⟨w.heap.size, 2, none⟩ u).cell? ⟨w.heap.size, 1, none⟩ = some v ∧ (((W.setCell ⟨w.heap.size, 0, none⟩ (.int .i64 n)).setCell ⟨w.heap.size, 1, none⟩ v).setCell ⟨w.heap.size, 2, none⟩ u).cell? ⟨w.heap.size, 2, none⟩ = some u := by
 have b1 := hb.set 0 (.int .i64 n)
 have b2 := b1.set 1 v
 exact ⟨⟨n, v, a, u, vs, rfl, own_boxed (own_boxed (own_boxed hv hb tyneMd) b1 tyneMd) b2 tyneMd, ((hu.boxed hb tyneMd _).boxed b1 tyneMd _).boxed b2 tyneMd _, hl, h6, ((D.box hb hB (Nat.le_refl _)).box b1 hB (Nat.le_refl _)).box b2 hB (Nat.le_refl _)⟩, box_three hb⟩
structure MV (B : Nat) (w W : World) (g1 g2 : Nat) (n : Int) (v : Value) (a : List Int) (u : Value) : Prop where
 box : BoxG W w.heap.size 37 [.int .i64 0, .slice none 0 0, .slice none 0 0]
 fb : BoxG W g1 35 [.int .i64 n, v]
 mb : BoxG W g2 37 [.int .i64 n, v, u]
 own : OwnI W w.heap.size v a
 vb : ∀ k, v.ownBlock = some k → k < g1
 lt1 : w.heap.size < g1
 lt2 : g1 < g2
 bl : B < w.heap.size
 D : Dr B w W
section
variable {B : Nat} {w W W' : World} {g1 g2 b : Nat} {n : Int} {v u : Value} {a : List Int}
theorem MV.dr (h : MV B w W g1 g2 n v a u) (k : Dr B W W') : MV B w W' g1 g2 n v a u :=
 ⟨h.box.dr k h.bl, h.fb.dr k (by have := h.bl; have := h.lt1; omega), h.mb.dr k (by have := h.bl; have := h.lt1; have := h.lt2; omega), h.own.dr k h.bl, h.vb, h.lt1, h.lt2, h.bl, h.D.trans k⟩
theorem MV.keeps (h : MV B w W g1 g2 n v a u) (k : Keeps W W') : MV B w W' g1 g2 n v a u := h.dr (Dr.of h.D.2 k)
theorem MV.touch (h : MV B w W g1 g2 n v a u) (t : Touch W W' (fun i => i = b)) (hb : g2 < b) : MV B w W' g1 g2 n v a u := by
 have hl := h.lt1
 have hl2 := h.lt2
 have hB := h.bl
 refine ⟨own_touch h.box t (fun i hi e => ?_), own_touch h.fb t (fun i hi e => ?_), own_touch h.mb t (fun i hi e => ?_), h.own.touch t (fun i hi e => by have := h.vb i hi; omega), h.vb, h.lt1, h.lt2, h.bl, h.D.besideX t (by omega) (by omega)⟩
 ·have : w.heap.size = i := by simpa [Value.ownBlock] using hi
  omega
 ·have : g1 = i := by simpa [Value.ownBlock] using hi
  omega
 ·have : g2 = i := by simpa [Value.ownBlock] using hi
  omega
theorem MV.grown (h : MV B w W g1 g2 n v a u) {row : Option Nat} (k : W.grownBy W' row) (hr : ∀ i, row = some i → g2 < i) : MV B w W' g1 g2 n v a u := by
 cases row with
 | none => exact h.touch (b := g2 + 1) ((Touch.grown k).mono (fun i e => by cases e)) (by omega)
 | some g => exact h.touch ((Touch.grown k).mono (fun i e => by simpa using e)) (hr g rfl)
theorem MV.put (h : MV B w W g1 g2 n v a u) (x : Value) : MV B w (W.setCell ⟨g2, 2, none⟩ x) g1 g2 n v a x := by
 have hl := h.lt1
 have hl2 := h.lt2
 have hB := h.bl
 exact ⟨h.box.apart h.mb (by omega), h.fb.apart h.mb (by omega), h.mb.set 2 x, own_boxed h.own h.mb tyneMd, h.vb, h.lt1, h.lt2, h.bl, h.D.box h.mb (by omega) (by omega)⟩
end
theorem results_m1 (tmps : Array Value) (W : World) (r : Nat) (h2 : tmps.getD 4 undef = .pointer (some ⟨r, 0, none⟩)) {u v : Value} {n : Int}
  (ha : W.cell? ⟨r, 0, none⟩ = some (.int .i64 n)) (hb : W.cell? ⟨r, 1, none⟩ = some v) (hc : W.cell? ⟨r, 2, none⟩ = some u) (hv : ∃ p m q, v = .slice p m q) (hu : ∃ p m q, u = .slice p m q) :
  (results Tryz.f104 tmps).run Tryz.prog W = .ok (.agg #[.int .i64 n, v, u]) W := by
 have hr : Tryz.f104.results = #[.cell 4 37] := rfl
 obtain ⟨p, m, q, rfl⟩ := hv
 obtain ⟨p2, m2, q2, rfl⟩ := hu
 unfold results
 rw [hr]
 rw [Array.getD_eq_getD_getElem?] at h2
 simp [go_sem, loadVar, h2, ha, hb, hc]
set_option maxRecDepth 20000 in
set_option maxHeartbeats 4000000 in
theorem l06Some_any (B : Nat) (w : World) (hs : Src w B) : Calls Tryz.prog 104 #[.pointer (some ⟨B, 0, none⟩), .int .i64 6] w (DrawM B w) := by
 have hB := hs.lt
 obtain ⟨W0, hW0⟩ : ∃ W, W = w.alloc (.cells #[.int .i64 0, .slice none 0 0, .slice none 0 0] 37) := ⟨_, rfl⟩
 have hb0 : BoxG W0 w.heap.size 37 [.int .i64 0, .slice none 0 0, .slice none 0 0] := by rw [hW0]; exact BoxG.made w _ _ (by simp) (by simp)
 have D0 : Dr B w W0 := by rw [hW0]; exact Dr.of hs ((Keeps.refl w).alloc _)
 have hs0 : W0.heap.size = w.heap.size + 1 := by rw [hW0]; simp
 have HW0 := hid hW0
 clear hW0
 go_enter Tryz.func104, Tryz.ntmps104
 go_wp2_with fail
 rw [← HW0.out]
 refine (l05Some_any B 6 (by omega) W0 D0.2).mono ?_; rintro e w1 ⟨v1, a, rfl, hv1, hla, hba, d1⟩
 have hz1 := d1.size
 obtain ⟨p1, m1, c1, rfl⟩ := hv1.shape0
 obtain ⟨W1, hW1⟩ : ∃ W, W = (w1.alloc (.cells #[.int .i64 a.length, .slice p1 m1 c1] 35)).alloc (.cells #[.int .i64 a.length, .slice p1 m1 c1, .slice none 0 0] 37) := ⟨_, rfl⟩
 have kC : Keeps w1 W1 := by rw [hW1]; exact ((Keeps.refl w1).alloc _).alloc _
 have hsz : (w1.alloc (.cells #[.int .i64 a.length, .slice p1 m1 c1] 35)).heap.size = w1.heap.size + 1 := by simp
 have hfb : BoxG W1 w1.heap.size 35 [.int .i64 a.length, .slice p1 m1 c1] := by rw [hW1]; exact (BoxG.made w1 _ _ (by simp) (by simp)).keeps ((Keeps.refl _).alloc _)
 have hmb : BoxG W1 (w1.heap.size + 1) 37 [.int .i64 a.length, .slice p1 m1 c1, .slice none 0 0] := by
  have h := BoxG.made (w1.alloc (.cells #[.int .i64 a.length, .slice p1 m1 c1] 35)) 37 [.int .i64 a.length, .slice p1 m1 c1, .slice none 0 0] (by simp) (by simp)
  rw [hsz] at h
  rw [hW1]; exact h
 have HMV := hid (show MV B w W1 w1.heap.size (w1.heap.size + 1) a.length (.slice p1 m1 c1) (zs a) (.slice none 0 0) from
  ⟨(hb0.dr d1 hB).keeps kC, hfb, hmb, (hv1.keeps kC).mono (by omega), fun k hk => (hv1.len k hk).2, by omega, by omega, hB, (D0.trans d1).keeps kC⟩)
 have HW1 := hid hW1
 have hW1s : w1.heap.size + 1 < W1.heap.size := hmb.lt
 clear hb0 D0 hs0 HW0 hz1 hv1 d1 kC hfb hmb hsz hW1
 have HF := hid (fun wz => l01Full_any (a.length : Int) wz (by omega) (by omega))
 have hp8 : (2 : Nat) ^ a.length ≤ 2 ^ 8 := Nat.pow_le_pow_right (by omega) (by omega)
 have hpp := Nat.two_pow_pos a.length
 have hpc : (2 : Int) ^ a.length - 1 = ((2 ^ a.length - 1 : Nat) : Int) := by
  rw [show (2 : Int) ^ a.length = ((2 ^ a.length : Nat) : Int) by push_cast; rfl]
  omega
 simp only [Int.toNat_natCast, hpc] at HF
 clear hpc
 have hq : 2 ^ a.length - 1 ≤ 255 := by omega
 generalize 2 ^ a.length - 1 = q at *
 clear hp8 hpp
 have HWQ := hid (show IntKind.i64.wrap ((q : Int) + 1) = ((q + 1 : Nat) : Int) by rw [show (q : Int) + 1 = ((q + 1 : Nat) : Int) by push_cast; rfl]; exact wrapN _ (by omega))
 go_wp2_with fail
 rw [← HW1.out]
 clear HW1
 generalize w1.heap.size = g1 at *
 go_wp2_with fail
 go_loopw [7] (fun s7 wr => ∃ k : Nat, k ≤ 6 ∧ s7 = .int .i64 k ∧ ∃ u, ∃ vs : List Int, vs.length = k ∧ MV B w wr g1 (g1 + 1) a.length (.slice p1 m1 c1) (zs a) u ∧ OwnI wr (g1 + 2) u vs) (fun s7 _ => 6 - (intOf s7).toNat)
 case atStart => exact ⟨0, by omega, rfl, _, [], rfl, HMV.out, OwnI.nil _ _⟩
 case round =>
  obtain ⟨k, hk, rfl, u, vs, hvl, HM, hu⟩ := hrel
  clear HMV
  obtain ⟨pu, mu, cu, rfl⟩ := hu.shape0
  have x0 := HM.mb.cell 0 (by simp)
  have x1 := HM.mb.cell 1 (by simp)
  have x2 := HM.mb.cell 2 (by simp)
  simp only [List.getElem_cons_zero, List.getElem_cons_succ] at x0 x1 x2
  by_cases hlt : k < 6
  ·have hlt' : (k : Int) < 6 := by omega
   have kd := (Keeps.refl wr).drew
   have HMd := HM.keeps kd
   have hud := hu.keeps kd
   have HOW := hid (l01Own_any vs _ _ (hud.ints (by omega)))
   have z0 : wr.drew.cell? ⟨g1, 0, none⟩ = some (.int .i64 (a.length : Int)) := HMd.fb.cell 0 (by simp)
   have z2 : wr.drew.cell? ⟨g1 + 1, 2, none⟩ = some (.slice pu mu cu) := HMd.mb.cell 2 (by simp)
   have hgr : g1 + 1 < wr.heap.size := HM.mb.lt
   have hgd : wr.drew.heap.size = wr.heap.size := rfl
   have hlt1 := HM.lt1
   go_wp2_with fail
   go_region_law (first
    | (go_simp; go_at_call 109; refine HOW.out.mono ?_; rintro e w2 ⟨u2, rfl, hu2, k2⟩; have HM2 := HMd.keeps k2; have z02 : w2.cell? ⟨g1, 0, none⟩ = some (.int .i64 (a.length : Int)) := HM2.fb.cell 0 (by simp))
    | (go_simp; go_at_call 80; refine (HF.out _).mono ?_; rintro e w' ⟨rfl, rfl⟩)
    | (have hq2 := HM2.D.2; go_simp; go_at_call 50; refine (l01Next_any (IntKind.i64.wrap ((q : Int) + 1)) B _ hq2 (by rw [HWQ.out]; omega)).mono ?_; rintro e w3 ⟨r3, rfl, hr3, d3⟩; have HM3 := HM2.dr d3; have hu3 := hu2.dr d3 (by omega); have kA3 := (Keeps.refl w3).alloc (.cells #[.int .i64 (r3 : Int)] 2); have hz3 := d3.size; have hz2 := k2.size)
    | (refine stepI rfl (.tmp 19) (.tmp 26) rfl wr.drew.heap.size _ vs rfl (hu3.keeps kA3) _ [(r3 : Int)] rfl (Ints.lit1 w3 _) (by simp; omega) (by simp; omega) ?_; intro v4 w4 hv4 hg4 hr4; have HM4 := (HM3.keeps kA3).grown hg4 (fun i hi => by have := hr4 i hi; omega); have e2 : w4.cell? ⟨g1 + 1, 2, none⟩ = some (.slice pu mu cu) := HM4.mb.cell 2 (by simp); have ef := HM4.mb.froz 2; obtain ⟨p4, m4, c4, rfl⟩ := hv4.shape0))
   all_goals
    have HM5 := hid (HM4.put (.slice p4 m4 c4))
    have hv5 := hid (OwnI.mono (show OwnI (w4.setCell ⟨g1 + 1, 2, none⟩ (.slice p4 m4 c4)) wr.drew.heap.size (.slice p4 m4 c4) (vs ++ [(r3 : Int)]) from own_boxed hv4 HM4.mb tyneMd) (show g1 + 2 ≤ wr.drew.heap.size by omega))
    go_wp2
    go_roundw
    case rel => exact ⟨k + 1, by omega, by go_num, _, _, by simp [hvl], HM5.out, hv5.out⟩
    case measure => simp [intOf]; omega
  ·have e : k = 6 := by omega
   subst e
   have y0 := HM.box.cell 0 (by simp)
   have y1 := HM.box.cell 1 (by simp)
   have y2 := HM.box.cell 2 (by simp)
   have f0 := HM.box.froz 0
   have f1 := HM.box.froz 1
   have f2 := HM.box.froz 2
   simp only [List.getElem_cons_zero, List.getElem_cons_succ] at y0 y1 y2
   have b1 := HM.box.set 0 (.int .i64 (a.length : Int))
   have b2 := b1.set 1 (.slice p1 m1 c1)
   have hlt1 := HM.lt1
   have HE := hid (show DrawM B w (.returned (.agg #[.int .i64 a.length, .slice p1 m1 c1, .slice pu mu cu])) (((wr.setCell ⟨w.heap.size, 0, none⟩ (.int .i64 (a.length : Int))).setCell ⟨w.heap.size, 1, none⟩ (.slice p1 m1 c1)).setCell ⟨w.heap.size, 2, none⟩ (.slice pu mu cu)) from
    ⟨_, a, _, vs, rfl, own_boxed (own_boxed (own_boxed HM.own HM.box tyneMd) b1 tyneMd) b2 tyneMd, OwnI.mono (own_boxed (own_boxed (own_boxed hu HM.box tyneMd) b1 tyneMd) b2 tyneMd) (show w.heap.size ≤ g1 + 2 by omega), fun k e1 e2 => by have h1 := HM.vb k e1; have h2 := (hu.len k e2).1; omega, hla, hba, hvl, ((HM.D.box HM.box hB (Nat.le_refl _)).box b1 hB (Nat.le_refl _)).box b2 hB (Nat.le_refl _)⟩)
   obtain ⟨q0, q1, q2⟩ := box_three (x := .int .i64 (a.length : Int)) (y := .slice p1 m1 c1) (z := .slice pu mu cu) HM.box
   have HQ := hid (And.intro q0 (And.intro q1 q2))
   clear q0 q1 q2 b1 b2 HM hu
   go_wp2_with fail
   exact bodyPost_ret (results_m1 _ _ w.heap.size rfl HQ.out.1 HQ.out.2.1 HQ.out.2.2 ⟨_, _, _, rfl⟩ ⟨_, _, _, rfl⟩) rfl HE.out
end Go.Proofs.YtfmmajgkjkmghaaGreat
