import Derived.Test.YtfmmajgkjkmghaaGreatDoorHQE0
import Derived.Test.YtfmmajgkjkmghaaGreatDoorHQU
import Derived.Test.YtfmmajgkjkmghaaGreatDoorHQ2
import Derived.Test.YtfmmajgkjkmghaaGreatDoorHQT
import Derived.Test.YtfmmajgkjkmghaaGreatDoorHQJ
import Derived.Test.YtfmmajgkjkmghaaGreatDoorHAL
import Derived.Deep.RegionHeld3
/- Depths of an order: the program's side. -/
namespace Go.Proofs.YtfmmajgkjkmghaaGreatDoor
open Go.RowKit
theorem zs_one (n : Nat) : List.replicate n (1 : Int) = zs (List.replicate n 1) := by simp [zs]
set_option maxRecDepth 20000 in
set_option maxHeartbeats 4000000 in
theorem worldDepths_any (b : List Nat) (hp : Pos b) (v : Value) (w : World) (hv : Ints w v (zs b)) :
  Calls Tryz.prog 152 #[.agg #[.int .i64 b.length, v]] w (RetI w (zs (dptL b))) := by
 obtain ⟨hb, hbm, hr, ht, ha⟩ := hp
 have kA := (Keeps.refl w).alloc (.cells #[.int .i64 b.length, v] 57)
 obtain ⟨c0, c1⟩ := BoxF.made w b.length v 57
 have HRB := hid (fun wz (k : Keeps w wz) => reachable_id b b.length v wz (hv.keeps k) hb hbm hr ht)
 have HCB := hid (fun wz (k : Keeps w wz) => clusters_any b v wz (hv.keeps k) hb hbm hr ht)
 rw [clB_range hb hbm hr ht ha] at HCB
 have HRP := hid (fun u wz (hu : Ints wz u [1]) => repeat_one b.length u wz hu hb)
 rw [zs_one] at HRP
 have HMB := hid (fun k wz => membersB_any (b.getD k 0) wz (by have := hbm k; have := two8 hb; omega))
 have HS0 := hid (rnd_start hb hbm hr ht ha)
 have HSE := hid (fun a (h : RndA b a (b.length + 1)) => rnd_end hb hbm hr ht ha h)
 have HST := hid (fun t x l j a (h : InnA b t x l j a) (hx : x < b.length) (hj : j < l.length) (hbit : (b.getD x 0).testBit l[j] = true) (hne : l[j] ≠ x) => inn_step hb hbm hr ht ha h hx hj hbit hne)
 have HIE := hid (fun t x a (h : InnA b t x (memB (b.getD x 0)) (memB (b.getD x 0)).length a) (hx : x < b.length) => inn_end hb hbm hr ht ha h hx)
 have HML := hid (fun x => show (memB (b.getD x 0)).length ≤ 8 from lowB_len _ 8)
 have HMM := hid (fun x y (h : y ∈ memB (b.getD x 0)) => show y < b.length ∧ (b.getD x 0).testBit y = true from ⟨memB_lt (hbm x) h, (memB_mem h).2⟩)
 have HD8 := hid (fun i (hi : i < b.length) => dptB_8 hb hbm hr ht ha hi)
 obtain ⟨p, cap, rfl, hle, hmx, _, _⟩ := hv
 unfold maxLen at hmx
 rw [zs_length b] at *
 clear hbm hr ht ha
 have kd0 := (Keeps.refl (w.alloc (.cells #[.int .i64 b.length, .slice p b.length cap] 57))).drew
 have e0 := And.intro (kd0.cell c0) (kd0.cell c1)
 have kD := kA.drew
 go_enter Tryz.func152, Tryz.ntmps152
 go_wp2_with fail
 go_region_held3 (fun w' => w'.cell? ⟨w.heap.size, 0, none⟩ = some (.int .i64 b.length) ∧ w'.cell? ⟨w.heap.size, 1, none⟩ = some (.slice p b.length cap)) (first | exact e0 | exact e1 | exact e2) (first | (go_at_call 177; refine (HRB.out _ kD).mono ?_; rintro e w2 ⟨v2, rfl, hv2, k2⟩; have e1 := And.intro (k2.cell e0.1) (k2.cell e0.2)) | (go_at_call 178; refine (HCB.out _ (kD.trans k2)).mono ?_; rintro e w3 ⟨v3, rfl, hv3, k3⟩; have e2 := And.intro (k3.cell e1.1) (k3.cell e1.2)))
 obtain ⟨p2, m2, q2, rfl⟩ := hv2.shape0
 obtain ⟨p3, m3, q3, rfl⟩ := hv3.shape0
 have HV2 := hid ((hv2.keeps k3).ints (by rw [zs_length]; omega))
 have HV3 := hid (hv3.ints (by rw [zs_length, List.length_range]; omega))
 have kk := kD.trans (k2.trans k3)
 have k4 := (Keeps.refl w3).alloc (.cells #[.int .i64 1] 2)
 have z0 := k4.cell e2.1
 have z1 := k4.cell e2.2
 have HR := hid (HRP.out _ _ (Ints.lit1 w3 1))
 have hl2 : m2 = b.length := by obtain ⟨_, _, e, _⟩ := HV2.out; cases e; exact zs_length b
 have hl3 : m3 = b.length := by obtain ⟨_, _, e, _⟩ := HV3.out; cases e; rw [zs_length, List.length_range]
 subst hl2
 subst hl3
 have E2 := hid e2
 clear hv2 hv3 e0 e1 e2 c0 c1
 go_wp2_with fail
 refine HR.out.mono ?_; rintro e w4 ⟨v4, rfl, hv4, k5⟩
 replace z0 := k5.cell z0
 replace z1 := k5.cell z1
 have k45 := k4.trans k5
 have kall := kk.trans k45
 have hs4 := kall.size
 obtain ⟨p4, m4, q4, rfl⟩ := hv4.shape0
 have hm4 : m4 = b.length := by
  obtain ⟨p', c', e, _⟩ := At.of_own hv4
  rw [zs_length, List.length_replicate] at e
  injection e
 subst hm4
 have HO := hid hv4
 have hgo : ∀ g, p4 = some ⟨g, 0, none⟩ → w3.heap.size < g := fun g e => by
  subst e
  have := (hv4.len g rfl).1
  simp at this; omega
 have HGO := hid hgo
 have hs3 := kk.size
 clear hv4 HR hgo
 go_wp2_with fail
 clear z0 z1
 go_loopw [19] (fun r' wr => ∃ (t : Nat) (a : List Nat), t ≤ b.length ∧ r' = .int .i64 t ∧ RndA b a (t + 1) ∧ OwnI wr (w3.heap.size + 1) (.slice p4 b.length q4) (zs a) ∧ Keeps w3 wr) (fun r' _ => b.length - (intOf r').toNat)
 case atStart => exact ⟨0, _, by omega, rfl, HS0.out, HO.out.mono (by simp), k45⟩
 case round =>
  obtain ⟨t, a, htl, rfl, hrnd, hown, kw⟩ := hrel
  clear HO
  have z0 := kw.cell E2.out.1
  by_cases hlt : t < b.length
  ·have hlt' : (t : Int) < b.length := by omega
   have HM0 := hid (mid_start hrnd)
   have HO1 := hid hown
   have KW := hid kw
   clear hrnd hown kw
   go_wp2_with fail
   go_loopw [23] (fun x' wr => ∃ (x : Nat) (a : List Nat), x ≤ b.length ∧ x' = .int .i64 x ∧ MidA b t x a ∧ OwnI wr (w3.heap.size + 1) (.slice p4 b.length q4) (zs a) ∧ Keeps w3 wr) (fun x' _ => b.length - (intOf x').toNat)
   case atStart => exact ⟨0, a, by omega, rfl, HM0.out, HO1.out, KW.out⟩
   case round =>
    obtain ⟨x, a, hxl, rfl, hmid, hown, kw⟩ := hrel
    clear HM0 HO1 KW z0
    by_cases hxt : x < b.length
    ·have hxt' : (x : Int) < b.length := by omega
     have hal := hmid.1.1
     obtain ⟨g, cap4, ev, hBg, hgl, _⟩ := hown.shape (by rw [zs_length, hal]; omega)
     have ev1 : p4 = some ⟨g, 0, none⟩ := by injection ev
     clear ev
     subst ev1
     clear hal
     obtain ⟨b2, o2, rfl, h2⟩ := (HV2.out.keeps kw).zs_cell x hxt
     have HM := hid (HMB.out x wr)
     have hml := HML.out x
     have HMMx := hid (HMM.out x)
     have HIEx := hid (fun a h => HIE.out t x a h hxt)
     have HSTx := hid (fun a j h (hj : j < (memB (b.getD x 0)).length) hbit hne => HST.out t x (memB (b.getD x 0)) j a h hxt hj hbit hne)
     have HI0 := hid (inn_start (l := memB (b.getD x 0)) hmid)
     have HO1 := hid hown
     have KW := hid kw
     clear hmid hown kw
     generalize memB (b.getD x 0) = l at *
     generalize hbx : b.getD x 0 = bx at *
     have HBX := hid hbx; clear hbx
     go_wp2_with fail
     refine HM.out.mono ?_; rintro e w5 ⟨v5, rfl, hv5, k6⟩
     obtain ⟨p5, c5, rfl, _, hm5, _, _⟩ := hv5.ints (by rw [zs_length]; omega)
     unfold maxLen at hm5
     rw [zs_length] at *
     have HL5 := hid hv5
     have HO2 := hid (HO1.out.keeps k6)
     have KW2 := hid (KW.out.trans k6)
     have hw5 := k6.size
     clear hv5 HO1 KW HM
     go_wp2_with fail
     go_loopw [32] (fun j' wq => ∃ (j : Nat) (a : List Nat), j ≤ l.length ∧ j' = .int .i64 j ∧ InnA b t x l j a ∧ OwnI wq (w3.heap.size + 1) (.slice (some ⟨g, 0, none⟩) b.length q4) (zs a) ∧ OwnI wq wr.heap.size (.slice p5 l.length c5) (zs l) ∧ Keeps w3 wq) (fun j' _ => l.length - (intOf j').toNat)
     case atStart => exact ⟨0, a, by omega, rfl, HI0.out, HO2.out, HL5.out, KW2.out⟩
     case round =>
      obtain ⟨j, a, hjl, rfl, hinn, hown, hl5, kw⟩ := hrel
      clear HI0 HO2 HL5 KW2
      by_cases hjt : j < l.length
      ·have hjt' : (j : Int) < l.length := by omega
       obtain ⟨b5, o5, e5, h5⟩ := (hl5.ints (by rw [zs_length]; omega)).zs_cell j hjt
       rw [getD_get hjt] at h5
       obtain ⟨hy, hbit⟩ := HMMx.out l[j] (List.getElem_mem hjt)
       obtain ⟨b3, o3, e3, h3⟩ := (HV3.out.keeps kw).zs_cell x (by rw [List.length_range]; exact hxt)
       obtain ⟨b3', o3', e3', h3'⟩ := (HV3.out.keeps kw).zs_cell l[j] (by rw [List.length_range]; exact hy)
       rw [range_get hxt] at h3
       rw [range_get hy] at h3'
       rw [e3] at e3'
       cases e3'
       subst e3
       subst e5
       have hal := hinn.1.1.1
       have hax := (hinn.1.1.2.1 x hxt).2
       have hay := (hinn.1.1.2.1 l[j] hy).2
       have hdx := HD8.out x hxt
       have hdy := HD8.out l[j] hy
       have hxt' : (x : Int) < b.length := by omega
       have hy' : (l[j] : Int) < b.length := by omega
       by_cases hyx : l[j] = x
       ·have HI := hid (inn_skip hinn hjt hyx)
        rw [hyx] at h5 h3' hy
        have HO := hid hown; clear hown
        have HL := hid hl5; clear hl5
        have KW := hid kw; clear kw
        clear hinn hal hax hay hdx hdy hbit
        go_wp2_with fail
        go_quiet (fail)
        go_wp2_with fail
        go_roundw
        case rel => exact ⟨j + 1, a, by omega, by go_num, HI.out, HO.out.keeps ((Keeps.refl _).drewN _), HL.out.keeps ((Keeps.refl _).drewN _), KW.out.drewN _⟩
        case measure => simp [intOf]; omega
       ·have HI := HSTx.out a j hinn hjt hbit hyx
        obtain ⟨ci, fi⟩ := hown.cell x (by rw [zs_length]; omega)
        obtain ⟨cj, fj⟩ := hown.cell l[j] (by rw [zs_length]; omega)
        rw [zs_get] at ci cj
        rw [← getD_get (b := a)] at ci cj
        have hst : ∀ n : Nat, OwnI ((wr.drewN n).setCell ⟨g, x, none⟩ (.int .i64 ((max (a.getD x 0) (a.getD l[j] 0 + 1) : Nat) : Int))) (w3.heap.size + 1) (.slice (some ⟨g, 0, none⟩) b.length q4) (zs (a.set x (max (a.getD x 0) (a.getD l[j] 0 + 1)))) ∧ (wr.drewN n).grownBy ((wr.drewN n).setCell ⟨g, x, none⟩ (.int .i64 ((max (a.getD x 0) (a.getD l[j] 0 + 1) : Nat) : Int))) (some g) := fun n => by
         rw [zs_set]
         exact OwnI.store (hown.keeps ((Keeps.refl _).drewN n)) x (by rw [zs_length]; omega) _
        have hl6 := fun n : Nat => OwnI.setBelow (hl5.keeps ((Keeps.refl _).drewN n)) (o := x) hgl (.int .i64 ((max (a.getD x 0) (a.getD l[j] 0 + 1) : Nat) : Int))
        have hxy : (x : Int) ≠ l[j] := by omega
        have hax8 : a.getD x 0 ≤ 8 := by omega
        have hay8 : a.getD l[j] 0 ≤ 8 := by omega
        clear hal hax hay hdx hdy hbit hinn hown hl5
        generalize l[j] = y at *
        generalize ha' : a.set x (max (a.getD x 0) (a.getD y 0 + 1)) = a' at *
        clear ha'
        generalize a.getD x 0 = ax at *
        generalize a.getD y 0 = ay at *
        have HI := hid HI
        rcases Nat.lt_or_ge ax (ay + 1) with hlt3 | hlt3
        ·rw [Nat.max_eq_right (by omega), show ((ay + 1 : Nat) : Int) = (ay : Int) + 1 from by omega] at hst hl6
         have HST := hid hst; clear hst
         have HL6 := hid hl6; clear hl6
         have KW := hid kw; clear kw
         go_wp2_with fail
         go_quiet (fail)
         go_wp2_with fail
         go_region
         go_wp2
         go_roundw
         case rel => exact ⟨j + 1, _, by omega, by go_num, HI.out, (HST.out _).1, HL6.out _, (KW.out.drewN _).grown (HST.out _).2 (fun k hk => by cases hk; omega)⟩
         case measure => simp [intOf]; omega
        ·rw [Nat.max_eq_left (by omega)] at hst hl6
         have HST := hid hst; clear hst
         have HL6 := hid hl6; clear hl6
         have KW := hid kw; clear kw
         go_wp2_with fail
         go_quiet (fail)
         go_wp2_with fail
         go_region
         go_wp2
         go_roundw
         case rel => exact ⟨j + 1, _, by omega, by go_num, HI.out, (HST.out _).1, HL6.out _, (KW.out.drewN _).grown (HST.out _).2 (fun k hk => by cases hk; omega)⟩
         case measure => simp [intOf]; omega
      ·obtain rfl : j = l.length := by omega
       have hjt' : ¬ (l.length : Int) < l.length := by omega
       have HI := hid (HIEx.out a hinn)
       clear hinn
       go_wp2_with fail
       go_roundw
       case rel => exact ⟨x + 1, a, by omega, by go_num, HI.out, hown, kw⟩
       case measure => simp [intOf]; omega
    ·obtain rfl : x = b.length := by omega
     have hxt' : ¬ (b.length : Int) < b.length := by omega
     have HI := hid (mid_end hmid)
     clear hmid
     go_wp2_with fail
     go_roundw
     case rel => exact ⟨t + 1, a, by omega, by go_num, HI.out, hown, kw⟩
     case measure => simp [intOf]; omega
  ·obtain rfl : t = b.length := by omega
   have hlt' : ¬ (b.length : Int) < b.length := by omega
   have he := HSE.out a hrnd
   subst he
   go_wp2_with fail
   go_ret
   exact ⟨_, rfl, hown.mono (by omega), kk.trans kw⟩
end Go.Proofs.YtfmmajgkjkmghaaGreatDoor
namespace Go.Proofs.YtfmmajgkjkmghaaGreatDoor
open Go.RowKit
set_option maxRecDepth 20000 in
theorem posetDepths_any (b : List Nat) (hp : Pos b) (v : Value) (w : World) (hv : Ints w v (zs b)) :
  Calls Tryz.prog 113 #[.agg #[.int .i64 b.length, v]] w (RetI w (zs (dptL b))) := by
 have kA := (Keeps.refl w).alloc (.cells #[.int .i64 b.length, v] 26)
 have HF := hid (frame_any b.length (zs b) v _ (hv.keeps kA))
 rw [zs_length] at HF
 have HW := hid (fun wz (k : Keeps w wz) => worldDepths_any b hp v wz (hv.keeps k))
 obtain ⟨p, cap, rfl, _⟩ := hv
 have kz := kA.size
 clear hp
 go_enter Tryz.func113, Tryz.ntmps113
 go_wp2_with fail
 refine HF.out.mono ?_; rintro e w2 ⟨rfl, k2⟩
 go_wp2_with fail
 refine (HW.out _ (kA.trans k2)).mono ?_; rintro e w3 ⟨vd, rfl, hvd, k3⟩
 have hs2 := (kA.trans k2).size
 go_wp2_with fail
 go_ret
 exact ⟨_, rfl, hvd.mono (by omega), (kA.trans k2).trans k3⟩
end Go.Proofs.YtfmmajgkjkmghaaGreatDoor
namespace Go.Proofs.YtfmmajgkjkmghaaGreatDoor
open Go.RowKit
set_option maxRecDepth 20000 in
theorem posetDepth_any (b : List Nat) (hp : Pos b) (v : Value) (w : World) (hv : Ints w v (zs b)) :
  Calls Tryz.prog 49 #[.agg #[.int .i64 b.length, v]] w fun e w' => e = .returned (.int .i64 (maxTo (dptL b) b.length)) ∧ Keeps w w' := by
 obtain ⟨hb, hbm, hr, ht, ha⟩ := id hp
 have kA := (Keeps.refl w).alloc (.cells #[.int .i64 b.length, v] 26)
 obtain ⟨c0, c1⟩ := BoxF.made w b.length v 26
 have HW := hid (posetDepths_any b hp v _ (hv.keeps kA))
 have hdl := dptL_len b
 have HM := hid (fun u wz (hu : Ints wz u (zs (dptL b))) (h0 : 0 < b.length) => maxI_any (dptL b) u wz hu (by omega) (fun i => by
  by_cases h : i < b.length
  ·rw [dptL_get h]; have := dptB_8 hb hbm hr ht ha h; omega
  ·rw [List.getD_eq_getElem?_getD, List.getElem?_eq_none (by omega)]; simp) (by omega))
 rw [hdl] at HM
 obtain ⟨p, cap, rfl, _⟩ := hv
 have HZ : Hid (b.length = 0 → maxTo (dptL b) b.length = 0) := hid (fun h => by rw [h]; rfl)
 clear hp hbm hr ht ha
 rw [zs_length] at *
 by_cases hz : b.length = 0
 ·have hz' : (b.length : Int) = 0 := by omega
  rw [HZ.out hz]
  go_enter Tryz.func49, Tryz.ntmps49
  go_wp2_with fail
  go_ret
  exact ⟨rfl, (Keeps.refl w).alloc _⟩
 ·have hz' : ¬ (b.length : Int) = 0 := by omega
  go_enter Tryz.func49, Tryz.ntmps49
  go_wp2_with fail
  refine HW.out.mono ?_; rintro e w2 ⟨vd, rfl, hvd, k2⟩
  have HM2 := hid (HM.out vd w2 (hvd.ints (by rw [zs_length]; omega)) (by omega))
  obtain ⟨p2, m2, q2, rfl⟩ := hvd.shape0
  go_wp2_with fail
  refine HM2.out.mono ?_; rintro e w3 ⟨rfl, rfl⟩
  go_wp2_with fail
  go_ret
  exact ⟨rfl, kA.trans k2⟩
end Go.Proofs.YtfmmajgkjkmghaaGreatDoor
namespace Go.Proofs.YtfmmajgkjkmghaaGreatDoor
open Go.RowKit
set_option maxRecDepth 20000 in
theorem isOf_2_any (b : List Nat) (n : Int) (m B : Nat) (v : Value) (w : World) (hv : Ints w v (zs b)) (hb : b.length ≤ 8) (hm : m < 256)
  (c0 : w.cell? ⟨B, 0, none⟩ = some (.int .i64 n)) (c1 : w.cell? ⟨B, 1, none⟩ = some v) :
  Calls Tryz.prog 53 #[.int .i64 m, .pointer (some ⟨B, 0, none⟩)] w fun e w' => e = .returned (.bool (ofKC b m)) ∧ Keeps w w' := by
 have h256 := two8 hb
 have hmx8 : mxB b < 256 := Nat.lt_of_lt_of_le (mxT_lt b b.length) h256
 have HM := hid (maximal_any b n v w hv hb)
 have hand := andN m (mxB b) (by omega) (by omega)
 have HC := hid (fun wz => countMembers_any (m &&& mxB b) wz (Nat.lt_of_le_of_lt Nat.and_le_right hmx8))
 have h8 := cntB_le (m &&& mxB b)
 have HK : Hid (ofKC b m = (cntB (m &&& mxB b) == 1)) := hid rfl
 obtain ⟨p, cap, rfl, _⟩ := hv
 generalize mxB b = mx at *
 generalize hcg : cntB (m &&& mx) = cg at *
 have HCG := hid hcg; clear hcg
 go_enter Tryz.func53, Tryz.ntmps53
 go_wp2_with fail
 refine HM.out.mono ?_; rintro e w2 ⟨rfl, k2⟩
 go_wp2_with fail
 refine (HC.out _).mono ?_; rintro e w' ⟨rfl, rfl⟩
 go_wp2_with fail
 go_ret
 refine ⟨ret_bool ?_, k2⟩
 rw [HK.out, Bool.eq_iff_iff, beq_iff_eq, beq_iff_eq]
 omega
theorem enters_isOf_2 : Enters 53 := fun _ _ => by kernel_rfl
theorem isOf_3_any (m : Nat) (w : World) (hm : m < 256) :
  Calls Tryz.prog 55 #[.int .i64 m] w fun e w' => e = .returned (.bool (ofSmL m)) ∧ Keeps w w' := by
 have HC := hid (fun wz => countMembers_any m wz hm)
 have HK : Hid (ofSmL m = decide (cntB m ≤ 2)) := hid rfl
 generalize hcg : cntB m = cg at *
 have HCG := hid hcg; clear hcg
 go_enter Tryz.func55, Tryz.ntmps55
 go_wp2_with fail
 refine (HC.out _).mono ?_; rintro e w' ⟨rfl, rfl⟩
 go_wp2_with fail
 go_ret
 refine ⟨ret_bool ?_, Keeps.refl _⟩
 rw [HK.out, decide_eq_decide]
 omega
theorem enters_isOf_3 : Enters 55 := fun _ _ => by kernel_rfl
set_option maxRecDepth 20000 in
theorem isOf_1_1_any (P : Nat → Bool) (f : FuncId) (cp : Array Value) (m B : Nat) (w : World) (hcf : Enters f) (hc : w.cell? ⟨B, 0, none⟩ = some (.func (.func f) #[] cp))
  (hf : Calls Tryz.prog f (#[.int .i64 m] ++ cp) w fun e w2 => e = .returned (.bool (P m)) ∧ Keeps w w2) :
  Calls Tryz.prog 48 #[.int .i64 m, .pointer (some ⟨B, 0, none⟩)] w fun e w' => e = .returned (.bool (!P m)) ∧ Keeps w w' := by
 have HF := hid hf; clear hf
 have hcf' : ∀ args w, (callFunc f args).run Tryz.prog w = .ok (.enter f args) w := hcf
 clear hcf
 generalize P m = r at *
 go_enter Tryz.func48, Tryz.ntmps48
 go_wp2_with ((with_reducible refine HF.out.mono ?_); rintro e w2 ⟨rfl, k2⟩)
 go_ret
 exact ⟨rfl, k2⟩
theorem enters_isOf_1_1 : Enters 48 := fun _ _ => by kernel_rfl
set_option maxRecDepth 20000 in
theorem isOf_1_any (b : List Nat) (n : Int) (P : Nat → Bool) (f : FuncId) (cp : Array Value) (B : Nat) (v : Value) (w : World) (hv : Ints w v (zs b)) (hcf : Enters f)
  (c0 : w.cell? ⟨B, 0, none⟩ = some (.int .i64 n)) (c1 : w.cell? ⟨B, 1, none⟩ = some v)
  (hf : ∀ m w1, m ∈ b → Keeps w w1 → Calls Tryz.prog f (#[.int .i64 m] ++ cp) w1 fun e w2 => e = .returned (.bool (P m)) ∧ Keeps w1 w2) :
  Calls Tryz.prog 46 #[.func (.func f) #[] cp, .pointer (some ⟨B, 0, none⟩)] w fun e w' => e = .returned (.bool (b.all P)) ∧ Keeps w w' := by
 have kA := (Keeps.refl w).alloc (.cells #[.func (.func f) #[] cp] 79)
 have hc : (w.alloc (.cells #[.func (.func f) #[] cp] 79)).cell? ⟨w.heap.size, 0, none⟩ = some (.func (.func f) #[] cp) := by simp
 replace c0 := kA.cell c0
 replace c1 := kA.cell c1
 have HC := hid (containsFuncI (fun x => !P x.toNat) 48 #[.pointer (some ⟨w.heap.size, 0, none⟩)] (zs b) v (w.alloc (.cells #[.func (.func f) #[] cp] 79)) (hv.keeps kA) enters_isOf_1_1 (fun x w1 hx k1 => by
  unfold zs at hx
  obtain ⟨m, hm, rfl⟩ := List.mem_map.1 hx
  exact isOf_1_1_any P f cp m w.heap.size w1 hcf (k1.cell hc) (hf m w1 hm (kA.trans k1))))
 have he : (!((zs b).any fun x => !P x.toNat)) = b.all P := by
  rw [zs_any, not_any_not]; rfl
 have HE := hid he; clear he
 clear hc hf hcf
 obtain ⟨p, cap, rfl, _⟩ := hv
 go_enter Tryz.func46, Tryz.ntmps46
 go_wp2_with fail
 refine HC.out.mono ?_; rintro e w2 ⟨rfl, k2⟩
 go_wp2_with fail
 go_ret
 exact ⟨ret_bool HE.out, kA.trans k2⟩
theorem enters_isOf_1 : Enters 46 := fun _ _ => by kernel_rfl
theorem posetAll_any (b : List Nat) (v : Value) (w : World) (hv : Ints w v (zs b)) (hb : b.length ≤ 8) :
  Calls Tryz.prog 52 #[.agg #[.int .i64 b.length, v]] w fun e w' => e = .returned (.int .i64 ((2 ^ b.length - 1 : Nat) : Int)) ∧ Keeps w w' := by
 have kA := (Keeps.refl w).alloc (.cells #[.int .i64 b.length, v] 26)
 obtain ⟨c0, c1⟩ := BoxF.made w b.length v 26
 have hpos : 0 < 2 ^ b.length := Nat.two_pow_pos _
 have e2 : ((2 ^ b.length - 1 : Nat) : Int) = (2 : Int) ^ b.length - 1 := by
  rw [Int.ofNat_sub (by omega)]; push_cast; rfl
 obtain ⟨e3, e4⟩ := pow63 b.length (by omega)
 rw [e2]
 obtain ⟨p, cap, rfl, _⟩ := hv
 rw [zs_length] at *
 generalize hn : b.length = n at *
 have HN := hid hn; clear hn e2 hpos
 go_enter Tryz.func52, Tryz.ntmps52
 go_wp2_with fail
 go_ret
 exact ⟨rfl, kA⟩
set_option maxRecDepth 20000 in
set_option maxHeartbeats 4000000 in
theorem isOf_any (b : List Nat) (hp : Pos b) (k : Nat) (hk : k < 9) (v : Value) (w : World) (hv : Ints w v (zs b)) :
  Calls Tryz.prog 16 #[.agg #[.int .i64 b.length, v], .string (nameK k)] w fun e w' => e = .returned (.bool (ofK b k)) ∧ Keeps w w' := by
 obtain ⟨hb, hbm, hr, ht, ha⟩ := id hp
 have h256 := two8 hb
 have kA := (Keeps.refl w).alloc (.cells #[.int .i64 b.length, v] 26)
 obtain ⟨c0, c1⟩ := BoxF.made w b.length v 26
 have hm256 : ∀ m ∈ b, m < 256 := fun m hm => by
  obtain ⟨j, hj, rfl⟩ := List.getElem_of_mem hm
  have := hbm j
  rw [getD_get hj] at this
  omega
 have HD := hid (fun wz (kz : Keeps w wz) => posetDepth_any b hp v wz (hv.keeps kz))
 have HWD := hid (fun wz (kz : Keeps w wz) => width_any b b.length v wz (hv.keeps kz) hb hbm)
 have HMX := hid (fun wz (kz : Keeps w wz) => maximal_any b b.length v wz (hv.keeps kz) hb)
 have HAL := hid (fun wz (kz : Keeps w wz) => posetAll_any b v wz (hv.keeps kz) hb)
 have H6 := hid (fun wz (kz : Keeps (w.alloc (.cells #[.int .i64 b.length, v] 26)) wz) => isOf_1_any b b.length (ofKC b) 53 #[.pointer (some ⟨w.heap.size, 0, none⟩)] w.heap.size v wz (hv.keeps (kA.trans kz)) enters_isOf_2 (kz.cell c0) (kz.cell c1)
  (fun m w1 hm k1 => isOf_2_any b b.length m w.heap.size v w1 (hv.keeps ((kA.trans kz).trans k1)) hb (hm256 m hm) (k1.cell (kz.cell c0)) (k1.cell (kz.cell c1))))
 have H8 := hid (fun wz (kz : Keeps (w.alloc (.cells #[.int .i64 b.length, v] 26)) wz) => isOf_1_any b b.length ofSmL 55 #[] w.heap.size v wz (hv.keeps (kA.trans kz)) enters_isOf_3 (kz.cell c0) (kz.cell c1)
  (fun m w1 hm _ => isOf_3_any m w1 (hm256 m hm)))
 have h1' : ∀ args w, (callFunc 46 args).run Tryz.prog w = .ok (.enter 46 args) w := enters_isOf_1
 have HCL := hid (cl_eq hp)
 have HDP : Hid (depB b = maxTo (dptL b) b.length) := hid rfl
 have HOF : Hid (∀ k, ofK b k = if k = 0 then decide (depB b ≤ 2) else if k = 1 then decide (depB b ≤ 3) else if k = 2 then decide (widB b ≤ 2) else if k = 3 then decide (widB b ≤ 3)
  else if k = 4 then decide (depB b ≤ 1) else if k = 6 then b.all (ofKC b) else if k = 7 then decide (widB b ≤ 1) else if k = 8 then b.all ofSmL else true) := hid (fun _ => rfl)
 have kd := (Keeps.refl (w.alloc (.cells #[.int .i64 b.length, v] 26))).drew
 have d0 := kd.cell c0
 have d1 := kd.cell c1
 obtain ⟨p, cap, rfl, _⟩ := hv
 rw [zs_length] at *
 clear hbm hr ht ha hp hm256
 obtain ⟨name, hname⟩ : ∃ name, name = nameK k := ⟨_, rfl⟩
 rw [← hname]
 have HNM := hid hname; clear hname
 generalize mxB b = mx at *
 generalize widB b = wd at *
 rw [← HDP.out] at HD
 generalize depB b = dp at *
 generalize b.all (ofKC b) = r6 at *
 generalize b.all ofSmL = r8 at *
 generalize 2 ^ b.length - 1 = full at *
 generalize hn : b.length = n at *
 have Hn := hid hn; clear hn
 have hk9 : k = 0 ∨ k = 1 ∨ k = 2 ∨ k = 3 ∨ k = 4 ∨ k = 5 ∨ k = 6 ∨ k = 7 ∨ k = 8 := by omega
 rcases hk9 with rfl | rfl | rfl | rfl | rfl | rfl | rfl | rfl | rfl
 ·obtain rfl : name = ⟨#[66, 68, 50]⟩ := HNM.out
  clear HNM
  go_enter Tryz.func16, Tryz.ntmps16
  go_wp2_with fail
  refine (HD.out _ kA).mono ?_; rintro e w3 ⟨rfl, k3⟩
  go_wp2_with fail
  go_ret
  exact ⟨ret_bool (by rw [HOF.out]; first | (simp; done) | (simp; omega)), kA.trans k3⟩
 ·obtain rfl : name = ⟨#[66, 68, 51]⟩ := HNM.out
  clear HNM
  go_enter Tryz.func16, Tryz.ntmps16
  go_wp2_with fail
  refine (HD.out _ kA).mono ?_; rintro e w3 ⟨rfl, k3⟩
  go_wp2_with fail
  go_ret
  exact ⟨ret_bool (by rw [HOF.out]; first | (simp; done) | (simp; omega)), kA.trans k3⟩
 ·obtain rfl : name = ⟨#[66, 87, 50]⟩ := HNM.out
  clear HNM
  go_enter Tryz.func16, Tryz.ntmps16
  go_wp2_with fail
  refine (HWD.out _ kA).mono ?_; rintro e w3 ⟨rfl, k3⟩
  go_wp2_with fail
  go_ret
  exact ⟨ret_bool (by rw [HOF.out]; first | (simp; done) | (simp; omega)), kA.trans k3⟩
 ·obtain rfl : name = ⟨#[66, 87, 51]⟩ := HNM.out
  clear HNM
  go_enter Tryz.func16, Tryz.ntmps16
  go_wp2_with fail
  refine (HWD.out _ kA).mono ?_; rintro e w3 ⟨rfl, k3⟩
  go_wp2_with fail
  go_ret
  exact ⟨ret_bool (by rw [HOF.out]; first | (simp; done) | (simp; omega)), kA.trans k3⟩
 ·obtain rfl : name = ⟨#[67, 76]⟩ := HNM.out
  clear HNM
  have kdA := kA.trans kd
  have HO4 : Hid (ofK b 4 = (mx == full)) := hid (by rw [HOF.out, HCL.out]; simp)
  clear HOF HCL
  have HMd := hid (HMX.out _ kdA)
  have HAd := hid (HAL.out _ kdA)
  have HMAd := hid (fun wz (kz : Keeps (w.alloc (.cells #[.int .i64 n, .slice p n cap] 26)).drew wz) => HMX.out wz (kdA.trans kz))
  have HAMd := hid (fun wz (kz : Keeps (w.alloc (.cells #[.int .i64 n, .slice p n cap] 26)).drew wz) => HAL.out wz (kdA.trans kz))
  go_enter Tryz.func16, Tryz.ntmps16
  go_wp2_with fail
  go_region_held3 (fun w' => Keeps (w.alloc (.cells #[.int .i64 n, .slice p n cap] 26)).drew w' ∧ w'.cell? ⟨w.heap.size, 0, none⟩ = some (.int .i64 n) ∧ w'.cell? ⟨w.heap.size, 1, none⟩ = some (.slice p n cap)) (first | exact ⟨Keeps.refl _, d0, d1⟩ | exact ⟨k4, y0, y1⟩ | exact ⟨k5, x0, x1⟩ | exact ⟨k46, t0, t1⟩) (first | (go_at_call 51; refine HMd.out.mono ?_; rintro e w4 ⟨rfl, k4⟩; have y0 := k4.cell d0; have y1 := k4.cell d1) | (go_at_call 52; refine (HAMd.out _ k4).mono ?_; rintro e w6 ⟨rfl, k6⟩; have k46 := k4.trans k6; have t0 := k6.cell y0; have t1 := k6.cell y1) | (go_at_call 52; refine HAd.out.mono ?_; rintro e w5 ⟨rfl, k5⟩; have x0 := k5.cell d0; have x1 := k5.cell d1) | (go_at_call 51; refine (HMAd.out _ k5).mono ?_; rintro e w6 ⟨rfl, k6⟩; have k46 := k5.trans k6; have t0 := k6.cell x0; have t1 := k6.cell x1))
  all_goals
   go_wp2_with fail
   go_ret
   refine ⟨ret_bool ?_, kdA.trans k46⟩
   rw [HO4.out, Bool.eq_iff_iff, beq_iff_eq, beq_iff_eq]
   omega
 ·obtain rfl : name = ⟨#[73, 110, 116]⟩ := HNM.out
  clear HNM
  go_enter Tryz.func16, Tryz.ntmps16
  go_wp2_with fail
  go_ret
  exact ⟨ret_bool (by rw [HOF.out]; first | (simp; done) | (simp; omega)), kA⟩
 ·obtain rfl : name = ⟨#[75, 67]⟩ := HNM.out
  clear HNM
  go_enter Tryz.func16, Tryz.ntmps16
  go_wp2_with fail
  refine (H6.out _ (Keeps.refl _)).mono ?_; rintro e w3 ⟨rfl, k3⟩
  go_wp2_with fail
  go_ret
  exact ⟨ret_bool (by rw [HOF.out]; first | (simp; done) | (simp; omega)), kA.trans k3⟩
 ·obtain rfl : name = ⟨#[76, 67]⟩ := HNM.out
  clear HNM
  go_enter Tryz.func16, Tryz.ntmps16
  go_wp2_with fail
  refine (HWD.out _ kA).mono ?_; rintro e w3 ⟨rfl, k3⟩
  go_wp2_with fail
  go_ret
  exact ⟨ret_bool (by rw [HOF.out]; first | (simp; done) | (simp; omega)), kA.trans k3⟩
 ·obtain rfl : name = ⟨#[83, 109, 76]⟩ := HNM.out
  clear HNM
  go_enter Tryz.func16, Tryz.ntmps16
  go_wp2_with fail
  refine (H8.out _ (Keeps.refl _)).mono ?_; rintro e w3 ⟨rfl, k3⟩
  go_wp2_with fail
  go_ret
  exact ⟨ret_bool (by rw [HOF.out]; first | (simp; done) | (simp; omega)), kA.trans k3⟩
end Go.Proofs.YtfmmajgkjkmghaaGreatDoor
namespace Go.Proofs.YtfmmajgkjkmghaaGreatDoor
open Go.RowKit
set_option maxRecDepth 20000 in
theorem l05Squeeze_any (o : List Nat) (m : Nat) (v : Value) (w : World) (hv : Ints w v (zs o)) (h8 : o.length ≤ 8) (ho : ∀ i, o.getD i 0 ≤ 8) (hm : m < 256) :
  Calls Tryz.prog 151 #[v, .int .i64 m] w fun e w' => e = .returned (.int .i64 (sqz o m o.length : Nat)) ∧ w = w' := by
 have hv0 := hv
 obtain ⟨p, cap, rfl, _, hmx, _, _⟩ := hv
 unfold maxLen at hmx
 rw [zs_length o] at *
 have HC := hid (fun i (hi : i < o.length) => hv0.zs_cell i hi)
 clear hv0
 have HB := hid (fun i => l01BitB_any m (o.getD i 0) w hm (ho i))
 have HO := hid (fun (i : Nat) (hi : i ≤ 8) => l01One_any (i : Int) w (by omega) (by omega))
 have HS : Hid (∀ k, sqz o m (k + 1) = sqz o m k ||| (if m.testBit (o.getD k 0) then 2 ^ k else 0)) := hid fun _ => rfl
 have HL := hid (sqz_lt o m)
 have H0 : Hid (sqz o m 0 = 0) := hid rfl
 obtain ⟨Z, hZ⟩ : ∃ Z : Nat → Nat, ∀ i, Z i = sqz o m i := ⟨_, fun _ => rfl⟩
 obtain ⟨G, hG⟩ : ∃ G : Nat → Nat, ∀ i, G i = o.getD i 0 := ⟨fun i => o.getD i 0, fun _ => rfl⟩
 simp only [← hG] at HC HB HS
 simp only [← hZ] at HS HL H0 ⊢
 clear hG hZ ho
 generalize o.length = n at *
 go_enter Tryz.func151, Tryz.ntmps151
 go_wp2_with fail
 go_loopw [5, 6] (fun s5 s6 wr => ∃ i : Nat, i ≤ n ∧ s5 = .int .i64 (Z i : Nat) ∧ s6 = .int .i64 i ∧ w = wr) (fun _ s6 _ => n - (intOf s6).toNat)
 case atStart => exact ⟨0, by omega, by rw [H0.out]; rfl, rfl, rfl⟩
 case round =>
  obtain ⟨i, hi, rfl, rfl, rfl⟩ := hrel
  by_cases hlt : i < n
  ·have hlt' : (i : Int) < n := by omega
   obtain ⟨b1, o1, rfl, h1⟩ := HC.out i hlt
   have HBI := hid (HB.out i)
   have HOI := HO.out i (by omega)
   have hone : (2 : Int) ^ (i : Int).toNat = ((2 ^ i : Nat) : Int) := by rw [Int.toNat_natCast]; push_cast; rfl
   rw [hone] at HOI
   have HOI2 := hid HOI; clear HOI hone
   have hs := HS.out i
   have hlz := HL.out i
   have h2i : 2 ^ i ≤ 2 ^ 8 := Nat.pow_le_pow_right (by omega) (by omega)
   have hor := orN (Z i) (2 ^ i) (by omega) (by omega)
   clear hlz h2i
   generalize 2 ^ i = P at *
   generalize G i = y at *
   cases hb : m.testBit y
   ·rw [hb] at HBI
    have HZ2 : Hid (Z (i + 1) = Z i) := hid (by rw [hs, hb]; simp)
    clear hb hs
    generalize hz : Z i = z at *
    have HZI := hid hz; clear hz
    go_wp2_with fail
    refine HBI.out.mono ?_; rintro e w' ⟨rfl, rfl⟩
    go_wp2_with fail
    go_roundw
    case rel => exact ⟨i + 1, by omega, by rw [HZ2.out], by go_num, trivial⟩
    case measure => simp [intOf]; omega
   ·rw [hb] at HBI
    have HZ2 : Hid (Z (i + 1) = Z i ||| P) := hid (by rw [hs, hb]; simp)
    clear hb hs
    generalize hz : Z i = z at *
    have HZI := hid hz; clear hz
    go_wp2_with fail
    refine HBI.out.mono ?_; rintro e w' ⟨rfl, rfl⟩
    go_wp2_with fail
    refine HOI2.out.mono ?_; rintro e w' ⟨rfl, rfl⟩
    go_wp2_with fail
    go_roundw
    case rel => exact ⟨i + 1, by omega, by rw [HZ2.out], by go_num, trivial⟩
    case measure => simp [intOf]; omega
  ·have e : n = i := by omega
   subst e
   have hlt' : ¬ (n : Int) < n := by omega
   go_wp2_with fail
   go_ret
   exact ⟨rfl, rfl⟩
set_option maxRecDepth 20000 in
set_option maxHeartbeats 1000000 in
theorem l05Renumber_any (a o : List Nat) (va vo : Value) (w : World) (hva : Ints w va (zs a)) (hvo : Ints w vo (zs o)) (hn8 : o.length ≤ 8) (hal : a.length = o.length) (hlo : ∀ x ∈ o, x < o.length) (hab : Bnd o.length a) :
  Calls Tryz.prog 88 #[va, vo] w (RetI w (zs (renP a o))) := by
 have h256 := two8 hn8
 have ho8 : ∀ i, o.getD i 0 ≤ 8 := fun i => by
  by_cases hi : i < o.length
  ·rw [getD_get hi]; have := hlo _ (List.getElem_mem hi); omega
  ·rw [List.getD_eq_getElem?_getD, List.getElem?_eq_none (by omega)]; simp
 have HLO : Hid (∀ i, i < o.length → o.getD i 0 < o.length) := hid fun i hi => by rw [getD_get hi]; exact hlo _ (List.getElem_mem hi)
 have HSQ := hid (fun i w2 (k : Keeps w w2) => l05Squeeze_any o (a.getD i 0) vo w2 (hvo.keeps k) hn8 ho8 (Nat.lt_of_lt_of_le (hab i) h256))
 have hva0 := hva
 have hvo0 := hvo
 obtain ⟨p, cap, rfl, _, hmx, _, _⟩ := hva
 obtain ⟨q, cap2, rfl, _, hmx2, _, _⟩ := hvo
 unfold maxLen at hmx hmx2
 rw [zs_length a] at *
 rw [zs_length o] at *
 have hvc := hid (fun i (hi : i < o.length) wr (k : Keeps w wr) => (hvo0.keeps k).zs_cell i hi)
 have hva2 := hid (fun i (hi : i < a.length) wr (k : Keeps w wr) => (hva0.keeps k).zs_cell i hi)
 clear hva0 hvo0
 rw [hal] at *
 obtain ⟨F, hF⟩ : ∃ F : Nat → Nat, ∀ i, F i = sqz o (a.getD i 0) o.length := ⟨_, fun _ => rfl⟩
 have HR : Hid (∀ k, k < o.length → (renP a o).take (k + 1) = (renP a o).take k ++ [F (o.getD k 0)]) := hid fun k hk => by
  have hk2 : k < (renP a o).length := by rw [renP_len]; exact hk
  rw [List.take_succ_eq_append_getElem hk2]
  congr 1
  simp only [renP, List.getElem_map]
  rw [hF, getD_get hk]
 have HRE : Hid ((renP a o).take o.length = renP a o) := hid (List.take_of_length_le (by rw [renP_len]; omega))
 have HRL : Hid (∀ k, ((renP a o).take k).length ≤ k) := hid fun k => by rw [List.length_take]; omega
 have HR0 : Hid ((renP a o).take 0 = []) := hid rfl
 generalize renP a o = R at *
 obtain ⟨G, hG⟩ : ∃ G : Nat → Nat, ∀ i, G i = o.getD i 0 := ⟨fun i => o.getD i 0, fun _ => rfl⟩
 obtain ⟨A, hA⟩ : ∃ A : Nat → Nat, ∀ i, A i = a.getD i 0 := ⟨fun i => a.getD i 0, fun _ => rfl⟩
 simp only [← hF] at HSQ
 simp only [← hA] at hva2 HSQ
 simp only [← hG] at hvc HR HLO
 clear hF hG hA hlo hab ho8 hal
 generalize o.length = n at *
 go_enter Tryz.func88, Tryz.ntmps88
 go_wp2_with fail
 go_loopw [5, 6] (fun s5 s6 wr => ∃ i : Nat, i ≤ n ∧ s6 = .int .i64 i ∧ OwnI wr w.heap.size s5 (zs (R.take i)) ∧ Keeps w wr) (fun _ s6 _ => n - (intOf s6).toNat)
 case atStart => exact ⟨0, by omega, rfl, by rw [HR0.out]; exact OwnI.empty w, (Keeps.refl w).alloc _⟩
 case round =>
  obtain ⟨i, hi, rfl, hown, kw⟩ := hrel
  by_cases hlt : i < n
  ·have hlt' : (i : Int) < n := by omega
   obtain ⟨b1, o1, e1, h1⟩ := hvc.out i hlt wr kw
   have hx := HLO.out i hlt
   have hx' : (G i : Int) < n := by omega
   obtain ⟨b2, o2, e2, h2⟩ := hva2.out (G i) hx wr kw
   have HS2 := hid (HSQ.out (G i) wr kw)
   have HRI := hid (HR.out i hlt)
   have hrl := HRL.out i
   have hzl := zs_length (R.take i)
   subst e1 e2
   generalize G i = x at *
   generalize A x = ax at *
   generalize F x = fx at *
   have hsz := kw.size
   have kA := (Keeps.refl wr).alloc (.cells #[.int .i64 (fx : Int)] 2)
   have KW := hid kw; clear kw
   go_wp2_with fail
   refine HS2.out.mono ?_; rintro e w' ⟨rfl, rfl⟩
   go_wp2_with (at_builtin; refine appI rfl _ _ rfl w.heap.size _ (zs (R.take i)) rfl (hown.keeps kA) _ [(fx : Int)] rfl (Ints.lit1 wr fx) (by simp; omega) (by rw [hzl]; simp; omega) ?_; intro v1 w1 hv1 hg1 hr1)
   go_roundw
   case rel => exact ⟨i + 1, by omega, by go_num, by rw [HRI.out, zs_snoc]; exact hv1, (KW.out.trans kA).grown hg1 hr1⟩
   case measure => simp [intOf]; omega
  ·have e : n = i := by omega
   subst e
   have hlt' : ¬ (n : Int) < n := by omega
   rw [HRE.out] at hown
   go_wp2_with fail
   go_ret
   exact ⟨_, rfl, hown, kw⟩
end Go.Proofs.YtfmmajgkjkmghaaGreatDoor
