import Derived.Test.YtikooimokfbffaaGreatDoorHQS
import Derived.Test.YtikooimokfbffaaGreatDoorHQU
import Derived.Test.YtikooimokfbffaaGreatDoorHQ3
import Derived.Test.YtikooimokfbffaaGreatDoorHQA
import Derived.Lib.LaidTab
import Derived.Test.YtikooimokfbffaaGreatDoorHPD
/- Depths of an order: the program's side. -/
namespace Go.Proofs.YtikooimokfbffaaGreatDoor
open Go.RowKit
theorem zs_one (n : Nat) : List.replicate n (1 : Int) = zs (List.replicate n 1) := by simp [zs]
set_option maxRecDepth 20000 in
set_option maxHeartbeats 4000000 in
theorem worldDepths_any (b : List Nat) (hp : Pos b) (v : Value) (w : World) (hv : Ints w v (zs b)) :
  Calls Tryz.prog 239 #[.agg #[.int .i64 b.length, v]] w (RetI w (zs (dptL b))) := by
 obtain ⟨hb, hbm, hr, ht, ha⟩ := hp
 have kA := (Keeps.refl w).alloc (.cells #[.int .i64 b.length, v] 88)
 obtain ⟨c0, c1⟩ := BoxF.made w b.length v 88
 have HRB := hid (fun wz (k : Keeps w wz) => reachable_id b b.length v wz (hv.keeps k) hb hbm hr ht)
 have HCB := hid (fun wz (k : Keeps w wz) => clusters_any b v wz (hv.keeps k) hb hbm hr ht)
 rw [clB_range hb hbm hr ht ha] at HCB
 have HRP := hid (fun u wz (hu : Ints wz u [1]) => repeat_one b.length u wz hu hb)
 rw [zs_one] at HRP
 have HMB := hid (fun k wz => membersB_any (b.getD k 0) wz (by have := hbm k; have := two8 hb; omega))
 have HS0 := hid (rnd_start hb hbm hr ht ha)
 have HSE := hid (fun a (h : RndA b a (b.length + 1)) => rnd_end hb hbm hr ht ha h)
 have HST := hid (fun t x l j a (h : InnA b t x l j a) (hx : x < b.length) (hj : j < l.length) (hbit : (b.getD x 0).testBit l[j] = true) (hne : l[j] ≠ x) => inn_step hb hbm hr ht ha h hx hj hbit hne)
 have HIE := hid (fun t x a (h : InnA b t x (memB (b.getD x 0)) (memB (b.getD x 0)).length a) (hx : x < b.length) => inn_end hb hbm hr ht ha h hx)
 have HML := hid (fun x => show (memB (b.getD x 0)).length ≤ 8 from lowB_len _ 8)
 have HMM := hid (fun x y (h : y ∈ memB (b.getD x 0)) => show y < b.length ∧ (b.getD x 0).testBit y = true from ⟨memB_lt (hbm x) h, (memB_mem h).2⟩)
 have HD8 := hid (fun i (hi : i < b.length) => dptB_8 hb hbm hr ht ha hi)
 obtain ⟨p, cap, rfl, hle, hmx, _, _⟩ := hv
 unfold maxLen at hmx
 rw [zs_length b] at *
 clear hbm hr ht ha
 have kd0 := (Keeps.refl (w.alloc (.cells #[.int .i64 b.length, .slice p b.length cap] 88))).drew
 have e0 := And.intro (kd0.cell c0) (kd0.cell c1)
 have kD := kA.drew
 go_enter Tryz.func239, Tryz.ntmps239
 go_wp2_with fail
 go_region_held3 (fun w' => w'.cell? ⟨w.heap.size, 0, none⟩ = some (.int .i64 b.length) ∧ w'.cell? ⟨w.heap.size, 1, none⟩ = some (.slice p b.length cap)) (first | exact e0 | exact e1 | exact e2) (first | (go_at_call 278; refine (HRB.out _ kD).mono ?_; rintro e w2 ⟨v2, rfl, hv2, k2⟩; have e1 := And.intro (k2.cell e0.1) (k2.cell e0.2)) | (go_at_call 279; refine (HCB.out _ (kD.trans k2)).mono ?_; rintro e w3 ⟨v3, rfl, hv3, k3⟩; have e2 := And.intro (k3.cell e1.1) (k3.cell e1.2)))
 obtain ⟨p2, m2, q2, rfl⟩ := hv2.shape0
 obtain ⟨p3, m3, q3, rfl⟩ := hv3.shape0
 have HV2 := hid ((hv2.keeps k3).ints (by rw [zs_length]; omega))
 have HV3 := hid (hv3.ints (by rw [zs_length, List.length_range]; omega))
 have kk := kD.trans (k2.trans k3)
 have k4 := (Keeps.refl w3).alloc (.cells #[.int .i64 1] 2)
 have z0 := k4.cell e2.1
 have z1 := k4.cell e2.2
 have HR := hid (HRP.out _ _ (Ints.lit1 w3 1))
 have hl2 : m2 = b.length := by obtain ⟨_, _, e, _⟩ := HV2.out; cases e; exact zs_length b
 have hl3 : m3 = b.length := by obtain ⟨_, _, e, _⟩ := HV3.out; cases e; rw [zs_length, List.length_range]
 subst hl2
 subst hl3
 have E2 := hid e2
 clear hv2 hv3 e0 e1 e2 c0 c1
 go_wp2_with fail
 refine HR.out.mono ?_; rintro e w4 ⟨v4, rfl, hv4, k5⟩
 replace z0 := k5.cell z0
 replace z1 := k5.cell z1
 have k45 := k4.trans k5
 have kall := kk.trans k45
 have hs4 := kall.size
 obtain ⟨p4, m4, q4, rfl⟩ := hv4.shape0
 have hm4 : m4 = b.length := by
  obtain ⟨p', c', e, _⟩ := At.of_own hv4
  rw [zs_length, List.length_replicate] at e
  injection e
 subst hm4
 have HO := hid hv4
 have hgo : ∀ g, p4 = some ⟨g, 0, none⟩ → w3.heap.size < g := fun g e => by
  subst e
  have := (hv4.len g rfl).1
  simp at this; omega
 have HGO := hid hgo
 have hs3 := kk.size
 clear hv4 HR hgo
 go_wp2_with fail
 clear z0 z1
 go_loopw [19] (fun r' wr => ∃ (t : Nat) (a : List Nat), t ≤ b.length ∧ r' = .int .i64 t ∧ RndA b a (t + 1) ∧ OwnI wr (w3.heap.size + 1) (.slice p4 b.length q4) (zs a) ∧ Keeps w3 wr) (fun r' _ => b.length - (intOf r').toNat)
 case atStart => exact ⟨0, _, by omega, rfl, HS0.out, HO.out.mono (by simp), k45⟩
 case round =>
  obtain ⟨t, a, htl, rfl, hrnd, hown, kw⟩ := hrel
  clear HO
  have z0 := kw.cell E2.out.1
  by_cases hlt : t < b.length
  ·have hlt' : (t : Int) < b.length := by omega
   have HM0 := hid (mid_start hrnd)
   have HO1 := hid hown
   have KW := hid kw
   clear hrnd hown kw
   go_wp2_with fail
   go_loopw [23] (fun x' wr => ∃ (x : Nat) (a : List Nat), x ≤ b.length ∧ x' = .int .i64 x ∧ MidA b t x a ∧ OwnI wr (w3.heap.size + 1) (.slice p4 b.length q4) (zs a) ∧ Keeps w3 wr) (fun x' _ => b.length - (intOf x').toNat)
   case atStart => exact ⟨0, a, by omega, rfl, HM0.out, HO1.out, KW.out⟩
   case round =>
    obtain ⟨x, a, hxl, rfl, hmid, hown, kw⟩ := hrel
    clear HM0 HO1 KW z0
    by_cases hxt : x < b.length
    ·have hxt' : (x : Int) < b.length := by omega
     have hal := hmid.1.1
     obtain ⟨g, cap4, ev, hBg, hgl, _⟩ := hown.shape (by rw [zs_length, hal]; omega)
     have ev1 : p4 = some ⟨g, 0, none⟩ := by injection ev
     clear ev
     subst ev1
     clear hal
     obtain ⟨b2, o2, rfl, h2⟩ := (HV2.out.keeps kw).zs_cell x hxt
     have HM := hid (HMB.out x wr)
     have hml := HML.out x
     have HMMx := hid (HMM.out x)
     have HIEx := hid (fun a h => HIE.out t x a h hxt)
     have HSTx := hid (fun a j h (hj : j < (memB (b.getD x 0)).length) hbit hne => HST.out t x (memB (b.getD x 0)) j a h hxt hj hbit hne)
     have HI0 := hid (inn_start (l := memB (b.getD x 0)) hmid)
     have HO1 := hid hown
     have KW := hid kw
     clear hmid hown kw
     generalize memB (b.getD x 0) = l at *
     generalize hbx : b.getD x 0 = bx at *
     have HBX := hid hbx; clear hbx
     go_wp2_with fail
     refine HM.out.mono ?_; rintro e w5 ⟨v5, rfl, hv5, k6⟩
     obtain ⟨p5, c5, rfl, _, hm5, _, _⟩ := hv5.ints (by rw [zs_length]; omega)
     unfold maxLen at hm5
     rw [zs_length] at *
     have HL5 := hid hv5
     have HO2 := hid (HO1.out.keeps k6)
     have KW2 := hid (KW.out.trans k6)
     have hw5 := k6.size
     clear hv5 HO1 KW HM
     go_wp2_with fail
     go_loopw [32] (fun j' wq => ∃ (j : Nat) (a : List Nat), j ≤ l.length ∧ j' = .int .i64 j ∧ InnA b t x l j a ∧ OwnI wq (w3.heap.size + 1) (.slice (some ⟨g, 0, none⟩) b.length q4) (zs a) ∧ OwnI wq wr.heap.size (.slice p5 l.length c5) (zs l) ∧ Keeps w3 wq) (fun j' _ => l.length - (intOf j').toNat)
     case atStart => exact ⟨0, a, by omega, rfl, HI0.out, HO2.out, HL5.out, KW2.out⟩
     case round =>
      obtain ⟨j, a, hjl, rfl, hinn, hown, hl5, kw⟩ := hrel
      clear HI0 HO2 HL5 KW2
      by_cases hjt : j < l.length
      ·have hjt' : (j : Int) < l.length := by omega
       obtain ⟨b5, o5, e5, h5⟩ := (hl5.ints (by rw [zs_length]; omega)).zs_cell j hjt
       rw [getD_get hjt] at h5
       obtain ⟨hy, hbit⟩ := HMMx.out l[j] (List.getElem_mem hjt)
       obtain ⟨b3, o3, e3, h3⟩ := (HV3.out.keeps kw).zs_cell x (by rw [List.length_range]; exact hxt)
       obtain ⟨b3', o3', e3', h3'⟩ := (HV3.out.keeps kw).zs_cell l[j] (by rw [List.length_range]; exact hy)
       rw [range_get hxt] at h3
       rw [range_get hy] at h3'
       rw [e3] at e3'
       cases e3'
       subst e3
       subst e5
       have hal := hinn.1.1.1
       have hax := (hinn.1.1.2.1 x hxt).2
       have hay := (hinn.1.1.2.1 l[j] hy).2
       have hdx := HD8.out x hxt
       have hdy := HD8.out l[j] hy
       have hxt' : (x : Int) < b.length := by omega
       have hy' : (l[j] : Int) < b.length := by omega
       by_cases hyx : l[j] = x
       ·have HI := hid (inn_skip hinn hjt hyx)
        rw [hyx] at h5 h3' hy
        have HO := hid hown; clear hown
        have HL := hid hl5; clear hl5
        have KW := hid kw; clear kw
        clear hinn hal hax hay hdx hdy hbit
        go_wp2_with fail
        go_quiet (fail)
        go_wp2_with fail
        go_roundw
        case rel => exact ⟨j + 1, a, by omega, by go_num, HI.out, HO.out.keeps ((Keeps.refl _).drewN _), HL.out.keeps ((Keeps.refl _).drewN _), KW.out.drewN _⟩
        case measure => simp [intOf]; omega
       ·have HI := HSTx.out a j hinn hjt hbit hyx
        obtain ⟨ci, fi⟩ := hown.cell x (by rw [zs_length]; omega)
        obtain ⟨cj, fj⟩ := hown.cell l[j] (by rw [zs_length]; omega)
        rw [zs_get] at ci cj
        rw [← getD_get (b := a)] at ci cj
        have hst : ∀ n : Nat, OwnI ((wr.drewN n).setCell ⟨g, x, none⟩ (.int .i64 ((max (a.getD x 0) (a.getD l[j] 0 + 1) : Nat) : Int))) (w3.heap.size + 1) (.slice (some ⟨g, 0, none⟩) b.length q4) (zs (a.set x (max (a.getD x 0) (a.getD l[j] 0 + 1)))) ∧ (wr.drewN n).grownBy ((wr.drewN n).setCell ⟨g, x, none⟩ (.int .i64 ((max (a.getD x 0) (a.getD l[j] 0 + 1) : Nat) : Int))) (some g) := fun n => by
         rw [zs_set]
         exact OwnI.store (hown.keeps ((Keeps.refl _).drewN n)) x (by rw [zs_length]; omega) _
        have hl6 := fun n : Nat => OwnI.setBelow (hl5.keeps ((Keeps.refl _).drewN n)) (o := x) hgl (.int .i64 ((max (a.getD x 0) (a.getD l[j] 0 + 1) : Nat) : Int))
        have hxy : (x : Int) ≠ l[j] := by omega
        have hax8 : a.getD x 0 ≤ 8 := by omega
        have hay8 : a.getD l[j] 0 ≤ 8 := by omega
        clear hal hax hay hdx hdy hbit hinn hown hl5
        generalize l[j] = y at *
        generalize ha' : a.set x (max (a.getD x 0) (a.getD y 0 + 1)) = a' at *
        clear ha'
        generalize a.getD x 0 = ax at *
        generalize a.getD y 0 = ay at *
        have HI := hid HI
        rcases Nat.lt_or_ge ax (ay + 1) with hlt3 | hlt3
        ·rw [Nat.max_eq_right (by omega), show ((ay + 1 : Nat) : Int) = (ay : Int) + 1 from by omega] at hst hl6
         have HST := hid hst; clear hst
         have HL6 := hid hl6; clear hl6
         have KW := hid kw; clear kw
         go_wp2_with fail
         go_quiet (fail)
         go_wp2_with fail
         go_region
         go_wp2
         go_roundw
         case rel => exact ⟨j + 1, _, by omega, by go_num, HI.out, (HST.out _).1, HL6.out _, (KW.out.drewN _).grown (HST.out _).2 (fun k hk => by cases hk; omega)⟩
         case measure => simp [intOf]; omega
        ·rw [Nat.max_eq_left (by omega)] at hst hl6
         have HST := hid hst; clear hst
         have HL6 := hid hl6; clear hl6
         have KW := hid kw; clear kw
         go_wp2_with fail
         go_quiet (fail)
         go_wp2_with fail
         go_region
         go_wp2
         go_roundw
         case rel => exact ⟨j + 1, _, by omega, by go_num, HI.out, (HST.out _).1, HL6.out _, (KW.out.drewN _).grown (HST.out _).2 (fun k hk => by cases hk; omega)⟩
         case measure => simp [intOf]; omega
      ·obtain rfl : j = l.length := by omega
       have hjt' : ¬ (l.length : Int) < l.length := by omega
       have HI := hid (HIEx.out a hinn)
       clear hinn
       go_wp2_with fail
       go_roundw
       case rel => exact ⟨x + 1, a, by omega, by go_num, HI.out, hown, kw⟩
       case measure => simp [intOf]; omega
    ·obtain rfl : x = b.length := by omega
     have hxt' : ¬ (b.length : Int) < b.length := by omega
     have HI := hid (mid_end hmid)
     clear hmid
     go_wp2_with fail
     go_roundw
     case rel => exact ⟨t + 1, a, by omega, by go_num, HI.out, hown, kw⟩
     case measure => simp [intOf]; omega
  ·obtain rfl : t = b.length := by omega
   have hlt' : ¬ (b.length : Int) < b.length := by omega
   have he := HSE.out a hrnd
   subst he
   go_wp2_with fail
   go_ret
   exact ⟨_, rfl, hown.mono (by omega), kk.trans kw⟩
end Go.Proofs.YtikooimokfbffaaGreatDoor
namespace Go.Proofs.YtikooimokfbffaaGreatDoor
open Go.RowKit
set_option maxRecDepth 20000 in
theorem posetDepths_any (b : List Nat) (hp : Pos b) (v : Value) (w : World) (hv : Ints w v (zs b)) :
  Calls Tryz.prog 196 #[.agg #[.int .i64 b.length, v]] w (RetI w (zs (dptL b))) := by
 have kA := (Keeps.refl w).alloc (.cells #[.int .i64 b.length, v] 34)
 have HF := hid (frame_any b.length (zs b) v _ (hv.keeps kA))
 rw [zs_length] at HF
 have HW := hid (fun wz (k : Keeps w wz) => worldDepths_any b hp v wz (hv.keeps k))
 obtain ⟨p, cap, rfl, _⟩ := hv
 have kz := kA.size
 clear hp
 go_enter Tryz.func196, Tryz.ntmps196
 go_wp2_with fail
 refine HF.out.mono ?_; rintro e w2 ⟨rfl, k2⟩
 go_wp2_with fail
 refine (HW.out _ (kA.trans k2)).mono ?_; rintro e w3 ⟨vd, rfl, hvd, k3⟩
 have hs2 := (kA.trans k2).size
 go_wp2_with fail
 go_ret
 exact ⟨_, rfl, hvd.mono (by omega), (kA.trans k2).trans k3⟩
end Go.Proofs.YtikooimokfbffaaGreatDoor
namespace Go.Proofs.YtikooimokfbffaaGreatDoor
open Go.RowKit
set_option maxRecDepth 20000 in
theorem posetDepth_any (b : List Nat) (hp : Pos b) (v : Value) (w : World) (hv : Ints w v (zs b)) :
  Calls Tryz.prog 112 #[.agg #[.int .i64 b.length, v]] w fun e w' => e = .returned (.int .i64 (maxTo (dptL b) b.length)) ∧ Keeps w w' := by
 obtain ⟨hb, hbm, hr, ht, ha⟩ := id hp
 have kA := (Keeps.refl w).alloc (.cells #[.int .i64 b.length, v] 34)
 obtain ⟨c0, c1⟩ := BoxF.made w b.length v 34
 have HW := hid (posetDepths_any b hp v _ (hv.keeps kA))
 have hdl := dptL_len b
 have HM := hid (fun u wz (hu : Ints wz u (zs (dptL b))) (h0 : 0 < b.length) => maxI_any (dptL b) u wz hu (by omega) (fun i => by
  by_cases h : i < b.length
  ·rw [dptL_get h]; have := dptB_8 hb hbm hr ht ha h; omega
  ·rw [List.getD_eq_getElem?_getD, List.getElem?_eq_none (by omega)]; simp) (by omega))
 rw [hdl] at HM
 obtain ⟨p, cap, rfl, _⟩ := hv
 have HZ : Hid (b.length = 0 → maxTo (dptL b) b.length = 0) := hid (fun h => by rw [h]; rfl)
 clear hp hbm hr ht ha
 rw [zs_length] at *
 by_cases hz : b.length = 0
 ·have hz' : (b.length : Int) = 0 := by omega
  rw [HZ.out hz]
  go_enter Tryz.func112, Tryz.ntmps112
  go_wp2_with fail
  go_ret
  exact ⟨rfl, (Keeps.refl w).alloc _⟩
 ·have hz' : ¬ (b.length : Int) = 0 := by omega
  go_enter Tryz.func112, Tryz.ntmps112
  go_wp2_with fail
  refine HW.out.mono ?_; rintro e w2 ⟨vd, rfl, hvd, k2⟩
  have HM2 := hid (HM.out vd w2 (hvd.ints (by rw [zs_length]; omega)) (by omega))
  obtain ⟨p2, m2, q2, rfl⟩ := hvd.shape0
  go_wp2_with fail
  refine HM2.out.mono ?_; rintro e w3 ⟨rfl, rfl⟩
  go_wp2_with fail
  go_ret
  exact ⟨rfl, kA.trans k2⟩
end Go.Proofs.YtikooimokfbffaaGreatDoor
namespace Go.Proofs.YtikooimokfbffaaGreatDoor
open Go.RowKit
def names9 : List ByteArray := [⟨#[66, 68, 50]⟩, ⟨#[66, 68, 51]⟩, ⟨#[66, 87, 50]⟩, ⟨#[66, 87, 51]⟩, ⟨#[67, 76]⟩, ⟨#[73, 110, 116]⟩, ⟨#[75, 67]⟩, ⟨#[76, 67]⟩, ⟨#[83, 109, 76]⟩]
def LaidS (g : Nat) (ss : List ByteArray) (w : World) : Prop := ∀ i (h : i < ss.length), w.cell? ⟨g, i, none⟩ = some (.string ss[i])
theorem LaidS.keeps {g : Nat} {ss : List ByteArray} {w w' : World} (h : LaidS g ss w) (k : Keeps w w') : LaidS g ss w' := fun i hi => k.cell (h i hi)
theorem cells_of_strs {H : Type} {enc : TypeId × Value → H} {P : Program} {w : World} {base : Nat} {sp : Nat → Bool} {held : Bool} {fuel : Nat} {t e : TypeId} {n : Nat} {cs : List Value} {ss : List (List UInt8)} {p : List MemPlace}
  (ht : P.underlying t = some (.array n e)) (he : P.underlying e = some .string) (hce : P.cellsOf e = 1) (hct : P.cellsOf t = n)
  (h : DataW.trod enc P w base sp held fuel t cs = some (.agg (ss.map fun s => .lit (.string s)), p)) : ∀ i (hi : i < ss.length), cs[i]? = some (.string ⟨ss[i].toArray⟩) := by
 intro i hi
 cases fuel with
 | zero => simp [DataW.trod] at h
 | succ fuel =>
  simp only [DataW.trod, ht, hce, hct, Nat.mul_one] at h
  split at h
  ·rename_i hl
   obtain ⟨xs, hm, hx⟩ := Option.map_eq_some_iff.1 h
   have hxs : xs.map (·.1) = ss.map fun s => (DataW.lit (.string s) : DataW H) := by
    have := congrArg Prod.fst hx
    simpa using this
   have hxl : xs.length = n := by have := Lib.mapM_length hm; rw [this]; exact List.length_range
   have hsl : ss.length = n := by
    have := congrArg List.length hxs
    simp at this
    omega
   obtain ⟨b, hb, hf⟩ := Lib.mapM_at hm i i (by rw [List.getElem?_range (by omega)])
   obtain ⟨s, hc, rfl, _⟩ := DataW.trod_string he hf
   have h1 : cs[i]? = some (.string s) := by
    have := congrArg (·[0]?) hc
    simpa [List.getElem?_take, List.getElem?_drop] using this
   have h2 : (xs.map (·.1))[i]? = some (DataW.lit (.string s.data.toList) : DataW H) := by simp [hb]
   rw [hxs] at h2
   simp [hi] at h2
   rw [h1, h2]
  ·cases h
theorem laidS_of_head {P : Program} {W : World} {name : String} {ss : List (List UInt8)} {rest : List (String × DataW Unit)} {g : Nat} {t e : TypeId} {n : Nat}
  (hg : P.globalNamed name = some g) (hty : (P.globals[g]?).map (·.type) = some t) (ht : P.underlying t = some (.array n e)) (he : P.underlying e = some .string) (hce : P.cellsOf e = 1) (hct : P.cellsOf t = n)
  (h : laidMet P ((name, .agg (ss.map fun s => .lit (.string s))) :: rest) W) : ∀ i (hi : i < ss.length), W.cell? ⟨g, i, none⟩ = some (.string ⟨ss[i].toArray⟩) := by
 obtain ⟨ps, ⟨g', t', cs, fuel, p, q, hg', ht', hvar, hd, _, _⟩, _⟩ := h
 obtain rfl := Option.some.inj (hg.symm.trans hg')
 obtain rfl := Option.some.inj (hty.symm.trans ht')
 intro i hi
 have h1 := cells_of_strs ht he hce hct hd i hi
 have := World.var?_cell hg hvar i
 rw [this]
 simpa using h1
set_option maxRecDepth 100000 in
theorem l30Names_any (w : World) : Calls Tryz.prog 70 #[] w fun e w' => ∃ v, e = .returned v ∧ Strs w' v names9 ∧ Keeps w w' := by
 go_enter Tryz.func70, Tryz.ntmps70
 go_wp2
 go_ret
 exact ⟨_, rfl, Strs.lit (w := w) names9 (by simp [names9]), (Keeps.refl w).alloc _⟩
end Go.Proofs.YtikooimokfbffaaGreatDoor
namespace Go.Proofs.YtikooimokfbffaaGreatDoor
open Go.RowKit
def findS (ss : List ByteArray) (name : ByteArray) : Int := idxOf (fun s => s.toList == name.toList) ss 0
theorem idxOf_range {α : Type} (pr : α → Bool) (l : List α) : ∀ k, idxOf pr l k = -1 ∨ ∃ j, j < l.length ∧ idxOf pr l k = ((k + j : Nat) : Int) := by
 induction l with
 | nil => intro k; exact .inl rfl
 | cons x l ih =>
  intro k
  unfold idxOf
  split
  ·exact .inr ⟨0, by simp, rfl⟩
  ·rcases ih (k + 1) with h | ⟨j, hj, h⟩
   ·exact .inl h
   ·exact .inr ⟨j + 1, by simpa using hj, by rw [h]; congr 1; omega⟩
set_option maxRecDepth 20000 in
set_option maxHeartbeats 1000000 in
theorem l09Find_any (ss : List ByteArray) (name : ByteArray) (v : Value) (w : World) (hv : Strs w v ss) :
  Calls Tryz.prog 69 #[v, .string name] w fun e w' => e = .returned (.int .i64 (findS ss name)) ∧ w = w' := by
 obtain ⟨p, cap, rfl, hle, hmx, hlen⟩ := hv.shape
 unfold maxLen at hmx
 have hV := hid hv; clear hv
 go_enter Tryz.func69, Tryz.ntmps69
 go_wp2
 go_loop [4, 5] (fun r i' => ∃ i : Nat, i ≤ ss.length ∧ i' = .int .i64 i ∧ r = .int .i64 0 ∧ findS ss name = idxOf (fun s => s.toList == name.toList) (ss.drop i) i) (fun _ i => ss.length - (intOf i).toNat)
 case atStart => exact ⟨0, by omega, rfl, rfl, rfl⟩
 case round =>
  obtain ⟨i, hi, rfl, rfl, hf⟩ := hrel
  have HF := hid hf; clear hf
  by_cases hlt : i < ss.length
  ·obtain ⟨b, off, rfl, hc⟩ := hV.out.get i hlt
   have hlt' : (i : Int) < ss.length := by omega
   cases he : (ss[i].toList == name.toList)
   ·go_wp2
    go_round
    case rel => exact ⟨i + 1, by omega, by go_num, rfl, by rw [HF.out, idxOf_drop _ _ _ hlt, he]; rfl⟩
    case measure => simp [intOf]; omega
   ·go_wp2
    go_ret
    exact ⟨ret_int (by rw [HF.out, idxOf_drop _ _ _ hlt, he]; rfl), rfl⟩
  ·go_wp2
   go_ret
   exact ⟨ret_int (by rw [HF.out, idxOf_end _ _ _ (by omega)]), rfl⟩
set_option maxRecDepth 20000 in
set_option maxHeartbeats 1000000 in
theorem intermediateAt_any (name : ByteArray) (w : World) (hL : LaidS 1 names9 w) :
  Calls Tryz.prog 34 #[.string name] w fun e w' => e = .returned (.int .i64 (findS names9 name)) ∧ w = w' := by
 have c0 := hL 0 (by decide)
 have c1 := hL 1 (by decide)
 have c2 := hL 2 (by decide)
 have c3 := hL 3 (by decide)
 have c4 := hL 4 (by decide)
 have c5 := hL 5 (by decide)
 have c6 := hL 6 (by decide)
 have c7 := hL 7 (by decide)
 have c8 := hL 8 (by decide)
 clear hL
 simp only [names9, List.getElem_cons_zero, List.getElem_cons_succ] at c0 c1 c2 c3 c4 c5 c6 c7 c8
 go_enter Tryz.func34, Tryz.ntmps34
 go_wp2
 go_loop [2, 6] (fun r i' => ∃ i : Nat, i ≤ 9 ∧ i' = .int .i64 i ∧ r = .int .i64 0 ∧ findS names9 name = idxOf (fun s => s.toList == name.toList) (names9.drop i) i) (fun _ i => 9 - (intOf i).toNat)
 case atStart => exact ⟨0, by omega, rfl, rfl, rfl⟩
 case round =>
  obtain ⟨i, hi, rfl, rfl, hf⟩ := hrel
  have HF := hid hf; clear hf
  have hi9 : i = 0 ∨ i = 1 ∨ i = 2 ∨ i = 3 ∨ i = 4 ∨ i = 5 ∨ i = 6 ∨ i = 7 ∨ i = 8 ∨ i = 9 := by omega
  rcases hi9 with rfl | rfl | rfl | rfl | rfl | rfl | rfl | rfl | rfl | rfl
  ·have hix : (Instr.index 80 (.agg #[.string ⟨#[66, 68, 50]⟩, .string ⟨#[66, 68, 51]⟩, .string ⟨#[66, 87, 50]⟩, .string ⟨#[66, 87, 51]⟩, .string ⟨#[67, 76]⟩, .string ⟨#[73, 110, 116]⟩, .string ⟨#[75, 67]⟩, .string ⟨#[76, 67]⟩, .string ⟨#[83, 109, 76]⟩]) (.int .i64 0)).run Tryz.prog w = .ok (.string ⟨#[66, 68, 50]⟩) w := by kernel_rfl
   have htl : (⟨#[66, 68, 50]⟩ : ByteArray).toList = [66, 68, 50] := by simp
   cases he : (([66, 68, 50] : List UInt8) == name.toList)
   ·go_wp2
    go_round
    case rel => exact ⟨1, by omega, by first | rfl | go_num, rfl, by rw [HF.out, idxOf_drop _ _ _ (show 0 < names9.length by decide)]; rw [show names9[0]'(show 0 < names9.length by decide) = ⟨#[66, 68, 50]⟩ from rfl, htl, he]; rfl⟩
    case measure => simp [intOf]
   ·go_wp2
    go_ret
    exact ⟨ret_int (by rw [HF.out, idxOf_drop _ _ _ (show 0 < names9.length by decide)]; rw [show names9[0]'(show 0 < names9.length by decide) = ⟨#[66, 68, 50]⟩ from rfl, htl, he]; rfl), rfl⟩
  ·have hix : (Instr.index 80 (.agg #[.string ⟨#[66, 68, 50]⟩, .string ⟨#[66, 68, 51]⟩, .string ⟨#[66, 87, 50]⟩, .string ⟨#[66, 87, 51]⟩, .string ⟨#[67, 76]⟩, .string ⟨#[73, 110, 116]⟩, .string ⟨#[75, 67]⟩, .string ⟨#[76, 67]⟩, .string ⟨#[83, 109, 76]⟩]) (.int .i64 1)).run Tryz.prog w = .ok (.string ⟨#[66, 68, 51]⟩) w := by kernel_rfl
   have htl : (⟨#[66, 68, 51]⟩ : ByteArray).toList = [66, 68, 51] := by simp
   cases he : (([66, 68, 51] : List UInt8) == name.toList)
   ·go_wp2
    go_round
    case rel => exact ⟨2, by omega, by first | rfl | go_num, rfl, by rw [HF.out, idxOf_drop _ _ _ (show 1 < names9.length by decide)]; rw [show names9[1]'(show 1 < names9.length by decide) = ⟨#[66, 68, 51]⟩ from rfl, htl, he]; rfl⟩
    case measure => simp [intOf]
   ·go_wp2
    go_ret
    exact ⟨ret_int (by rw [HF.out, idxOf_drop _ _ _ (show 1 < names9.length by decide)]; rw [show names9[1]'(show 1 < names9.length by decide) = ⟨#[66, 68, 51]⟩ from rfl, htl, he]; rfl), rfl⟩
  ·have hix : (Instr.index 80 (.agg #[.string ⟨#[66, 68, 50]⟩, .string ⟨#[66, 68, 51]⟩, .string ⟨#[66, 87, 50]⟩, .string ⟨#[66, 87, 51]⟩, .string ⟨#[67, 76]⟩, .string ⟨#[73, 110, 116]⟩, .string ⟨#[75, 67]⟩, .string ⟨#[76, 67]⟩, .string ⟨#[83, 109, 76]⟩]) (.int .i64 2)).run Tryz.prog w = .ok (.string ⟨#[66, 87, 50]⟩) w := by kernel_rfl
   have htl : (⟨#[66, 87, 50]⟩ : ByteArray).toList = [66, 87, 50] := by simp
   cases he : (([66, 87, 50] : List UInt8) == name.toList)
   ·go_wp2
    go_round
    case rel => exact ⟨3, by omega, by first | rfl | go_num, rfl, by rw [HF.out, idxOf_drop _ _ _ (show 2 < names9.length by decide)]; rw [show names9[2]'(show 2 < names9.length by decide) = ⟨#[66, 87, 50]⟩ from rfl, htl, he]; rfl⟩
    case measure => simp [intOf]
   ·go_wp2
    go_ret
    exact ⟨ret_int (by rw [HF.out, idxOf_drop _ _ _ (show 2 < names9.length by decide)]; rw [show names9[2]'(show 2 < names9.length by decide) = ⟨#[66, 87, 50]⟩ from rfl, htl, he]; rfl), rfl⟩
  ·have hix : (Instr.index 80 (.agg #[.string ⟨#[66, 68, 50]⟩, .string ⟨#[66, 68, 51]⟩, .string ⟨#[66, 87, 50]⟩, .string ⟨#[66, 87, 51]⟩, .string ⟨#[67, 76]⟩, .string ⟨#[73, 110, 116]⟩, .string ⟨#[75, 67]⟩, .string ⟨#[76, 67]⟩, .string ⟨#[83, 109, 76]⟩]) (.int .i64 3)).run Tryz.prog w = .ok (.string ⟨#[66, 87, 51]⟩) w := by kernel_rfl
   have htl : (⟨#[66, 87, 51]⟩ : ByteArray).toList = [66, 87, 51] := by simp
   cases he : (([66, 87, 51] : List UInt8) == name.toList)
   ·go_wp2
    go_round
    case rel => exact ⟨4, by omega, by first | rfl | go_num, rfl, by rw [HF.out, idxOf_drop _ _ _ (show 3 < names9.length by decide)]; rw [show names9[3]'(show 3 < names9.length by decide) = ⟨#[66, 87, 51]⟩ from rfl, htl, he]; rfl⟩
    case measure => simp [intOf]
   ·go_wp2
    go_ret
    exact ⟨ret_int (by rw [HF.out, idxOf_drop _ _ _ (show 3 < names9.length by decide)]; rw [show names9[3]'(show 3 < names9.length by decide) = ⟨#[66, 87, 51]⟩ from rfl, htl, he]; rfl), rfl⟩
  ·have hix : (Instr.index 80 (.agg #[.string ⟨#[66, 68, 50]⟩, .string ⟨#[66, 68, 51]⟩, .string ⟨#[66, 87, 50]⟩, .string ⟨#[66, 87, 51]⟩, .string ⟨#[67, 76]⟩, .string ⟨#[73, 110, 116]⟩, .string ⟨#[75, 67]⟩, .string ⟨#[76, 67]⟩, .string ⟨#[83, 109, 76]⟩]) (.int .i64 4)).run Tryz.prog w = .ok (.string ⟨#[67, 76]⟩) w := by kernel_rfl
   have htl : (⟨#[67, 76]⟩ : ByteArray).toList = [67, 76] := by simp
   cases he : (([67, 76] : List UInt8) == name.toList)
   ·go_wp2
    go_round
    case rel => exact ⟨5, by omega, by first | rfl | go_num, rfl, by rw [HF.out, idxOf_drop _ _ _ (show 4 < names9.length by decide)]; rw [show names9[4]'(show 4 < names9.length by decide) = ⟨#[67, 76]⟩ from rfl, htl, he]; rfl⟩
    case measure => simp [intOf]
   ·go_wp2
    go_ret
    exact ⟨ret_int (by rw [HF.out, idxOf_drop _ _ _ (show 4 < names9.length by decide)]; rw [show names9[4]'(show 4 < names9.length by decide) = ⟨#[67, 76]⟩ from rfl, htl, he]; rfl), rfl⟩
  ·have hix : (Instr.index 80 (.agg #[.string ⟨#[66, 68, 50]⟩, .string ⟨#[66, 68, 51]⟩, .string ⟨#[66, 87, 50]⟩, .string ⟨#[66, 87, 51]⟩, .string ⟨#[67, 76]⟩, .string ⟨#[73, 110, 116]⟩, .string ⟨#[75, 67]⟩, .string ⟨#[76, 67]⟩, .string ⟨#[83, 109, 76]⟩]) (.int .i64 5)).run Tryz.prog w = .ok (.string ⟨#[73, 110, 116]⟩) w := by kernel_rfl
   have htl : (⟨#[73, 110, 116]⟩ : ByteArray).toList = [73, 110, 116] := by simp
   cases he : (([73, 110, 116] : List UInt8) == name.toList)
   ·go_wp2
    go_round
    case rel => exact ⟨6, by omega, by first | rfl | go_num, rfl, by rw [HF.out, idxOf_drop _ _ _ (show 5 < names9.length by decide)]; rw [show names9[5]'(show 5 < names9.length by decide) = ⟨#[73, 110, 116]⟩ from rfl, htl, he]; rfl⟩
    case measure => simp [intOf]
   ·go_wp2
    go_ret
    exact ⟨ret_int (by rw [HF.out, idxOf_drop _ _ _ (show 5 < names9.length by decide)]; rw [show names9[5]'(show 5 < names9.length by decide) = ⟨#[73, 110, 116]⟩ from rfl, htl, he]; rfl), rfl⟩
  ·have hix : (Instr.index 80 (.agg #[.string ⟨#[66, 68, 50]⟩, .string ⟨#[66, 68, 51]⟩, .string ⟨#[66, 87, 50]⟩, .string ⟨#[66, 87, 51]⟩, .string ⟨#[67, 76]⟩, .string ⟨#[73, 110, 116]⟩, .string ⟨#[75, 67]⟩, .string ⟨#[76, 67]⟩, .string ⟨#[83, 109, 76]⟩]) (.int .i64 6)).run Tryz.prog w = .ok (.string ⟨#[75, 67]⟩) w := by kernel_rfl
   have htl : (⟨#[75, 67]⟩ : ByteArray).toList = [75, 67] := by simp
   cases he : (([75, 67] : List UInt8) == name.toList)
   ·go_wp2
    go_round
    case rel => exact ⟨7, by omega, by first | rfl | go_num, rfl, by rw [HF.out, idxOf_drop _ _ _ (show 6 < names9.length by decide)]; rw [show names9[6]'(show 6 < names9.length by decide) = ⟨#[75, 67]⟩ from rfl, htl, he]; rfl⟩
    case measure => simp [intOf]
   ·go_wp2
    go_ret
    exact ⟨ret_int (by rw [HF.out, idxOf_drop _ _ _ (show 6 < names9.length by decide)]; rw [show names9[6]'(show 6 < names9.length by decide) = ⟨#[75, 67]⟩ from rfl, htl, he]; rfl), rfl⟩
  ·have hix : (Instr.index 80 (.agg #[.string ⟨#[66, 68, 50]⟩, .string ⟨#[66, 68, 51]⟩, .string ⟨#[66, 87, 50]⟩, .string ⟨#[66, 87, 51]⟩, .string ⟨#[67, 76]⟩, .string ⟨#[73, 110, 116]⟩, .string ⟨#[75, 67]⟩, .string ⟨#[76, 67]⟩, .string ⟨#[83, 109, 76]⟩]) (.int .i64 7)).run Tryz.prog w = .ok (.string ⟨#[76, 67]⟩) w := by kernel_rfl
   have htl : (⟨#[76, 67]⟩ : ByteArray).toList = [76, 67] := by simp
   cases he : (([76, 67] : List UInt8) == name.toList)
   ·go_wp2
    go_round
    case rel => exact ⟨8, by omega, by first | rfl | go_num, rfl, by rw [HF.out, idxOf_drop _ _ _ (show 7 < names9.length by decide)]; rw [show names9[7]'(show 7 < names9.length by decide) = ⟨#[76, 67]⟩ from rfl, htl, he]; rfl⟩
    case measure => simp [intOf]
   ·go_wp2
    go_ret
    exact ⟨ret_int (by rw [HF.out, idxOf_drop _ _ _ (show 7 < names9.length by decide)]; rw [show names9[7]'(show 7 < names9.length by decide) = ⟨#[76, 67]⟩ from rfl, htl, he]; rfl), rfl⟩
  ·have hix : (Instr.index 80 (.agg #[.string ⟨#[66, 68, 50]⟩, .string ⟨#[66, 68, 51]⟩, .string ⟨#[66, 87, 50]⟩, .string ⟨#[66, 87, 51]⟩, .string ⟨#[67, 76]⟩, .string ⟨#[73, 110, 116]⟩, .string ⟨#[75, 67]⟩, .string ⟨#[76, 67]⟩, .string ⟨#[83, 109, 76]⟩]) (.int .i64 8)).run Tryz.prog w = .ok (.string ⟨#[83, 109, 76]⟩) w := by kernel_rfl
   have htl : (⟨#[83, 109, 76]⟩ : ByteArray).toList = [83, 109, 76] := by simp
   cases he : (([83, 109, 76] : List UInt8) == name.toList)
   ·go_wp2
    go_round
    case rel => exact ⟨9, by omega, by first | rfl | go_num, rfl, by rw [HF.out, idxOf_drop _ _ _ (show 8 < names9.length by decide)]; rw [show names9[8]'(show 8 < names9.length by decide) = ⟨#[83, 109, 76]⟩ from rfl, htl, he]; rfl⟩
    case measure => simp [intOf]
   ·go_wp2
    go_ret
    exact ⟨ret_int (by rw [HF.out, idxOf_drop _ _ _ (show 8 < names9.length by decide)]; rw [show names9[8]'(show 8 < names9.length by decide) = ⟨#[83, 109, 76]⟩ from rfl, htl, he]; rfl), rfl⟩
  ·go_wp2
   go_ret
   exact ⟨ret_int (by rw [HF.out]; rfl), rfl⟩
theorem find9 (name : ByteArray) : findS names9 name = -1 ∨ ∃ k : Nat, k < 9 ∧ findS names9 name = k := by
 rcases idxOf_range (fun s => s.toList == name.toList) names9 0 with h | ⟨j, hj, h⟩
 ·exact .inl h
 ·exact .inr ⟨j, hj, by rw [show findS names9 name = _ from h]; simp⟩
set_option maxRecDepth 20000 in
set_option maxHeartbeats 1000000 in
theorem l30Known_any (name : ByteArray) (w : World) : Calls Tryz.prog 21 #[.string name] w fun e w' => e = .returned (.bool (decide (0 ≤ findS names9 name))) ∧ Keeps w w' := by
 go_enter Tryz.func21, Tryz.ntmps21
 go_wp2_with fail
 refine (l30Names_any w).mono ?_; rintro e w1 ⟨v1, rfl, hv1, k1⟩
 go_wp2_with fail
 refine (l09Find_any names9 name _ _ hv1).mono ?_; rintro e w' ⟨rfl, rfl⟩
 go_wp2_with fail
 go_ret
 exact ⟨ret_bool (by first | rfl | (rw [decide_eq_decide]) | simp), k1⟩
end Go.Proofs.YtikooimokfbffaaGreatDoor
namespace Go.Proofs.YtikooimokfbffaaGreatDoor
def depB (b : List Nat) : Nat := maxTo (dptL b) b.length
theorem dpt_one {b : List Nat} (hp : Pos b) {x : Nat} (hx : x < b.length) : dptB b x ≤ 1 ↔ b.getD x 0 = 2 ^ x := by
 obtain ⟨hb, hbm, hr, ht, ha⟩ := hp
 constructor
 ·intro h
  apply Nat.eq_of_testBit_eq
  intro y
  rw [Nat.testBit_two_pow]
  by_cases e : x = y
  ·subst e; rw [refl_of hr hx]; simp
  ·rw [decide_eq_false e]
   cases hy : (b.getD x 0).testBit y
   ·rfl
   ·have h1 := dptB_above hb hbm hr ht ha hx hy (Ne.symm e)
    have h2 := dptB_pos hb hbm hr ht ha (bit_lt hbm hy)
    omega
 ·intro h
  rw [dptB_eq hb hbm hr ht ha hx, h]
  have : supD (dptB b) (2 ^ x) x 8 ≤ 0 := supD_le 8 (fun y _ hy hne => by
   rw [Nat.testBit_two_pow, decide_eq_true_eq] at hy
   exact absurd hy.symm hne)
  omega
theorem dep_one {b : List Nat} : depB b ≤ 1 ↔ ∀ x, x < b.length → dptB b x ≤ 1 := by
 constructor
 ·intro h x hx
  have := le_maxTo (c := dptL b) hx
  rw [dptL_get hx] at this
  unfold depB at h
  omega
 ·intro h
  have := maxTo_le (c := dptL b) (n := 2) b.length (fun i hi => by rw [dptL_get hi]; have := h i hi; omega) (by omega)
  unfold depB
  omega
theorem cl_eq {b : List Nat} (hp : Pos b) : (mxB b == 2 ^ b.length - 1) = decide (depB b ≤ 1) := by
 rw [Bool.eq_iff_iff, beq_iff_eq, decide_eq_true_eq, dep_one]
 constructor
 ·intro h x hx
  rw [dpt_one hp hx]
  have := congrArg (fun m => m.testBit x) h
  simp only [mxB, mxT_bit, Nat.testBit_two_pow_sub_one, hx, decide_true, Bool.true_and, beq_iff_eq] at this
  exact this
 ·intro h
  apply Nat.eq_of_testBit_eq
  intro x
  rw [mxB, mxT_bit, Nat.testBit_two_pow_sub_one]
  by_cases hx : x < b.length
  ·have := (dpt_one hp hx).1 (h x hx)
   rw [this]; simp
  ·simp [hx]
def ofKC (b : List Nat) (m : Nat) : Bool := cntB (m &&& mxB b) == 1
def ofSmL (m : Nat) : Bool := decide (cntB m ≤ 2)
def ofK (b : List Nat) (k : Nat) : Bool :=
 if k = 0 then decide (depB b ≤ 2) else if k = 1 then decide (depB b ≤ 3) else if k = 2 then decide (widB b ≤ 2) else if k = 3 then decide (widB b ≤ 3)
 else if k = 4 then decide (depB b ≤ 1) else if k = 6 then b.all (ofKC b) else if k = 7 then decide (widB b ≤ 1) else if k = 8 then b.all ofSmL else true
def nameK (k : Nat) : ByteArray := names9.getD k ⟨#[]⟩
theorem toList_inj {a b : ByteArray} (h : a.toList = b.toList) : a = b := by
 rw [ByteArray.toList_eq, ByteArray.toList_eq] at h
 cases a with | mk x => cases b with | mk y => 
  have : x = y := Array.toList_inj.1 h
  rw [this]
theorem idxOf_at {α : Type} (pr : α → Bool) : ∀ (l : List α) (k j : Nat), idxOf pr l k = ((k + j : Nat) : Int) → ∃ h : j < l.length, pr l[j] = true
 | [], k, j, h => by unfold idxOf at h; omega
 | x :: l, k, j, h => by
  unfold idxOf at h
  split at h
  ·rename_i hx
   obtain rfl : j = 0 := by omega
   exact ⟨by simp, hx⟩
  ·cases j with
   | zero =>
    exfalso
    rcases idxOf_range pr l (k + 1) with e | ⟨j, _, e⟩ <;> rw [e] at h <;> omega
   | succ j =>
    obtain ⟨h1, h2⟩ := idxOf_at pr l (k + 1) j (by rw [h]; congr 1; omega)
    exact ⟨by simpa using h1, by simpa using h2⟩
theorem find9_name {name : ByteArray} {k : Nat} (h : findS names9 name = k) : k < 9 ∧ name = nameK k := by
 obtain ⟨h1, h2⟩ := idxOf_at (fun s => s.toList == name.toList) names9 0 k (by rw [show idxOf _ names9 0 = findS names9 name from rfl, h]; simp)
 refine ⟨h1, ?_⟩
 have := toList_inj (beq_iff_eq.1 h2)
 rw [← this]
 unfold nameK
 rw [List.getD_eq_getElem?_getD, List.getElem?_eq_getElem h1]; rfl
theorem zs_any (b : List Nat) (P : Int → Bool) : (zs b).any P = b.any fun x => P (x : Int) := by
 unfold zs; rw [List.any_map]; rfl
theorem not_any_not {α : Type} (l : List α) (P : α → Bool) : (!(l.any fun x => !P x)) = l.all P := by
 induction l with
 | nil => rfl
 | cons x l ih => rw [List.any_cons, List.all_cons, Bool.not_or, ih, Bool.not_not]
end Go.Proofs.YtikooimokfbffaaGreatDoor
