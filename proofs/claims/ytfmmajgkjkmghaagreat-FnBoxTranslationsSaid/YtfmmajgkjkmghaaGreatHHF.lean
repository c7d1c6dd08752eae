import Derived.Test.YtfmmajgkjkmghaaGreatHOQ
import Derived.Test.YtfmmajgkjkmghaaGreatHKS
import Derived.Test.YtfmmajgkjkmghaaGreatHK7
import Derived.Test.YtfmmajgkjkmghaaGreatHK3
import Derived.Deep.CutBlock
import Derived.Deep.DeepCutAuto
import Derived.Test.YtfmmajgkjkmghaaGreatHJB
import Derived.Test.YtfmmajgkjkmghaaGreatHK1
import Derived.Test.YtfmmajgkjkmghaaGreatHTU
import Derived.RangeFuncNested
import Derived.RangeFuncBound
import Derived.RangeFuncCalls
import Derived.RangeFuncLeaves
import Derived.Shelf.Abstract
import Derived.Shelf.RegionOpen
import Derived.WalkKit
import Derived.OwnWalkIn
import Derived.TacticsInMore
import Derived.LoopIn
/- FnBoxTranslations: a plain formula is forced where its box translation is true in the model of the order, and the skeleton of a model forces it at the clusters where it is true. -/
namespace Go.Proofs.YtfmmajgkjkmghaaGreat
open Go.RowKit
set_option maxRecDepth 20000 in
set_option maxHeartbeats 8000000 in
theorem lawBoxTranslations (v : Value) (n : Nat) (w : World) (hv : Bts w v n) : Calls Tryz.prog 3 #[v] w fun e w' => e = .returned (.bool true) ∧ Keeps w w' := by
 have HBG := hid (big_any v n w hv)
 have HDT := hid (fun (h : n ≤ 4096) => drawBoxTranslation_any v n w hv h)
 have HDV := hid (fun (h : n ≤ 4096) wz (kz : Keeps w wz) => drawBoxValuesOf_any v n wz (hv.keeps kz) h)
 have HDS := hid (fun (h : n ≤ 4096) wz (kz : Keeps w wz) => drawSkeletonOfModel_any v n wz (hv.keeps kz) h)
 obtain ⟨p, c, rfl, _⟩ := hv
 by_cases hb : 4096 < n
 ·rw [decide_eq_true hb] at HBG
  clear hb HDT HDV HDS
  go_enter Tryz.func3, Tryz.ntmps3
  go_wp2_with fail
  refine HBG.out.mono ?_; rintro e w' ⟨rfl, rfl⟩
  go_wp2_with fail
  go_ret
  exact ⟨rfl, Keeps.refl _⟩
 rw [decide_eq_false hb] at HBG
 have HD1 := hid (HDT.out (by omega)); clear HDT
 have HD2 := hid (HDV.out (by omega)); clear HDV
 have HD3 := hid (HDS.out (by omega)); clear HDS hb
 go_enter Tryz.func3, Tryz.ntmps3
 go_wp2_with fail
 refine HBG.out.mono ?_; rintro e w' ⟨rfl, rfl⟩
 go_wp2_with fail
 refine HD1.out.mono ?_; rintro e w1 ⟨v1, a, rfl, hv1, hl1, k1⟩
 have HV1 := hid (hv1.nds (by omega)); clear hv1
 obtain ⟨p1, n1, q1, rfl⟩ := HV1.out.shape
 obtain ⟨r, c1, hboth, hrl, his⟩ := factsBoxTranslation a
 have HI := hid (hboth.2 _ w1 HV1.out)
 have HSP := hid (fun wz (kz : Keeps w1 wz) => hboth.1 _ wz (HV1.out.keeps kz))
 have HIS := hid his
 have K1 := hid k1
 clear hboth his k1 HBG HD1
 go_wp2_with fail
 refine HI.out.mono ?_; rintro e w2 ⟨u2, rfl, hu2, k2⟩
 have HU2 := hid (hu2.nds (by omega))
 obtain ⟨p2, n2, q2, rfl⟩ := hu2.own_shape
 clear hu2 HI
 go_wp2_with fail
 refine (HSP.out _ k2).mono ?_; rintro e w3 ⟨u3, rfl, hu3, k3⟩
 have HSM := hid (sameNodes9_any r r _ _ w3 (HU2.out.keeps k3) hu3)
 rw [decide_eq_true rfl] at HSM
 obtain ⟨p3, n3, q3, rfl⟩ := hu3.shape
 clear hu3 HSP
 go_wp2_with fail
 refine HSM.out.mono ?_; rintro e w4 ⟨rfl, k4⟩
 have K4 := hid ((k2.trans k3).trans k4)
 have K24 := hid (k3.trans k4)
 clear k2 k3 k4 HSM
 by_cases hc : c1 = 0
 case neg =>
  have hc' : (c1 != 0) = true := by simp [hc]
  clear hc HIS
  go_wp2_with fail
  go_ret
  exact ⟨rfl, K1.out.trans K4.out⟩
 subst hc
 obtain ⟨t, hw, hpl, hal, hat, hrt, hl40, hpe⟩ : ∃ t : Fm, t.wf ∧ t.plain = true ∧ t.enc.length ≤ 40 ∧ a = t.enc ∧ r = (bxt t).enc ∧ (bxt t).enc.length ≤ 40 ∧ plainErr t.enc = 0 := by
  rcases HIS.out with ⟨t, h1, h2, h3, h4, h5, h6, h7⟩ | ⟨h1, h2, h3⟩
  ·obtain ⟨g1, g2⟩ := madeL_ok h7.symm
   exact ⟨t, h1, h3, by rw [← h2]; exact h4, h2, by rw [h6, g2], g1, by rw [← h2]; exact h5⟩
  ·exact absurd h3.symm h1
 have HTN := hid (show Nds w1 (.slice p1 n1 q1) t.enc by rw [← hat]; exact HV1.out)
 have HTB := hid (show Nds w2 (.slice p2 n2 q2) (bxt t).enc by rw [← hrt]; exact HU2.out)
 have hisF := isFm_of hw hal
 have hisB := isFm_of (bxt_wf t hw) hl40
 clear HIS HV1 HU2 hat hrt hrl hl1
 -- the model of a drawn valuation
 have HFO := hid (fun (b c : List Nat) (h1 : isVal b.length (zs b) (zs c) = true) (h2 : b.length ≤ 8) (h3 : Bnd b.length b) (h4 : Bnd b.length c) (h5 : c.length = 6) (v u : Value) (wz : World) (kz : Keeps w1 wz) (hv : Ints wz v (zs b)) (hu : Ints wz u (zs c)) => forcedSet_ok b c h1 h2 h3 h4 h5 t hw hisF hpl (by omega) v u _ wz hv hu (HTN.out.keeps kz))
 have HTR := hid (fun (b c : List Nat) (h1 : isMod b.length (zs b) (zs c) = true) (h2 : b.length ≤ 8) (h3 : Bnd b.length b) (h4 : Bnd b.length c) (h5 : c.length = 6) (v u : Value) (wz : World) (kz : Keeps w2 wz) (hv : Ints wz v (zs b)) (hu : Ints wz u (zs c)) => truthSet_ok b c h1 h2 h3 h4 h5 (bxt t) (bxt_wf t hw) hisB (by omega) v u _ wz hv hu (HTB.out.keeps kz))
 go_wp2_with fail
 refine (HD2.out _ (K1.out.trans K4.out)).mono ?_; rintro e w5 ⟨n5, v5, a5, u5, vs5, rfl, hv5, hu5, k5⟩
 have hv5' := hv5
 have hu5' := hu5
 obtain ⟨pv5, cv5, rfl, _⟩ := hv5'
 obtain ⟨pu5, cu5, rfl, _⟩ := hu5'
 have kP := (Keeps.refl w5).alloc (.cells #[.int .i64 n5, .slice pv5 a5.length cv5] 31)
 obtain ⟨x0, x1⟩ := BoxF.made w5 n5 (.slice pv5 a5.length cv5) 31
 have HBV : Hid (∃ N A V C, ((C = 0 ∧ isVal n5 a5 vs5 = true ∧ N = (a5.length : Int) ∧ A = a5 ∧ V = vs5) ∨ C = 1) ∧ Calls Tryz.prog 11 #[.agg #[.int .i64 n5, .slice pv5 a5.length cv5], .slice pu5 vs5.length cu5] (w5.alloc (.cells #[.int .i64 n5, .slice pv5 a5.length cv5] 31)) (RetVM (w5.alloc (.cells #[.int .i64 n5, .slice pv5 a5.length cv5] 31)) N A V C)) := hid (by
  have h := implBoxValues_any n5 a5 vs5 _ _ _ (hv5.keeps kP) (hu5.keeps kP)
  by_cases hval : isVal n5 a5 vs5 = true
  ·simp only [if_pos hval] at h
   exact ⟨_, _, _, _, .inl ⟨rfl, hval, rfl, rfl, rfl⟩, h⟩
  ·simp only [if_neg hval] at h
   exact ⟨_, _, _, _, .inr rfl, h⟩)
 have K5 := hid (k5.trans kP)
 have HV5 := hid (And.intro (hv5.keeps kP) (hu5.keeps kP))
 clear hv5 hu5 k5 kP HD2
 have hsz5 : w5.heap.size < (w5.alloc (.cells #[.int .i64 n5, .slice pv5 a5.length cv5] 31)).heap.size := by simp
 go_wp2_with fail
 generalize w5.alloc (.cells #[.int .i64 n5, .slice pv5 a5.length cv5] 31) = W5 at *
 generalize w5.heap.size = g5 at *
 obtain ⟨N6, A6, V6, C6, hC6, HB6⟩ := HBV.out
 have HC6 := hid hC6
 clear hC6 HBV
 go_wp2_with fail
 refine HB6.mono ?_; rintro e w6 ⟨va6, vb6, rfl, ⟨ho6, hp6, _⟩, k6⟩
 obtain ⟨pa6, ma6, ca6, rfl⟩ := ho6.shape0
 obtain ⟨pb6, mb6, cb6, rfl⟩ := hp6.shape0
 have kM := (Keeps.refl w6).alloc (.cells #[.int .i64 N6, .slice pa6 ma6 ca6, .slice pb6 mb6 cb6] 37)
 obtain ⟨y0, y1, y2⟩ := BoxM.made w6 N6 (.slice pa6 ma6 ca6) (.slice pb6 mb6 cb6) 37
 replace x0 := (k6.trans kM).cell x0
 replace x1 := (k6.trans kM).cell x1
 have K6 := hid ((K5.out.trans k6).trans kM)
 have HV6 := hid (And.intro (HV5.out.1.keeps (k6.trans kM)) (HV5.out.2.keeps (k6.trans kM)))
 have HM6 := hid (And.intro (ho6.keeps kM) (hp6.keeps kM))
 clear HV5 HB6 K5 hsz5 k6 kM ho6 hp6
 go_upto_if 69 with fail
 generalize w6.alloc (.cells #[.int .i64 N6, .slice pa6 ma6 ca6, .slice pb6 mb6 cb6] 37) = W6 at *
 generalize w6.heap.size = g6 at *
 go_cut [] (fun wx => Keeps w4 wx)
 case first =>
  rcases HC6.out with ⟨rfl, hval, rfl, rfl, rfl⟩ | rfl
  ·obtain ⟨b, c, rfl, rfl, rfl, hpos, h6, hbc, hup⟩ := val_is hval
   have hbs := hpos.1
   have hm := is_mod hpos.1 hpos.2.1 h6 hbc
   have hfo := HFO.out b c hval hpos.1 hpos.2.1 hbc h6 _ _ W6 (K4.out.trans K6.out) HV6.out.1 HV6.out.2
   have htr := fun wz (kz : Keeps W6 wz) => HTR.out b c hm hpos.1 hpos.2.1 hbc h6 _ _ wz ((K24.out.trans K6.out).trans kz) ((HM6.out.1.ints (by rw [zs_length]; omega)).keeps kz) ((HM6.out.2.ints (by rw [zs_length]; omega)).keeps kz)
   rw [tr_order hpos hup t hw hpl] at htr
   rw [zs_length b] at *
   rw [zs_length c] at *
   have HFQ := hid hfo
   have HTQ := hid htr
   clear hfo htr hm hval hpos hup hbc h6 HFO HTR HV6 HM6 HC6 hbs
   generalize frcP b c t = z at *
   generalize b.length = bl at *
   generalize c.length = cl at *
   go_wp2_with fail
   refine HFQ.out.mono ?_; rintro e w7 ⟨rfl, k7⟩
   replace y0 := k7.cell y0
   replace y1 := k7.cell y1
   replace y2 := k7.cell y2
   go_wp2_with fail
   refine (HTQ.out _ k7).mono ?_; rintro e w8 ⟨rfl, k8⟩
   go_wp2_with fail
   go_meet
   exact (K6.out.trans k7).trans k8
  ·go_wp2_with fail
   go_meet
   exact K6.out
 case rest =>
  have K7 := hid hcut
  clear hcut HV6 HM6 HC6 K6 x0 x1 y0 y1 y2
  go_wp2_with fail
  refine (HD3.out _ ((K1.out.trans K4.out).trans K7.out)).mono ?_; rintro e w9 ⟨n9, v9, a9, u9, vs9, rfl, hv9, hu9, k9⟩
  have hv9' := hv9
  have hu9' := hu9
  obtain ⟨pv9, cv9, rfl, _⟩ := hv9'
  obtain ⟨pu9, cu9, rfl, _⟩ := hu9'
  have kN := (Keeps.refl w9).alloc (.cells #[.int .i64 n9, .slice pv9 a9.length cv9, .slice pu9 vs9.length cu9] 37)
  obtain ⟨x0, x1, x2⟩ := BoxM.made w9 n9 (.slice pv9 a9.length cv9) (.slice pu9 vs9.length cu9) 37
  have K9 := hid (K7.out.trans (k9.trans kN))
  have HV9 := hid (And.intro (hv9.keeps kN) (hu9.keeps kN))
  have HSK := hid (implSkeleton_any n9 a9 vs9 _ _ _ HV9.out.1 HV9.out.2)
  have hsz9 : w9.heap.size < (w9.alloc (.cells #[.int .i64 n9, .slice pv9 a9.length cv9, .slice pu9 vs9.length cu9] 37)).heap.size := by simp
  clear hv9 hu9 k9 kN K7 HD3
  go_wp2_with fail
  generalize w9.alloc (.cells #[.int .i64 n9, .slice pv9 a9.length cv9, .slice pu9 vs9.length cu9] 37) = W9 at *
  generalize w9.heap.size = g9 at *
  obtain ⟨SP, hSP⟩ : ∃ x, x = skP n9 a9 vs9 := ⟨_, rfl⟩
  obtain ⟨SV, hSV⟩ : ∃ x, x = skV n9 a9 vs9 := ⟨_, rfl⟩
  obtain ⟨SC, hSC⟩ : ∃ x, x = skC n9 a9 vs9 := ⟨_, rfl⟩
  obtain ⟨SE, hSE⟩ : ∃ x, x = skE n9 a9 vs9 := ⟨_, rfl⟩
  rw [← hSP, ← hSV, ← hSC, ← hSE] at HSK
  have HSF := hid (fun (h : SE = 0) => by
   have := sk_is (n := n9) (a := a9) (vs := vs9) (by rw [← hSE]; exact h)
   rw [← hSP, ← hSV, ← hSC] at this
   exact this)
  clear hSP hSV hSC hSE
  go_wp2_with fail
  refine HSK.out.mono ?_; rintro e w10 ⟨r0, r1, r2, rfl, h0, h1, h2, -, -, -, k10⟩
  obtain ⟨pr0, mr0, cr0, rfl⟩ := h0.shape0
  obtain ⟨pr1, mr1, cr1, rfl⟩ := h1.shape0
  obtain ⟨pr2, mr2, cr2, rfl⟩ := h2.shape0
  have kQ := (Keeps.refl w10).alloc (.cells #[.int .i64 SP.length, .slice pr0 mr0 cr0] 31)
  obtain ⟨y0, y1⟩ := BoxF.made w10 SP.length (.slice pr0 mr0 cr0) 31
  replace x0 := (k10.trans kQ).cell x0
  replace x1 := (k10.trans kQ).cell x1
  replace x2 := (k10.trans kQ).cell x2
  have K10 := hid (K9.out.trans (k10.trans kQ))
  have HV10 := hid (And.intro (HV9.out.1.keeps (k10.trans kQ)) (HV9.out.2.keeps (k10.trans kQ)))
  have HS10 := hid (And.intro (h0.keeps kQ) (And.intro (h1.keeps kQ) (h2.keeps kQ)))
  clear h0 h1 h2 k10 kQ K9 HV9 HSK hsz9
  by_cases hse : SE = 0
  case neg =>
   have hse' : (SE != 0) = true := by simp [hse]
   clear hse HSF
   go_wp2_with fail
   go_ret
   exact ⟨rfl, (K1.out.trans K4.out).trans K10.out⟩
  subst hse
  obtain ⟨b, c, rfl, rfl, rfl, h8, hbm, h6, hbc, hr, ht, rfl, rfl, rfl⟩ := HSF.out rfl
  clear HSF
  obtain ⟨ro, co, hrol, hio, hoi⟩ := implOuterBox_is t.enc
  have HIO := hid hio
  have HOI := hid (fun wz (kz : Keeps w1 wz) => hoi _ wz (HTN.out.keeps kz))
  clear hio hoi
  have hm := is_mod h8 hbm h6 hbc
  have hqp := qL_Pos h8 hbm hr ht
  have hmu : ∀ x ∈ c.map (fun m => mapM (clB b) (boxB b m b.length)), x ∈ upL (qL b b.length) := fun x hx => by
   obtain ⟨m, _, rfl⟩ := List.mem_map.1 hx
   exact sk_up h8 hbm hr ht m
  have hmb : Bnd (qL b b.length).length (c.map (fun m => mapM (clB b) (boxB b m b.length))) := mem_bnd fun x hx => ((mem_upL hqp.2.2.1).1 (hmu x hx)).1
  have hml : (c.map (fun m => mapM (clB b) (boxB b m b.length))).length = 6 := by rw [List.length_map]; exact h6
  have hv2 := is_val hqp hml hmu
  have HBIT := hid (fun i (hi : i < b.length) => tr_skel h8 hbm hr ht h6 t hw hpl i hi)
  have HTB2 := hid (tr_outer hbm hr ht hbc t hpl)
  have hTl : trB b c (bxt t) < 256 := Nat.lt_of_lt_of_le (trB_lt hbc _) (two8 h8)
  have hFl : frcP (qL b b.length) (c.map (fun m => mapM (clB b) (boxB b m b.length))) t < 256 := Nat.lt_of_lt_of_le (frcP_lt hmb _) (two8 hqp.1)
  have HCL8 := hid (clB_lt8 h8)
  have hcll : (clB b).length = b.length := clB_len b
  have HT1 := hid (fun wz (kz : Keeps w4 wz) (hv : Ints wz (.slice pv9 (zs b).length cv9) (zs b)) (hu : Ints wz (.slice pu9 (zs c).length cu9) (zs c)) => HTR.out b c hm h8 hbm hbc h6 _ _ wz (K24.out.trans kz) hv hu)
  have HF1 := hid (fun wz (kz : Keeps w4 wz) (hv : Ints wz (.slice pr0 mr0 cr0) (zs (qL b b.length))) (hu : Ints wz (.slice pr1 mr1 cr1) (zs (c.map (fun m => mapM (clB b) (boxB b m b.length))))) => HFO.out (qL b b.length) _ hv2 hqp.1 hqp.2.1 hmb hml _ _ wz (K4.out.trans kz) hv hu)
  have HT2 := hid (fun (hx : (Fm.box (outr t)).enc.length ≤ 40) v (wz : World) (hn : Nds wz v (Fm.box (outr t)).enc) (hv : Ints wz (.slice pv9 (zs b).length cv9) (zs b)) (hu : Ints wz (.slice pu9 (zs c).length cu9) (zs c)) => truthSet_ok b c hm h8 hbm hbc h6 (Fm.box (outr t)) (outr_wf t hw) (isFm_of (show (Fm.box (outr t)).wf from outr_wf t hw) hx) (by omega) _ _ v wz hv hu hn)
  rw [HTB2.out] at HT2
  have hcl := hid (HS10.out.2.2.ints (by rw [zs_length, hcll]; omega))
  have hql := hid (HS10.out.1.ints (by rw [zs_length]; have := hqp.1; omega))
  have hmi := hid (HS10.out.2.1.ints (by rw [zs_length, hml]; omega))
  have HVB := hid HV10.out.1
  have HVC := hid HV10.out.2
  have HLB : Hid ((zs (clB b)).length = b.length) := hid (by rw [zs_length]; exact hcll)
  have HQL : Hid ((zs (qL b b.length)).length = (qL b b.length).length) := hid (zs_length _)
  clear HV10 HS10 hm hqp hmu hmb hml hv2 hr ht hbc h6 hbm HTB2
  generalize trB b c (bxt t) = Tn at *
  generalize frcP (qL b b.length) (c.map (fun m => mapM (clB b) (boxB b m b.length))) t = Fn at *
  go_wp2_with fail
  generalize w10.alloc (.cells #[.int .i64 ((zs (qL b b.length)).length : Int), .slice pr0 mr0 cr0] 31) = W10 at *
  generalize w10.heap.size = g10 at *
  refine (HOI.out _ (K4.out.trans K10.out)).mono ?_; rintro e w11 ⟨u11, rfl, hu11, k11⟩
  obtain ⟨p11, n11, q11, rfl⟩ := hu11.own_shape
  have HO11 := hid (hu11.nds (by omega))
  replace x0 := k11.cell x0
  replace x1 := k11.cell x1
  replace x2 := k11.cell x2
  replace y0 := k11.cell y0
  replace y1 := k11.cell y1
  clear hu11 HOI
  have HT1a := hid (HT1.out w11 (K10.out.trans k11) (HVB.out.keeps k11) (HVC.out.keeps k11))
  go_wp2_with fail
  refine HT1a.out.mono ?_; rintro e w12 ⟨rfl, k12⟩
  replace x0 := k12.cell x0
  replace x1 := k12.cell x1
  replace x2 := k12.cell x2
  replace y0 := k12.cell y0
  replace y1 := k12.cell y1
  have HF1a := hid (HF1.out w12 ((K10.out.trans k11).trans k12) ((hql.out.keeps k11).keeps k12) ((hmi.out.keeps k11).keeps k12))
  rw [HQL.out] at y0
  clear HT1a
  have hmr2 : mr2 = b.length := by
   obtain ⟨_, _, e, _⟩ := hcl.out
   injection e with _ e2 _
   rw [e2]; exact HLB.out
  subst hmr2
  have K12 := hid ((K10.out.trans k11).trans k12)
  have KQ12 := hid (k11.trans k12)
  have HO12 := hid (HO11.out.keeps k12)
  clear k11 k12
  go_wp2_with fail
  refine HF1a.out.mono ?_; rintro e w13 ⟨rfl, k13⟩
  replace x0 := k13.cell x0
  replace x1 := k13.cell x1
  replace x2 := k13.cell x2
  have K13 := hid (K12.out.trans k13)
  have HC13 := hid ((hcl.out.keeps KQ12.out).keeps k13)
  have HO13 := hid (HO12.out.keeps k13)
  have HVB13 := hid ((HVB.out.keeps KQ12.out).keeps k13)
  have HVC13 := hid ((HVC.out.keeps KQ12.out).keeps k13)
  clear y0 y1 hql hmi hcl HVB HVC HF1a HF1 HO11 HO12 K12 KQ12 k13 K10 HTR HFO
  have hb8 : b.length ≤ 8 := h8
  clear h8
  go_wp2_with fail
  go_loopw [27] (fun s27 wr => ∃ i : Nat, i ≤ b.length ∧ s27 = .int .i64 i ∧ Keeps w13 wr) (fun s27 _ => b.length - (intOf s27).toNat)
  case atStart => exact ⟨0, by omega, rfl, Keeps.refl _⟩
  case round =>
   obtain ⟨i, hi, rfl, kw⟩ := hrel
   replace x0 := kw.cell x0
   replace x1 := kw.cell x1
   replace x2 := kw.cell x2
   by_cases hlt : i < b.length
   ·have hlt' : (i : Int) < b.length := by omega
    obtain ⟨b1, o1, e1, hc1⟩ := (HC13.out.keeps kw).zs_cell i (by rw [hcll]; exact hlt)
    have hc8 := HCL8.out i (by rw [hcll]; exact hlt)
    subst e1
    have HB1 := hid (fun wz => bit9_any Tn i wz hTl (by omega))
    have HB2 := hid (fun wz => bit9_any Fn ((clB b).getD i 0) wz hFl (by omega))
    have hbt := HBIT.out i hlt
    rw [hbt] at HB1
    clear hbt hc8
    generalize Fn.testBit ((clB b).getD i 0) = x at *
    generalize (clB b).getD i 0 = cl at *
    go_wp2_with fail
    go_quiet (first | (go_at_call 17; first | (with_reducible refine quietS (HB1.out _)) | (with_reducible refine quietS (HB2.out _))))
    cases x
    all_goals
     go_wp2_with fail
     go_roundw
     case rel => exact ⟨i + 1, by omega, by go_num, kw.trans (by first | exact (Keeps.refl wr).drewN _ | exact Keeps.refl wr)⟩
     case measure => simp [intOf]; omega
   ·have e : b.length = i := by omega
    have hlt' : ¬ (i : Int) < b.length := by omega
    clear hlt
    have KR := hid (K13.out.trans kw)
    have KF := hid ((K1.out.trans K4.out).trans KR.out)
    have hoo : co = (madeL (outr t).enc).2 ∧ ro = (madeL (outr t).enc).1 := by
     rcases HIO.out with ⟨t', _, ht', _, _, _, hr', hc'⟩ | ⟨h1, _, _⟩
     ·have := enc_inj ht'
      subst this
      exact ⟨hc', hr'⟩
     ·exact absurd hpe h1
    obtain ⟨hco, hro⟩ := hoo
    have HON := hid (HO13.out.keeps kw)
    have HVBN := hid (HVB13.out.keeps kw)
    have HVCN := hid (HVC13.out.keeps kw)
    clear HIO HO13 HVB13 HVC13 HBIT HC13 kw K13
    rcases madeL_code (outr t).enc with hz | hz
    ·rw [hz] at hco
     subst hco
     obtain ⟨g1, g2⟩ := madeL_ok hz
     rw [g2] at hro
     subst hro
     have HP := hid (prefixBox_any (outr t).enc (isFm_of (outr_wf t hw) g1) g1 _ wr HON.out)
     have hbe : (⟨5, 0⟩ : Nd) :: (outr t).enc = (Fm.box (outr t)).enc := rfl
     rw [hbe] at HP
     have HMC := hid (madeL_code (Fm.box (outr t)).enc)
     have HMO := hid (fun h => madeL_ok (a := (Fm.box (outr t)).enc) h)
     have HML := hid (madeL_len (Fm.box (outr t)).enc)
     clear hbe hz g2 HON e
     generalize (Fm.box (outr t)).enc = bx at *
     go_wp2_with fail
     refine HP.out.mono ?_; rintro e w14 ⟨u14, rfl, hu14, k14⟩
     have HN14 := hid (hu14.nds (by have := HML.out; omega))
     obtain ⟨p14, n14, q14, rfl⟩ := hu14.own_shape
     replace x0 := k14.cell x0
     replace x1 := k14.cell x1
     replace x2 := k14.cell x2
     have KE := hid (KF.out.trans k14)
     rcases HMC.out with hz2 | hz2
     ·obtain ⟨g3, g4⟩ := HMO.out hz2
      rw [g4] at HN14
      have HT3 := hid (HT2.out g3 _ w14 HN14.out (HVBN.out.keeps k14) (HVCN.out.keeps k14))
      rw [hz2]
      clear hz2 g4 g3 HT2 HMC HMO HML HN14 HVBN HVCN hu14 k14 HP
      go_wp2_with fail
      refine HT3.out.mono ?_; rintro e w15 ⟨rfl, k15⟩
      go_wp2_with fail
      go_ret
      exact ⟨rfl, KE.out.trans k15⟩
     ·rw [hz2]
      clear hz2 HT2 HMC HMO HML HN14 HVBN HVCN hu14 k14 HP
      go_wp2_with fail
      go_ret
      exact ⟨rfl, KE.out⟩
    ·rw [hz] at hco
     subst hco
     clear hz hro HON e
     go_wp2_with fail
     go_ret
     exact ⟨rfl, KF.out⟩
end Go.Proofs.YtfmmajgkjkmghaaGreat
namespace Go.Proofs.YtfmmajgkjkmghaaGreat
open Fm
end Go.Proofs.YtfmmajgkjkmghaaGreat
namespace Go.Proofs.YtfmmajgkjkmghaaGreat
open Go.RowKit
end Go.Proofs.YtfmmajgkjkmghaaGreat
