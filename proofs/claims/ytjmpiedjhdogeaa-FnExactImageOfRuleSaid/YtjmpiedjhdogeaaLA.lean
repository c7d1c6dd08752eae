/- The law of ImageOfRule. -/
import Derived.Test.YtjmpiedjhdogeaaL8
import Derived.Test.YtjmpiedjhdogeaaLB
namespace Go.Proofs.Ytjmpiedjhdogeaa
open Go.RowKit
--
set_option maxRecDepth 20000 in
set_option maxHeartbeats 8000000 in
theorem lawImageOfRule (xs0 : List (List Nd)) (c0 : List Nd) (v0 u0 : Value) (l1 : List (List Nd)) (v1 : Value) (XS : List (List Nd)) (CC : List Nd) (code : Int) (hxl : XS.length ≤ 1000) (hcl : tot XS + CC.length ≤ 1000) (hs : ∀ (v0' : Value) (u0' : Value) (v1' : Value) (w : World), NdsL w v0' xs0 → Nds w u0' c0 → NdsL w v1' l1 → Calls Try.prog 18 #[.agg #[v0', u0'], v1'] w (fun e w' => ∃ v u, e = .returned (.tuple #[.agg #[v, u], .int .i64 code]) ∧ NdsL w' v XS ∧ Nds w' u CC ∧ Keeps w w')) (hi : ∀ (v0' : Value) (u0' : Value) (v1' : Value) (w : World), NdsL w v0' xs0 → Nds w u0' c0 → NdsL w v1' l1 → Calls Try.prog 21 #[.agg #[v0', u0'], v1'] w (RetRE w XS CC code)) (w : World) (hv0 : NdsL w v0 xs0) (hu0 : Nds w u0 c0) (hv1 : NdsL w v1 l1) (hsum : (xs0.length + tot xs0 + c0.length) + (l1.length + tot l1) ≤ 1048576) :
    Calls Try.prog 4 #[.agg #[v0, u0], v1] w fun e w' => e = .returned (.bool true) ∧ Keeps w w' := by
  have HS := hid hs; clear hs
  have HI := hid hi; clear hi
  obtain ⟨p0, n0, q0, rfl⟩ := agg_shape hv0
  obtain ⟨r0, m0, z0, rfl⟩ := hu0.shape
  obtain ⟨p1, n1, q1, rfl⟩ := agg_shape hv1
  have kP : Keeps w (w.alloc (.cells #[.slice p0 n0 q0, .slice r0 m0 z0] 38)) := ((Keeps.refl w).alloc (.cells #[.slice p0 n0 q0, .slice r0 m0 z0] 38))
  have pa0 : (w.alloc (.cells #[.slice p0 n0 q0, .slice r0 m0 z0] 38)).cell? ⟨w.heap.size, 0, none⟩ = some (.slice p0 n0 q0) := by simp
  have pb0 : (w.alloc (.cells #[.slice p0 n0 q0, .slice r0 m0 z0] 38)).cell? ⟨w.heap.size, 1, none⟩ = some (.slice r0 m0 z0) := by simp
  replace hv0 := hv0.keeps kP
  replace hu0 := hu0.keeps kP
  replace hv1 := hv1.keeps kP
  have kW := Keeps.refl (w.alloc (.cells #[.slice p0 n0 q0, .slice r0 m0 z0] 38))
  go_enter Try.func4, Try.ntmps4
  have qa := kW.cell pa0
  have qb := kW.cell pb0
  go_wp2_with fail
  refine (szLogicRule_any xs0 c0 _ _ (1048576) _ (hv0.keeps kW) (hu0.keeps kW) (by omega) (by omega) (by omega)).mono ?_; rintro e w1 ⟨rfl, kw1⟩
  replace kW := kW.trans kw1
  clear qa qb
  have hp0 : (0 : Int) ≤ 1048576 - (xs0.length : Int) - (tot xs0 : Int) - (c0.length : Int) := by omega
  go_wp2_with fail
  refine (szNodeSS_any l1 _ (1048576 - (xs0.length : Int) - (tot xs0 : Int) - (c0.length : Int)) _ (hv1.keeps kW) (by omega) (by omega) (by omega)).mono ?_; rintro e w' ⟨rfl, rfl⟩
  have hp1 : (0 : Int) ≤ 1048576 - (xs0.length : Int) - (tot xs0 : Int) - (c0.length : Int) - (l1.length : Int) - (tot l1 : Int) := by omega
  have qa := kW.cell pa0
  have qb := kW.cell pb0
  go_wp2_with fail
  refine (toLogicRule_any xs0 c0 _ _ _ (hv0.keeps kW) (hu0.keeps kW) (by omega)).mono ?_; rintro e w3 ⟨s0, s0', rfl, hs0, kw3⟩
  replace kW := kW.trans kw3
  clear qa qb
  have kS0 := Keeps.refl w3
  go_wp2_with fail
  refine (toNodeSS_any l1 _ _ (hv1.keeps kW) (by omega)).mono ?_; rintro e w4 ⟨s1, rfl, hs1, kw4⟩
  replace kW := kW.trans kw4
  replace kS0 := kS0.trans kw4
  have kS1 := Keeps.refl w4
  go_wp2_with fail
  refine (HS.out _ _ _ _ ((hs0.keeps kS0).ndsL (by omega) (by omega)) ((hs0.keeps kS0).nds (by omega)) ((hs1.keeps kS1).ndsL (by omega) (by omega))).mono ?_; rintro e w5 ⟨sv, su, rfl, hsv, hsu, kw5⟩
  replace kW := kW.trans kw5
  replace kS0 := kS0.trans kw5
  replace kS1 := kS1.trans kw5
  clear hs0 kS0 hs1 kS1
  obtain ⟨s1, s2, s3, rfl⟩ := agg_shape hsv
  obtain ⟨t1, t2, t3, rfl⟩ := hsu.shape
  have kb := (Keeps.refl w5).alloc (.cells #[.slice s1 s2 s3, .slice t1 t2 t3] 27)
  replace kW := kW.trans kb
  replace hsv := hsv.keeps kb
  replace hsu := hsu.keeps kb
  clear kb
  have sa : (w5.alloc (.cells #[.slice s1 s2 s3, .slice t1 t2 t3] 27)).cell? ⟨w5.heap.size, 0, none⟩ = some (.slice s1 s2 s3) := by simp
  have sb : (w5.alloc (.cells #[.slice s1 s2 s3, .slice t1 t2 t3] 27)).cell? ⟨w5.heap.size, 1, none⟩ = some (.slice t1 t2 t3) := by simp
  have kS := Keeps.refl (w5.alloc (.cells #[.slice s1 s2 s3, .slice t1 t2 t3] 27))
  have nWx0 := kW.size
  have nSx0 := kS.size
  have qa := kW.cell pa0
  have qb := kW.cell pb0
  go_wp2_with fail
  refine (toLogicRule_any xs0 c0 _ _ _ (hv0.keeps kW) (hu0.keeps kW) (by omega)).mono ?_; rintro e w6 ⟨x0, x0', rfl, hx0, kw6⟩
  replace kW := kW.trans kw6
  replace kS := kS.trans kw6
  clear qa qb
  obtain ⟨px, nx, qx, rfl⟩ := agg_shape (hx0.ndsL (by omega) (by omega))
  obtain ⟨rx, mx, zx, rfl⟩ := (hx0.nds (by omega)).shape
  have kX0 := Keeps.refl w6
  have kb := (Keeps.refl w6).alloc (.cells #[.slice px nx qx, .slice rx mx zx] 27)
  replace kW := kW.trans kb
  replace kS := kS.trans kb
  replace kX0 := kX0.trans kb
  have xa0 : (w6.alloc (.cells #[.slice px nx qx, .slice rx mx zx] 27)).cell? ⟨w6.heap.size, 0, none⟩ = some (.slice px nx qx) := by simp
  have xb0 : (w6.alloc (.cells #[.slice px nx qx, .slice rx mx zx] 27)).cell? ⟨w6.heap.size, 1, none⟩ = some (.slice rx mx zx) := by simp
  have kB0 := Keeps.refl (w6.alloc (.cells #[.slice px nx qx, .slice rx mx zx] 27))
  clear kb
  have nWx1 := kW.size
  have nSx1 := kS.size
  have nX0x1 := kX0.size
  go_wp2_with fail
  refine (toNodeSS_any l1 _ _ (hv1.keeps kW) (by omega)).mono ?_; rintro e w7 ⟨x1, rfl, hx1, kw7⟩
  replace kW := kW.trans kw7
  replace kS := kS.trans kw7
  replace kX0 := kX0.trans kw7
  replace kB0 := kB0.trans kw7
  have kX1 := Keeps.refl w7
  have nWg := kW.size
  have nSg := kS.size
  have nX0g := kX0.size
  have nX1g := kX1.size
  have ya0 := kB0.cell xa0
  have yb0 := kB0.cell xb0
  go_wp2_with fail
  refine (HI.out _ _ _ _ ((hx0.keeps kX0).ndsL (by omega) (by omega)) ((hx0.keeps kX0).nds (by omega)) ((hx1.keeps kX1).ndsL (by omega) (by omega))).mono ?_; rintro e w8 ⟨gv, gu, rfl, hg, kw8⟩
  replace kW := kW.trans kw8
  replace kS := kS.trans kw8
  replace kX0 := kX0.trans kw8
  replace kB0 := kB0.trans kw8
  replace kX1 := kX1.trans kw8
  clear ya0 yb0
  obtain ⟨g1, g2, g3, rfl⟩ := agg_shape (hg.ndsL (by omega) (by omega))
  obtain ⟨h1, h2, h3, rfl⟩ := (hg.nds (by omega)).shape
  have nWh := kW.size
  have nSh := kS.size
  have nX0h := kX0.size
  have nX1h := kX1.size
  have kG := Keeps.refl w8
  have kb := (Keeps.refl w8).alloc (.cells #[.slice g1 g2 g3, .slice h1 h2 h3] 27)
  replace kW := kW.trans kb
  replace kS := kS.trans kb
  replace kX0 := kX0.trans kb
  replace kB0 := kB0.trans kb
  replace kX1 := kX1.trans kb
  replace kG := kG.trans kb
  have ga : (w8.alloc (.cells #[.slice g1 g2 g3, .slice h1 h2 h3] 27)).cell? ⟨w8.heap.size, 0, none⟩ = some (.slice g1 g2 g3) := by simp
  have gb : (w8.alloc (.cells #[.slice g1 g2 g3, .slice h1 h2 h3] 27)).cell? ⟨w8.heap.size, 1, none⟩ = some (.slice h1 h2 h3) := by simp
  have kB := Keeps.refl (w8.alloc (.cells #[.slice g1 g2 g3, .slice h1 h2 h3] 27))
  clear kb
  have za := kB.cell ga
  have zb := kB.cell gb
  have ua := kS.cell sa
  have ub := kS.cell sb
  go_wp2_with fail
  refine (eqLogicRule_same XS CC _ _ _ _ _ ((hg.keeps kG).ndsL (by omega) (by omega)) ((hg.keeps kG).nds (by omega)) (hsv.keeps kS) (hsu.keeps kS)).mono ?_; rintro e w9 ⟨rfl, kw9⟩
  replace kW := kW.trans kw9
  replace kS := kS.trans kw9
  replace kX0 := kX0.trans kw9
  replace kB0 := kB0.trans kw9
  replace kX1 := kX1.trans kw9
  replace kG := kG.trans kw9
  replace kB := kB.trans kw9
  clear ua ub za zb
  go_wp2_with fail
  have kd := (Keeps.refl w9).drew
  replace kW := kW.trans kd
  replace kS := kS.trans kd
  replace kX0 := kX0.trans kd
  replace kB0 := kB0.trans kd
  replace kX1 := kX1.trans kd
  replace kG := kG.trans kd
  replace kB := kB.trans kd
  have ya := kB0.cell xa0
  have yb := kB0.cell xb0
  have qa := kW.cell pa0
  have qb := kW.cell pb0
  have HR := hid (toLogicRule_any xs0 c0 _ _ _ (hv0.keeps kW) (hu0.keeps kW) (by omega))
  have HQ := hid (fun (w' : World) (k' : Keeps w9.drew w') v v' h1 h2 => eqLogicRule_same xs0 c0 _ _ v v' w' ((hx0.keeps (kX0.trans k')).ndsL (by omega) (by omega)) ((hx0.keeps (kX0.trans k')).nds (by omega)) h1 h2)
  go_region_held3 (fun w' => w'.cell? ⟨w6.heap.size, 0, none⟩ = some (.slice px nx qx) ∧ w'.cell? ⟨w6.heap.size, 1, none⟩ = some (.slice rx mx zx) ∧ w'.cell? ⟨w.heap.size, 0, none⟩ = some (.slice p0 n0 q0) ∧ w'.cell? ⟨w.heap.size, 1, none⟩ = some (.slice r0 m0 z0)) (first | exact ⟨ya, yb, qa, qb⟩ | exact ⟨za, zb, oa, ob⟩ | exact ⟨ta, tb, va, vb⟩) (first | (go_at_call 19; refine HR.out.mono ?_; rintro e w10 ⟨y0, y0', rfl, hy0, kw10⟩; have za := kw10.cell ya; have zb := kw10.cell yb; have oa := kw10.cell qa; have ob := kw10.cell qb) | (go_at_call 11; refine (HQ.out w10 kw10 _ _ (hy0.ndsL (by omega) (by omega)) (hy0.nds (by omega))).mono ?_; rintro e w11 ⟨rfl, kw11⟩; have ta := kw11.cell za; have tb := kw11.cell zb; have va := kw11.cell oa; have vb := kw11.cell ob))
  replace kW := kW.trans (kw10.trans kw11)
  replace kS := kS.trans (kw10.trans kw11)
  replace kX0 := kX0.trans (kw10.trans kw11)
  replace kB0 := kB0.trans (kw10.trans kw11)
  replace kX1 := kX1.trans (kw10.trans kw11)
  replace kG := kG.trans (kw10.trans kw11)
  replace kB := kB.trans (kw10.trans kw11)
  clear qa qb ya yb za zb ta tb oa ob va vb HR HQ hy0
  go_wp2_with fail
  refine (toNodeSS_any l1 _ _ (hv1.keeps kW) (by omega)).mono ?_; rintro e w12 ⟨y1, rfl, hy1, kw12⟩
  replace kW := kW.trans kw12
  replace kS := kS.trans kw12
  replace kX0 := kX0.trans kw12
  replace kB0 := kB0.trans kw12
  replace kX1 := kX1.trans kw12
  replace kG := kG.trans kw12
  replace kB := kB.trans kw12
  go_wp2_with fail
  refine (eqNodeSS_same' l1 _ _ _ ((hx1.keeps kX1).ndsL (by omega) (by omega)) (hy1.ndsL (by omega) (by omega))).mono ?_; rintro e w13 ⟨rfl, kw13⟩
  replace kW := kW.trans kw13
  replace kS := kS.trans kw13
  replace kX0 := kX0.trans kw13
  replace kB0 := kB0.trans kw13
  replace kX1 := kX1.trans kw13
  replace kG := kG.trans kw13
  replace kB := kB.trans kw13
  clear hy1
  have kL0 := hx0.lowOf kX0
  clear kX0
  have kL1 := hx1.lowOf kX1
  clear kX1
  have kGL := hg.lowOf kG
  clear kG
  replace xa0 := kB0.cell xa0
  replace xb0 := kB0.cell xb0
  clear kB0
  replace ga := kB.cell ga
  replace gb := kB.cell gb
  clear kB
  have ya := xa0
  have yb := xb0
  go_wp2_with fail
  refine (markR_t xs0 c0 _ _ (1) _ _ _ hx0 kL0 (by omega) (by omega) (by omega) (by omega)).mono ?_; rintro e w14 ⟨rfl, _, _, tw14⟩
  clear ya yb
  replace kW := kW.touched tw14 (by first | omega | (simp at *; omega))
  replace kS := kS.touched tw14 (by first | omega | (simp at *; omega))
  replace kL1 := kL1.touch tw14 (fun i hi => by first | omega | (simp at *; omega))
  replace kGL := kGL.touch tw14 (fun i hi => by first | omega | (simp at *; omega))
  replace ga := cell_touched ga tw14 (by first | omega | (simp at *; omega))
  replace gb := cell_touched gb tw14 (by first | omega | (simp at *; omega))
  clear hx0 kL0 tw14 xa0 xb0
  have hm0' : (0 : Int) ≤ 1 + 2 * ((tot xs0 : Int) + c0.length) := by omega
  go_wp2_with fail
  refine (markL_t l1 _ (1 + 2 * ((tot xs0 : Int) + c0.length)) _ _ _ hx1 kL1 (by omega) (by omega) (by omega) (by omega)).mono ?_; rintro e w15 ⟨rfl, _, tw15⟩
  replace kW := kW.touched tw15 (by first | omega | (simp at *; omega))
  replace kS := kS.touched tw15 (by first | omega | (simp at *; omega))
  replace kGL := kGL.touch tw15 (fun i hi => by first | omega | (simp at *; omega))
  replace ga := cell_touched ga tw15 (by first | omega | (simp at *; omega))
  replace gb := cell_touched gb tw15 (by first | omega | (simp at *; omega))
  clear hx1 kL1 tw15
  have hm1' : (0 : Int) ≤ 1 + 2 * ((tot xs0 : Int) + c0.length) + 2 * (tot l1 : Int) := by omega
  have kB := Keeps.refl w15
  have za := ga
  have zb := gb
  have ua := kS.cell sa
  have ub := kS.cell sb
  go_wp2_with fail
  refine (eqLogicRule_same XS CC _ _ _ _ _ ((hg.low kGL).ndsL (by omega) (by omega)) ((hg.low kGL).nds (by omega)) (hsv.keeps kS) (hsu.keeps kS)).mono ?_; rintro e w16 ⟨rfl, kw16⟩
  replace kW := kW.trans kw16
  replace kS := kS.trans kw16
  replace kB := kB.trans kw16
  clear ua ub za zb
  replace kGL := kGL.keeps kw16
  replace ga := kB.cell ga
  replace gb := kB.cell gb
  clear kB
  have za := ga
  have zb := gb
  go_wp2_with fail
  refine (markR_t XS CC _ _ 1 _ _ _ hg kGL (by omega) (by omega) (by omega) (by omega)).mono ?_; rintro e w17 ⟨rfl, hM, hMU, tw17⟩
  clear za zb
  replace kW := kW.touched tw17 (by first | omega | (simp at *; omega))
  replace kS := kS.touched tw17 (by first | omega | (simp at *; omega))
  replace ga := cell_touched ga tw17 (by first | omega | (simp at *; omega))
  replace gb := cell_touched gb tw17 (by first | omega | (simp at *; omega))
  clear hg kGL
  have kM := Keeps.refl w17
  have za := kM.cell ga
  have zb := kM.cell gb
  go_wp2_with fail
  refine (heldLogicRule_any XS CC.length _ _ 1 _ (hM.keeps kM) (hMU.keeps kM) (by omega) (by omega) (by omega)).mono ?_; rintro e w18 ⟨rfl, kw18⟩
  replace kW := kW.trans kw18
  replace kS := kS.trans kw18
  replace kM := kM.trans kw18
  clear za zb
  have qa := kW.cell pa0
  have qb := kW.cell pb0
  go_wp2_with fail
  refine (toLogicRule_any xs0 c0 _ _ _ (hv0.keeps kW) (hu0.keeps kW) (by omega)).mono ?_; rintro e w19 ⟨z0, z0', rfl, hz0, kw19⟩
  replace kW := kW.trans kw19
  replace kS := kS.trans kw19
  replace kM := kM.trans kw19
  clear qa qb
  have kZ0 := Keeps.refl w19
  go_wp2_with fail
  refine (toNodeSS_any l1 _ _ (hv1.keeps kW) (by omega)).mono ?_; rintro e w20 ⟨z1, rfl, hz1, kw20⟩
  replace kW := kW.trans kw20
  replace kS := kS.trans kw20
  replace kM := kM.trans kw20
  replace kZ0 := kZ0.trans kw20
  have kZ1 := Keeps.refl w20
  go_wp2_with fail
  refine (HI.out _ _ _ _ ((hz0.keeps kZ0).ndsL (by omega) (by omega)) ((hz0.keeps kZ0).nds (by omega)) ((hz1.keeps kZ1).ndsL (by omega) (by omega))).mono ?_; rintro e w21 ⟨ev, eu, rfl, he, kw21⟩
  replace kW := kW.trans kw21
  replace kS := kS.trans kw21
  replace kM := kM.trans kw21
  replace kZ0 := kZ0.trans kw21
  replace kZ1 := kZ1.trans kw21
  clear hz0 kZ0 hz1 kZ1
  obtain ⟨e1, e2, e3, rfl⟩ := agg_shape (he.ndsL (by omega) (by omega))
  obtain ⟨f1, f2, f3, rfl⟩ := (he.nds (by omega)).shape
  have kb := (Keeps.refl w21).alloc (.cells #[.slice e1 e2 e3, .slice f1 f2 f3] 27)
  replace kW := kW.trans kb
  replace kS := kS.trans kb
  replace kM := kM.trans kb
  replace he := he.keeps kb
  clear kb
  have ua := kS.cell sa
  have ub := kS.cell sb
  go_wp2_with fail
  refine (eqLogicRule_same XS CC _ _ _ _ _ (he.ndsL (by omega) (by omega)) (he.nds (by omega)) (hsv.keeps kS) (hsu.keeps kS)).mono ?_; rintro e w22 ⟨rfl, kw22⟩
  replace kW := kW.trans kw22
  replace kS := kS.trans kw22
  replace kM := kM.trans kw22
  clear ua ub he
  have za := kM.cell ga
  have zb := kM.cell gb
  go_wp2_with fail
  refine (heldLogicRule_any XS CC.length _ _ 1 _ (hM.keeps kM) (hMU.keeps kM) (by omega) (by omega) (by omega)).mono ?_; rintro e w23 ⟨rfl, kw23⟩
  replace kW := kW.trans kw23
  replace kS := kS.trans kw23
  replace kM := kM.trans kw23
  clear za zb
  go_wp2_with fail
  go_ret
  exact ⟨rfl, kP.trans kW⟩
--
set_option maxRecDepth 20000 in
set_option maxHeartbeats 4000000 in
theorem lawImageOfRuleBig0  (p0 : Option Addr) (n0 q0 : Nat) (r0 : Option Addr) (m0 z0 : Nat) (p1 : Option Addr) (n1 q1 : Nat) (w : World)  (hbig : Szs 16 (.agg #[.slice p0 n0 q0, .slice r0 m0 z0]) (1048576) w) :
    Calls Try.prog 4 #[.agg #[.slice p0 n0 q0, .slice r0 m0 z0], .slice p1 n1 q1] w fun e w' => e = .returned (.bool true) ∧ Keeps w w' := by
  have kP : Keeps w (w.alloc (.cells #[.slice p0 n0 q0, .slice r0 m0 z0] 38)) := ((Keeps.refl w).alloc (.cells #[.slice p0 n0 q0, .slice r0 m0 z0] 38))
  have pa0 : (w.alloc (.cells #[.slice p0 n0 q0, .slice r0 m0 z0] 38)).cell? ⟨w.heap.size, 0, none⟩ = some (.slice p0 n0 q0) := by simp
  have pb0 : (w.alloc (.cells #[.slice p0 n0 q0, .slice r0 m0 z0] 38)).cell? ⟨w.heap.size, 1, none⟩ = some (.slice r0 m0 z0) := by simp
  have kW := Keeps.refl (w.alloc (.cells #[.slice p0 n0 q0, .slice r0 m0 z0] 38))
  go_enter Try.func4, Try.ntmps4
  have qa := kW.cell pa0
  have qb := kW.cell pb0
  go_wp2_with fail
  refine (hbig _ (kP.trans kW)).mono ?_; rintro e w1 ⟨rfl, kw1⟩
  replace kW := kW.trans kw1
  clear qa qb
  go_wp2_with fail
  go_ret
  exact ⟨rfl, kP.trans kW⟩
--
set_option maxRecDepth 20000 in
set_option maxHeartbeats 4000000 in
theorem lawImageOfRuleBig1 (xs0 : List (List Nd)) (c0 : List Nd) (v0 u0 : Value) (p1 : Option Addr) (n1 q1 : Nat) (w : World) (hv0 : NdsL w v0 xs0) (hu0 : Nds w u0 c0) (hsum : (xs0.length + tot xs0 + c0.length) ≤ 1048576) (hbig : Szs 17 (.slice p1 n1 q1) (1048576 - (xs0.length : Int) - (tot xs0 : Int) - (c0.length : Int)) w) :
    Calls Try.prog 4 #[.agg #[v0, u0], .slice p1 n1 q1] w fun e w' => e = .returned (.bool true) ∧ Keeps w w' := by
  obtain ⟨p0, n0, q0, rfl⟩ := agg_shape hv0
  obtain ⟨r0, m0, z0, rfl⟩ := hu0.shape
  have kP : Keeps w (w.alloc (.cells #[.slice p0 n0 q0, .slice r0 m0 z0] 38)) := ((Keeps.refl w).alloc (.cells #[.slice p0 n0 q0, .slice r0 m0 z0] 38))
  have pa0 : (w.alloc (.cells #[.slice p0 n0 q0, .slice r0 m0 z0] 38)).cell? ⟨w.heap.size, 0, none⟩ = some (.slice p0 n0 q0) := by simp
  have pb0 : (w.alloc (.cells #[.slice p0 n0 q0, .slice r0 m0 z0] 38)).cell? ⟨w.heap.size, 1, none⟩ = some (.slice r0 m0 z0) := by simp
  replace hv0 := hv0.keeps kP
  replace hu0 := hu0.keeps kP
  have kW := Keeps.refl (w.alloc (.cells #[.slice p0 n0 q0, .slice r0 m0 z0] 38))
  go_enter Try.func4, Try.ntmps4
  have qa := kW.cell pa0
  have qb := kW.cell pb0
  go_wp2_with fail
  refine (szLogicRule_any xs0 c0 _ _ (1048576) _ (hv0.keeps kW) (hu0.keeps kW) (by omega) (by omega) (by omega)).mono ?_; rintro e w1 ⟨rfl, kw1⟩
  replace kW := kW.trans kw1
  clear qa qb
  have hp0 : (0 : Int) ≤ 1048576 - (xs0.length : Int) - (tot xs0 : Int) - (c0.length : Int) := by omega
  go_wp2_with fail
  refine (hbig _ (kP.trans kW)).mono ?_; rintro e w2 ⟨rfl, kw2⟩
  replace kW := kW.trans kw2
  go_wp2_with fail
  go_ret
  exact ⟨rfl, kP.trans kW⟩
end Go.Proofs.Ytjmpiedjhdogeaa
