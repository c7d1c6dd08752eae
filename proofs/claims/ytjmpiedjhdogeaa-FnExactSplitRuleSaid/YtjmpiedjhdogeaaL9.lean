/- The law of SplitRule. -/
import Derived.Test.YtjmpiedjhdogeaaL8
import Derived.Test.YtjmpiedjhdogeaaLB
namespace Go.Proofs.Ytjmpiedjhdogeaa
open Go.RowKit
--
set_option maxRecDepth 20000 in
set_option maxHeartbeats 8000000 in
theorem lawSplitRule (a0 : List Nd) (v0 : Value) (XS : List (List Nd)) (CC : List Nd) (code : Int) (hxl : XS.length ≤ 1000) (hcl : tot XS + CC.length ≤ 1000) (hs : ∀ (v0' : Value) (w : World), Nds w v0' a0 → Calls Try.prog 8 #[v0'] w (fun e w' => ∃ v u, e = .returned (.tuple #[.agg #[v, u], .int .i64 code]) ∧ NdsL w' v XS ∧ Nds w' u CC ∧ Keeps w w')) (hi : ∀ (v0' : Value) (w : World), Nds w v0' a0 → Calls Try.prog 10 #[v0'] w (RetRE w XS CC code)) (w : World) (hv0 : Nds w v0 a0) (hsum : a0.length ≤ 1048576) :
    Calls Try.prog 3 #[v0] w fun e w' => e = .returned (.bool true) ∧ Keeps w w' := by
  have HS := hid hs; clear hs
  have HI := hid hi; clear hi
  obtain ⟨p0, n0, q0, rfl⟩ := hv0.shape
  obtain ⟨hn0, hm0⟩ : n0 = a0.length ∧ n0 ≤ maxLen := by obtain ⟨_, _, e, h1, h2, _⟩ := hv0; cases e; exact ⟨rfl, by omega⟩
  subst hn0
  have kW := Keeps.refl w
  go_enter Try.func3, Try.ntmps3
  have hz := szNodeS_any p0 a0.length q0 (1048576)
  go_wp2_with fail
  refine (hz _ hm0 (by omega) (by omega)).mono ?_; rintro e w' ⟨rfl, rfl⟩; rw [if_neg (by omega)]
  clear hz
  have hp0 : (0 : Int) ≤ 1048576 - (a0.length : Int) := by omega
  go_wp2_with fail
  refine (toNodeS_any a0 _ _ (hv0.keeps kW) (by omega)).mono ?_; rintro e w2 ⟨s0, rfl, hs0, kw2⟩
  replace kW := kW.trans kw2
  have kS0 := Keeps.refl w2
  go_wp2_with fail
  refine (HS.out _ _ ((hs0.keeps kS0).nds (by omega))).mono ?_; rintro e w3 ⟨sv, su, rfl, hsv, hsu, kw3⟩
  replace kW := kW.trans kw3
  replace kS0 := kS0.trans kw3
  clear hs0 kS0
  obtain ⟨s1, s2, s3, rfl⟩ := agg_shape hsv
  obtain ⟨t1, t2, t3, rfl⟩ := hsu.shape
  have kb := (Keeps.refl w3).alloc (.cells #[.slice s1 s2 s3, .slice t1 t2 t3] 27)
  replace kW := kW.trans kb
  replace hsv := hsv.keeps kb
  replace hsu := hsu.keeps kb
  clear kb
  have sa : (w3.alloc (.cells #[.slice s1 s2 s3, .slice t1 t2 t3] 27)).cell? ⟨w3.heap.size, 0, none⟩ = some (.slice s1 s2 s3) := by simp
  have sb : (w3.alloc (.cells #[.slice s1 s2 s3, .slice t1 t2 t3] 27)).cell? ⟨w3.heap.size, 1, none⟩ = some (.slice t1 t2 t3) := by simp
  have kS := Keeps.refl (w3.alloc (.cells #[.slice s1 s2 s3, .slice t1 t2 t3] 27))
  have nWx0 := kW.size
  have nSx0 := kS.size
  go_wp2_with fail
  refine (toNodeS_any a0 _ _ (hv0.keeps kW) (by omega)).mono ?_; rintro e w4 ⟨x0, rfl, hx0, kw4⟩
  replace kW := kW.trans kw4
  replace kS := kS.trans kw4
  have kX0 := Keeps.refl w4
  have nWg := kW.size
  have nSg := kS.size
  have nX0g := kX0.size
  go_wp2_with fail
  refine (HI.out _ _ ((hx0.keeps kX0).nds (by omega))).mono ?_; rintro e w5 ⟨gv, gu, rfl, hg, kw5⟩
  replace kW := kW.trans kw5
  replace kS := kS.trans kw5
  replace kX0 := kX0.trans kw5
  obtain ⟨g1, g2, g3, rfl⟩ := agg_shape (hg.ndsL (by omega) (by omega))
  obtain ⟨h1, h2, h3, rfl⟩ := (hg.nds (by omega)).shape
  have nWh := kW.size
  have nSh := kS.size
  have nX0h := kX0.size
  have kG := Keeps.refl w5
  have kb := (Keeps.refl w5).alloc (.cells #[.slice g1 g2 g3, .slice h1 h2 h3] 27)
  replace kW := kW.trans kb
  replace kS := kS.trans kb
  replace kX0 := kX0.trans kb
  replace kG := kG.trans kb
  have ga : (w5.alloc (.cells #[.slice g1 g2 g3, .slice h1 h2 h3] 27)).cell? ⟨w5.heap.size, 0, none⟩ = some (.slice g1 g2 g3) := by simp
  have gb : (w5.alloc (.cells #[.slice g1 g2 g3, .slice h1 h2 h3] 27)).cell? ⟨w5.heap.size, 1, none⟩ = some (.slice h1 h2 h3) := by simp
  have kB := Keeps.refl (w5.alloc (.cells #[.slice g1 g2 g3, .slice h1 h2 h3] 27))
  clear kb
  have za := kB.cell ga
  have zb := kB.cell gb
  have ua := kS.cell sa
  have ub := kS.cell sb
  go_wp2_with fail
  refine (eqLogicRule_same XS CC _ _ _ _ _ ((hg.keeps kG).ndsL (by omega) (by omega)) ((hg.keeps kG).nds (by omega)) (hsv.keeps kS) (hsu.keeps kS)).mono ?_; rintro e w6 ⟨rfl, kw6⟩
  replace kW := kW.trans kw6
  replace kS := kS.trans kw6
  replace kX0 := kX0.trans kw6
  replace kG := kG.trans kw6
  replace kB := kB.trans kw6
  clear ua ub za zb
  go_wp2_with fail
  refine (toNodeS_any a0 _ _ (hv0.keeps kW) (by omega)).mono ?_; rintro e w7 ⟨y0, rfl, hy0, kw7⟩
  replace kW := kW.trans kw7
  replace kS := kS.trans kw7
  replace kX0 := kX0.trans kw7
  replace kG := kG.trans kw7
  replace kB := kB.trans kw7
  go_wp2_with fail
  refine (eqNodeS_same' a0 _ _ _ ((hx0.keeps kX0).nds (by omega)) (hy0.nds (by omega))).mono ?_; rintro e w8 ⟨rfl, kw8⟩
  replace kW := kW.trans kw8
  replace kS := kS.trans kw8
  replace kX0 := kX0.trans kw8
  replace kG := kG.trans kw8
  replace kB := kB.trans kw8
  clear hy0
  have kL0 := hx0.lowOf kX0
  clear kX0
  have kGL := hg.lowOf kG
  clear kG
  replace ga := kB.cell ga
  replace gb := kB.cell gb
  clear kB
  go_wp2_with fail
  refine (markN_t a0 _ (1) _ _ _ hx0 kL0 (by omega) (by omega) (by omega)).mono ?_; rintro e w9 ⟨rfl, _, tw9⟩
  replace kW := kW.touched tw9 (by first | omega | (simp at *; omega))
  replace kS := kS.touched tw9 (by first | omega | (simp at *; omega))
  replace kGL := kGL.touch tw9 (fun i hi => by first | omega | (simp at *; omega))
  replace ga := cell_touched ga tw9 (by first | omega | (simp at *; omega))
  replace gb := cell_touched gb tw9 (by first | omega | (simp at *; omega))
  clear hx0 kL0 tw9
  have hm0' : (0 : Int) ≤ 1 + 2 * (a0.length : Int) := by omega
  have kB := Keeps.refl w9
  have za := ga
  have zb := gb
  have ua := kS.cell sa
  have ub := kS.cell sb
  go_wp2_with fail
  refine (eqLogicRule_same XS CC _ _ _ _ _ ((hg.low kGL).ndsL (by omega) (by omega)) ((hg.low kGL).nds (by omega)) (hsv.keeps kS) (hsu.keeps kS)).mono ?_; rintro e w10 ⟨rfl, kw10⟩
  replace kW := kW.trans kw10
  replace kS := kS.trans kw10
  replace kB := kB.trans kw10
  clear ua ub za zb
  replace kGL := kGL.keeps kw10
  replace ga := kB.cell ga
  replace gb := kB.cell gb
  clear kB
  have za := ga
  have zb := gb
  go_wp2_with fail
  refine (markR_t XS CC _ _ 1 _ _ _ hg kGL (by omega) (by omega) (by omega) (by omega)).mono ?_; rintro e w11 ⟨rfl, hM, hMU, tw11⟩
  clear za zb
  replace kW := kW.touched tw11 (by first | omega | (simp at *; omega))
  replace kS := kS.touched tw11 (by first | omega | (simp at *; omega))
  replace ga := cell_touched ga tw11 (by first | omega | (simp at *; omega))
  replace gb := cell_touched gb tw11 (by first | omega | (simp at *; omega))
  clear hg kGL
  have kM := Keeps.refl w11
  have za := kM.cell ga
  have zb := kM.cell gb
  go_wp2_with fail
  refine (heldLogicRule_any XS CC.length _ _ 1 _ (hM.keeps kM) (hMU.keeps kM) (by omega) (by omega) (by omega)).mono ?_; rintro e w12 ⟨rfl, kw12⟩
  replace kW := kW.trans kw12
  replace kS := kS.trans kw12
  replace kM := kM.trans kw12
  clear za zb
  go_wp2_with fail
  refine (toNodeS_any a0 _ _ (hv0.keeps kW) (by omega)).mono ?_; rintro e w13 ⟨z0, rfl, hz0, kw13⟩
  replace kW := kW.trans kw13
  replace kS := kS.trans kw13
  replace kM := kM.trans kw13
  have kZ0 := Keeps.refl w13
  go_wp2_with fail
  refine (HI.out _ _ ((hz0.keeps kZ0).nds (by omega))).mono ?_; rintro e w14 ⟨ev, eu, rfl, he, kw14⟩
  replace kW := kW.trans kw14
  replace kS := kS.trans kw14
  replace kM := kM.trans kw14
  replace kZ0 := kZ0.trans kw14
  clear hz0 kZ0
  obtain ⟨e1, e2, e3, rfl⟩ := agg_shape (he.ndsL (by omega) (by omega))
  obtain ⟨f1, f2, f3, rfl⟩ := (he.nds (by omega)).shape
  have kb := (Keeps.refl w14).alloc (.cells #[.slice e1 e2 e3, .slice f1 f2 f3] 27)
  replace kW := kW.trans kb
  replace kS := kS.trans kb
  replace kM := kM.trans kb
  replace he := he.keeps kb
  clear kb
  have ua := kS.cell sa
  have ub := kS.cell sb
  go_wp2_with fail
  refine (eqLogicRule_same XS CC _ _ _ _ _ (he.ndsL (by omega) (by omega)) (he.nds (by omega)) (hsv.keeps kS) (hsu.keeps kS)).mono ?_; rintro e w15 ⟨rfl, kw15⟩
  replace kW := kW.trans kw15
  replace kS := kS.trans kw15
  replace kM := kM.trans kw15
  clear ua ub he
  have za := kM.cell ga
  have zb := kM.cell gb
  go_wp2_with fail
  refine (heldLogicRule_any XS CC.length _ _ 1 _ (hM.keeps kM) (hMU.keeps kM) (by omega) (by omega) (by omega)).mono ?_; rintro e w16 ⟨rfl, kw16⟩
  replace kW := kW.trans kw16
  replace kS := kS.trans kw16
  replace kM := kM.trans kw16
  clear za zb
  go_wp2_with fail
  go_ret
  exact ⟨rfl, kW⟩
--
set_option maxRecDepth 20000 in
set_option maxHeartbeats 4000000 in
theorem lawSplitRuleBig0  (p0 : Option Addr) (n0 q0 : Nat) (w : World)  (hbig : Szs 7 (.slice p0 n0 q0) (1048576) w) :
    Calls Try.prog 3 #[.slice p0 n0 q0] w fun e w' => e = .returned (.bool true) ∧ Keeps w w' := by
  have kW := Keeps.refl w
  go_enter Try.func3, Try.ntmps3
  go_wp2_with fail
  refine (hbig _ (kW)).mono ?_; rintro e w1 ⟨rfl, kw1⟩
  replace kW := kW.trans kw1
  go_wp2_with fail
  go_ret
  exact ⟨rfl, kW⟩
end Go.Proofs.Ytjmpiedjhdogeaa
