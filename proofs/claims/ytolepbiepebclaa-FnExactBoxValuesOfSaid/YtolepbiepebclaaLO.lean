/- The law of BoxValuesOf. -/
import Derived.Test.YtolepbiepebclaaLN
import Derived.Deep.RegionHeld3
namespace Go.Proofs.Ytolepbiepebclaa
open Go.RowKit
--
set_option maxRecDepth 20000 in
set_option maxHeartbeats 8000000 in
theorem lawBoxValuesOf (n0 : Int) (a0 : List Int) (v0 : Value) (a1 : List Int) (v1 : Value) (rn0 : Int) (x0 y0 : List Int) (code : Int) (hrl : x0.length + y0.length ≤ 1000) (hs : ∀ (v0' : Value) (v1' : Value) (w : World), Ints w v0' a0 → Ints w v1' a1 → Calls Try.prog 6 #[.agg #[.int .i64 n0, v0'], v1'] w (fun e w' => ∃ r0a r0b, e = .returned (.tuple #[.agg #[.int .i64 rn0, r0a, r0b], .int .i64 code]) ∧ Ints w' r0a x0 ∧ Ints w' r0b y0 ∧ Keeps w w')) (hi : ∀ (v0' : Value) (v1' : Value) (w : World), Ints w v0' a0 → Ints w v1' a1 → Calls Try.prog 9 #[.agg #[.int .i64 n0, v0'], v1'] w (fun e w' => ∃ r0a r0b, e = .returned (.tuple #[.agg #[.int .i64 rn0, r0a, r0b], .int .i64 code]) ∧ OwnM w' w.heap.size r0a r0b x0 y0 ∧ Keeps w w')) (w : World) (hv0 : Ints w v0 a0) (hv1 : Ints w v1 a1) (hsum : a0.length ≤ 1048576) (hlen1 : a1.length ≤ 1048576) :
    Calls Try.prog 3 #[.agg #[.int .i64 n0, v0], v1] w fun e w' => e = .returned (.bool true) ∧ Keeps w w' := by
  have HS := hid hs; clear hs
  have HI := hid hi; clear hi
  obtain ⟨v0p, v0m, v0q, rfl⟩ := hv0.shape
  obtain ⟨hn, hxv0⟩ : v0m = a0.length ∧ v0m ≤ maxLen := by obtain ⟨_, _, e, h1, h2, _⟩ := hv0; cases e; exact ⟨rfl, by omega⟩
  subst hn
  obtain ⟨v1p, v1m, v1q, rfl⟩ := hv1.shape
  obtain ⟨hn, hxv1⟩ : v1m = a1.length ∧ v1m ≤ maxLen := by obtain ⟨_, _, e, h1, h2, _⟩ := hv1; cases e; exact ⟨rfl, by omega⟩
  subst hn
  have kP : Keeps w (w.alloc (.cells #[.int .i64 n0, .slice v0p a0.length v0q] 24)) := ((Keeps.refl w).alloc (.cells #[.int .i64 n0, .slice v0p a0.length v0q] 24))
  have pc00 : (w.alloc (.cells #[.int .i64 n0, .slice v0p a0.length v0q] 24)).cell? ⟨w.heap.size, 0, none⟩ = some (.int .i64 n0) := by simp
  have pc01 : (w.alloc (.cells #[.int .i64 n0, .slice v0p a0.length v0q] 24)).cell? ⟨w.heap.size, 1, none⟩ = some (.slice v0p a0.length v0q) := by simp
  replace hv0 := hv0.keeps kP
  replace hv1 := hv1.keeps kP
  have kW := Keeps.refl (w.alloc (.cells #[.int .i64 n0, .slice v0p a0.length v0q] 24))
  go_enter Try.func3, Try.ntmps3
  have qc0 := kW.cell pc00
  have qc1 := kW.cell pc01
  go_wp2_with fail
  refine (szPoset_any n0 v0p a0.length v0q (1048576) _ hxv0 (by omega) (by omega)).mono ?_; rintro e w1 ⟨rfl, kw1⟩
  replace kW := kW.trans kw1
  rw [if_neg (by omega)]
  clear qc0 qc1
  have hp0 : (0 : Int) ≤ 1048576 - (a0.length : Int) := by omega
  clear hxv0 hxv1
  have qc0 := kW.cell pc00
  have qc1 := kW.cell pc01
  go_wp2_with fail
  refine (toPoset_any n0 a0 _ _ (hv0.keeps kW)).mono ?_; rintro e w2 ⟨s0a, rfl, hs0, kw2⟩
  replace kW := kW.trans kw2
  clear qc0 qc1
  have kS0 := Keeps.refl w2
  go_wp2_with fail
  refine (toInt64S_any a1 _ _ (hv1.keeps kW)).mono ?_; rintro e w3 ⟨s1a, rfl, hs1, kw3⟩
  replace kW := kW.trans kw3
  replace kS0 := kS0.trans kw3
  have kS1 := Keeps.refl w3
  go_wp2_with fail
  refine (HS.out _ _ _ ((hs0.keeps kS0).ints (by omega)) ((hs1.keeps kS1).ints (by omega))).mono ?_; rintro e w4 ⟨f0a, f0b, rfl, hf0a, hf0b, kw4⟩
  replace kW := kW.trans kw4
  replace kS0 := kS0.trans kw4
  replace kS1 := kS1.trans kw4
  clear hs0 kS0 hs1 kS1
  obtain ⟨f0ap, f0am, f0aq, rfl⟩ := hf0a.shape
  obtain ⟨f0bp, f0bm, f0bq, rfl⟩ := hf0b.shape
  have kb : Keeps w4 (w4.alloc (.cells #[.int .i64 rn0, .slice f0ap f0am f0aq, .slice f0bp f0bm f0bq] 29)) := ((Keeps.refl w4).alloc (.cells #[.int .i64 rn0, .slice f0ap f0am f0aq, .slice f0bp f0bm f0bq] 29))
  replace kW := kW.trans kb
  replace hf0a := hf0a.keeps kb
  replace hf0b := hf0b.keeps kb
  clear kb
  have sc00 : (w4.alloc (.cells #[.int .i64 rn0, .slice f0ap f0am f0aq, .slice f0bp f0bm f0bq] 29)).cell? ⟨w4.heap.size, 0, none⟩ = some (.int .i64 rn0) := by simp
  have sc01 : (w4.alloc (.cells #[.int .i64 rn0, .slice f0ap f0am f0aq, .slice f0bp f0bm f0bq] 29)).cell? ⟨w4.heap.size, 1, none⟩ = some (.slice f0ap f0am f0aq) := by simp
  have sc02 : (w4.alloc (.cells #[.int .i64 rn0, .slice f0ap f0am f0aq, .slice f0bp f0bm f0bq] 29)).cell? ⟨w4.heap.size, 2, none⟩ = some (.slice f0bp f0bm f0bq) := by simp
  have kS := Keeps.refl (w4.alloc (.cells #[.int .i64 rn0, .slice f0ap f0am f0aq, .slice f0bp f0bm f0bq] 29))
  have nWx0 := kW.size
  have nSx0 := kS.size
  have qc0 := kW.cell pc00
  have qc1 := kW.cell pc01
  go_wp2_with fail
  refine (toPoset_any n0 a0 _ _ (hv0.keeps kW)).mono ?_; rintro e w5 ⟨x0a, rfl, hx0, kw5⟩
  replace kW := kW.trans kw5
  replace kS := kS.trans kw5
  clear qc0 qc1
  have kX0 := Keeps.refl w5
  obtain ⟨x0ap, x0am, x0aq, rfl⟩ := hx0.shape0
  have kb := (Keeps.refl w5).alloc (.cells #[.int .i64 n0, .slice x0ap x0am x0aq] 32)
  replace kW := kW.trans kb
  replace kS := kS.trans kb
  replace kX0 := kX0.trans kb
  have xc00 : (w5.alloc (.cells #[.int .i64 n0, .slice x0ap x0am x0aq] 32)).cell? ⟨w5.heap.size, 0, none⟩ = some (.int .i64 n0) := by simp
  have xc01 : (w5.alloc (.cells #[.int .i64 n0, .slice x0ap x0am x0aq] 32)).cell? ⟨w5.heap.size, 1, none⟩ = some (.slice x0ap x0am x0aq) := by simp
  have kB0 := Keeps.refl (w5.alloc (.cells #[.int .i64 n0, .slice x0ap x0am x0aq] 32))
  clear kb
  have nWx1 := kW.size
  have nSx1 := kS.size
  have nX0x1 := kX0.size
  go_wp2_with fail
  refine (toInt64S_any a1 _ _ (hv1.keeps kW)).mono ?_; rintro e w6 ⟨x1a, rfl, hx1, kw6⟩
  replace kW := kW.trans kw6
  replace kS := kS.trans kw6
  replace kX0 := kX0.trans kw6
  replace kB0 := kB0.trans kw6
  have kX1 := Keeps.refl w6
  obtain ⟨x1ap, x1am, x1aq, rfl⟩ := hx1.shape0
  have nWg := kW.size
  have nSg := kS.size
  have nX0g := kX0.size
  have nX1g := kX1.size
  have yc00 := kB0.cell xc00
  have yc01 := kB0.cell xc01
  go_wp2_with fail
  refine (HI.out _ _ _ ((hx0.keeps kX0).ints (by omega)) ((hx1.keeps kX1).ints (by omega))).mono ?_; rintro e w7 ⟨g0a, g0b, rfl, hg0, kw7⟩
  replace kW := kW.trans kw7
  replace kS := kS.trans kw7
  replace kX0 := kX0.trans kw7
  replace kB0 := kB0.trans kw7
  replace kX1 := kX1.trans kw7
  clear yc00 yc01
  obtain ⟨g0ap, g0am, g0aq, rfl⟩ := hg0.1.shape0
  obtain ⟨g0bp, g0bm, g0bq, rfl⟩ := hg0.2.1.shape0
  have nWh := kW.size
  have nSh := kS.size
  have nX0h := kX0.size
  have nX1h := kX1.size
  have kG := Keeps.refl w7
  have kb : Keeps w7 (w7.alloc (.cells #[.int .i64 rn0, .slice g0ap g0am g0aq, .slice g0bp g0bm g0bq] 29)) := ((Keeps.refl w7).alloc (.cells #[.int .i64 rn0, .slice g0ap g0am g0aq, .slice g0bp g0bm g0bq] 29))
  replace kW := kW.trans kb
  replace kS := kS.trans kb
  replace kX0 := kX0.trans kb
  replace kB0 := kB0.trans kb
  replace kX1 := kX1.trans kb
  replace kG := kG.trans kb
  clear kb
  have gc00 : (w7.alloc (.cells #[.int .i64 rn0, .slice g0ap g0am g0aq, .slice g0bp g0bm g0bq] 29)).cell? ⟨w7.heap.size, 0, none⟩ = some (.int .i64 rn0) := by simp
  have gc01 : (w7.alloc (.cells #[.int .i64 rn0, .slice g0ap g0am g0aq, .slice g0bp g0bm g0bq] 29)).cell? ⟨w7.heap.size, 1, none⟩ = some (.slice g0ap g0am g0aq) := by simp
  have gc02 : (w7.alloc (.cells #[.int .i64 rn0, .slice g0ap g0am g0aq, .slice g0bp g0bm g0bq] 29)).cell? ⟨w7.heap.size, 2, none⟩ = some (.slice g0bp g0bm g0bq) := by simp
  have kB := Keeps.refl (w7.alloc (.cells #[.int .i64 rn0, .slice g0ap g0am g0aq, .slice g0bp g0bm g0bq] 29))
  have zc0 := kB.cell gc00
  have zc1 := kB.cell gc01
  have zc2 := kB.cell gc02
  have uc0 := kS.cell sc00
  have uc1 := kS.cell sc01
  have uc2 := kS.cell sc02
  go_wp2_with fail
  refine (eqModel_same rn0 x0 y0 _ _ _ _ _ ((hg0.keeps kG).1.ints (by omega)) ((hg0.keeps kG).2.1.ints (by omega)) (hf0a.keeps kS) (hf0b.keeps kS)).mono ?_; rintro e w8 ⟨rfl, kw8⟩
  replace kW := kW.trans kw8
  replace kS := kS.trans kw8
  replace kX0 := kX0.trans kw8
  replace kB0 := kB0.trans kw8
  replace kX1 := kX1.trans kw8
  replace kG := kG.trans kw8
  replace kB := kB.trans kw8
  clear uc0 uc1 uc2 zc0 zc1 zc2
  go_wp2_with fail
  have kd := (Keeps.refl w8).drew
  replace kW := kW.trans kd
  replace kS := kS.trans kd
  replace kX0 := kX0.trans kd
  replace kB0 := kB0.trans kd
  replace kX1 := kX1.trans kd
  replace kG := kG.trans kd
  replace kB := kB.trans kd
  have ya0 := kB0.cell xc00
  have ya1 := kB0.cell xc01
  have qc0 := kW.cell pc00
  have qc1 := kW.cell pc01
  have HR := hid (toPoset_any n0 a0 _ _ (hv0.keeps kW))
  have HQ := hid (fun (w' : World) (k' : Keeps w8.drew w') v h1 => eqPoset_same n0 a0 _ v w' ((hx0.keeps (kX0.trans k')).ints (by omega)) h1)
  go_region_held3 (fun w' => w'.cell? ⟨w5.heap.size, 0, none⟩ = some (.int .i64 n0) ∧ w'.cell? ⟨w5.heap.size, 1, none⟩ = some (.slice x0ap x0am x0aq) ∧ w'.cell? ⟨w.heap.size, 0, none⟩ = some (.int .i64 n0) ∧ w'.cell? ⟨w.heap.size, 1, none⟩ = some (.slice v0p a0.length v0q)) (first | exact ⟨ya0, ya1, qc0, qc1⟩ | exact ⟨za0, za1, oc0, oc1⟩ | exact ⟨ta0, ta1, va0, va1⟩) (first | (go_at_call 7; refine HR.out.mono ?_; rintro e w9 ⟨ra, rfl, hr0, kw9⟩; have za0 := kw9.cell ya0; have za1 := kw9.cell ya1; have oc0 := kw9.cell qc0; have oc1 := kw9.cell qc1) | (go_at_call 11; refine (HQ.out w9 kw9 _ (hr0.ints (by omega))).mono ?_; rintro e w10 ⟨rfl, kw10⟩; have ta0 := kw10.cell za0; have ta1 := kw10.cell za1; have va0 := kw10.cell oc0; have va1 := kw10.cell oc1))
  replace kW := kW.trans (kw9.trans kw10)
  replace kS := kS.trans (kw9.trans kw10)
  replace kX0 := kX0.trans (kw9.trans kw10)
  replace kB0 := kB0.trans (kw9.trans kw10)
  replace kX1 := kX1.trans (kw9.trans kw10)
  replace kG := kG.trans (kw9.trans kw10)
  replace kB := kB.trans (kw9.trans kw10)
  clear HR HQ hr0 ya0 qc0 za0 oc0 ta0 va0 ya1 qc1 za1 oc1 ta1 va1
  go_wp2_with fail
  refine (toInt64S_any a1 _ _ (hv1.keeps kW)).mono ?_; rintro e w11 ⟨r1a, rfl, hr1, kw11⟩
  replace kW := kW.trans kw11
  replace kS := kS.trans kw11
  replace kX0 := kX0.trans kw11
  replace kB0 := kB0.trans kw11
  replace kX1 := kX1.trans kw11
  replace kG := kG.trans kw11
  replace kB := kB.trans kw11
  go_wp2_with fail
  refine (eqInt64S_any a1 a1 _ _ _ ((hx1.keeps kX1).ints (by omega)) (hr1.ints (by omega))).mono ?_; rintro e w12 ⟨rfl, kw12⟩
  replace kW := kW.trans kw12
  replace kS := kS.trans kw12
  replace kX0 := kX0.trans kw12
  replace kB0 := kB0.trans kw12
  replace kX1 := kX1.trans kw12
  replace kG := kG.trans kw12
  replace kB := kB.trans kw12
  rw [decide_eq_true rfl]
  clear hr1
  have kL0 := hx0.lowOf kX0
  clear kX0
  have kL1 := hx1.lowOf kX1
  clear kX1
  have kGL := hg0.lowOf kG
  clear kG
  replace xc00 := kB0.cell xc00
  replace xc01 := kB0.cell xc01
  clear kB0
  replace gc00 := kB.cell gc00
  replace gc01 := kB.cell gc01
  replace gc02 := kB.cell gc02
  clear kB
  have yc0 := xc00
  have yc1 := xc01
  go_wp2_with fail
  refine (markP_t n0 a0 _ (1) _ _ _ hx0 kL0 (by omega) (by omega) (by omega)).mono ?_; rintro e w13 ⟨rfl, _, tw13⟩
  clear yc0 yc1
  replace kW := kW.touched tw13 (by first | omega | (simp at *; omega))
  replace kS := kS.touched tw13 (by first | omega | (simp at *; omega))
  replace kL1 := kL1.touch tw13 (fun i hi => by first | omega | (simp at *; omega))
  replace kGL := kGL.touch tw13 (fun i hi => by first | omega | (simp at *; omega))
  replace gc00 := cell_touched gc00 tw13 (by first | omega | (simp at *; omega))
  replace gc01 := cell_touched gc01 tw13 (by first | omega | (simp at *; omega))
  replace gc02 := cell_touched gc02 tw13 (by first | omega | (simp at *; omega))
  clear hx0 kL0 tw13 xc00 xc01
  have hm0' : (0 : Int) ≤ 1 + (a0.length : Int) := by omega
  go_wp2_with fail
  refine (markI_t a1 _ (1 + (a0.length : Int)) _ _ _ hx1 kL1 (by omega) (by omega) (by omega)).mono ?_; rintro e w14 ⟨rfl, _, tw14⟩
  replace kW := kW.touched tw14 (by first | omega | (simp at *; omega))
  replace kS := kS.touched tw14 (by first | omega | (simp at *; omega))
  replace kGL := kGL.touch tw14 (fun i hi => by first | omega | (simp at *; omega))
  replace gc00 := cell_touched gc00 tw14 (by first | omega | (simp at *; omega))
  replace gc01 := cell_touched gc01 tw14 (by first | omega | (simp at *; omega))
  replace gc02 := cell_touched gc02 tw14 (by first | omega | (simp at *; omega))
  clear hx1 kL1 tw14
  have hm1' : (0 : Int) ≤ 1 + (a0.length : Int) + (a1.length : Int) := by omega
  have kB := Keeps.refl w14
  have zc0 := kB.cell gc00
  have zc1 := kB.cell gc01
  have zc2 := kB.cell gc02
  have uc0 := kS.cell sc00
  have uc1 := kS.cell sc01
  have uc2 := kS.cell sc02
  go_wp2_with fail
  refine (eqModel_same rn0 x0 y0 _ _ _ _ _ ((hg0.low (kGL.keeps kB)).1.ints (by omega)) ((hg0.low (kGL.keeps kB)).2.1.ints (by omega)) (hf0a.keeps kS) (hf0b.keeps kS)).mono ?_; rintro e w15 ⟨rfl, kw15⟩
  replace kW := kW.trans kw15
  replace kS := kS.trans kw15
  replace kB := kB.trans kw15
  clear uc0 uc1 uc2 zc0 zc1 zc2
  replace kGL := kGL.keeps kB
  replace gc00 := kB.cell gc00
  replace gc01 := kB.cell gc01
  replace gc02 := kB.cell gc02
  clear kB
  have zc0 := gc00
  have zc1 := gc01
  have zc2 := gc02
  go_wp2_with fail
  refine (markM_t rn0 x0 y0 _ _ 1 _ _ _ hg0 kGL (by omega) (by omega) (by omega)).mono ?_; rintro e w16 ⟨rfl, hM0, tw16⟩
  clear zc0 zc1 zc2
  replace kW := kW.touched tw16 (by first | omega | (simp at *; omega))
  replace kS := kS.touched tw16 (by first | omega | (simp at *; omega))
  replace gc00 := cell_touched gc00 tw16 (by first | omega | (simp at *; omega))
  replace gc01 := cell_touched gc01 tw16 (by first | omega | (simp at *; omega))
  replace gc02 := cell_touched gc02 tw16 (by first | omega | (simp at *; omega))
  clear hg0 kGL
  have kM := Keeps.refl w16
  have zc0 := kM.cell gc00
  have zc1 := kM.cell gc01
  have zc2 := kM.cell gc02
  go_wp2_with fail
  refine (heldModel_any rn0 x0.length y0.length _ _ (1) _ ((hM0.keeps kM).1.ints (by rw [marksI_length]; omega)) ((hM0.keeps kM).2.1.ints (by rw [marksI_length]; omega)) (by omega) (by omega) (by omega)).mono ?_; rintro e w17 ⟨rfl, kw17⟩
  replace kW := kW.trans kw17
  replace kS := kS.trans kw17
  replace kM := kM.trans kw17
  clear zc0 zc1 zc2
  have qc0 := kW.cell pc00
  have qc1 := kW.cell pc01
  go_wp2_with fail
  refine (toPoset_any n0 a0 _ _ (hv0.keeps kW)).mono ?_; rintro e w18 ⟨e0a, rfl, he0, kw18⟩
  replace kW := kW.trans kw18
  replace kS := kS.trans kw18
  replace kM := kM.trans kw18
  clear qc0 qc1
  have kZ0 := Keeps.refl w18
  go_wp2_with fail
  refine (toInt64S_any a1 _ _ (hv1.keeps kW)).mono ?_; rintro e w19 ⟨e1a, rfl, he1, kw19⟩
  replace kW := kW.trans kw19
  replace kS := kS.trans kw19
  replace kM := kM.trans kw19
  replace kZ0 := kZ0.trans kw19
  have kZ1 := Keeps.refl w19
  go_wp2_with fail
  refine (HI.out _ _ _ ((he0.keeps kZ0).ints (by omega)) ((he1.keeps kZ1).ints (by omega))).mono ?_; rintro e w20 ⟨h0a, h0b, rfl, hh0, kw20⟩
  replace kW := kW.trans kw20
  replace kS := kS.trans kw20
  replace kM := kM.trans kw20
  replace kZ0 := kZ0.trans kw20
  replace kZ1 := kZ1.trans kw20
  clear he0 kZ0 he1 kZ1
  obtain ⟨h0ap, h0am, h0aq, rfl⟩ := hh0.1.shape0
  obtain ⟨h0bp, h0bm, h0bq, rfl⟩ := hh0.2.1.shape0
  have kb : Keeps w20 (w20.alloc (.cells #[.int .i64 rn0, .slice h0ap h0am h0aq, .slice h0bp h0bm h0bq] 29)) := ((Keeps.refl w20).alloc (.cells #[.int .i64 rn0, .slice h0ap h0am h0aq, .slice h0bp h0bm h0bq] 29))
  replace kW := kW.trans kb
  replace kS := kS.trans kb
  replace kM := kM.trans kb
  replace hh0 := hh0.keeps kb
  clear kb
  have hc00 : (w20.alloc (.cells #[.int .i64 rn0, .slice h0ap h0am h0aq, .slice h0bp h0bm h0bq] 29)).cell? ⟨w20.heap.size, 0, none⟩ = some (.int .i64 rn0) := by simp
  have hc01 : (w20.alloc (.cells #[.int .i64 rn0, .slice h0ap h0am h0aq, .slice h0bp h0bm h0bq] 29)).cell? ⟨w20.heap.size, 1, none⟩ = some (.slice h0ap h0am h0aq) := by simp
  have hc02 : (w20.alloc (.cells #[.int .i64 rn0, .slice h0ap h0am h0aq, .slice h0bp h0bm h0bq] 29)).cell? ⟨w20.heap.size, 2, none⟩ = some (.slice h0bp h0bm h0bq) := by simp
  have kH := Keeps.refl (w20.alloc (.cells #[.int .i64 rn0, .slice h0ap h0am h0aq, .slice h0bp h0bm h0bq] 29))
  have zc0 := kH.cell hc00
  have uc0 := kS.cell sc00
  have zc1 := kH.cell hc01
  have uc1 := kS.cell sc01
  have zc2 := kH.cell hc02
  have uc2 := kS.cell sc02
  go_wp2_with fail
  refine (eqModel_same rn0 x0 y0 _ _ _ _ _ ((hh0.keeps kH).1.ints (by omega)) ((hh0.keeps kH).2.1.ints (by omega)) (hf0a.keeps kS) (hf0b.keeps kS)).mono ?_; rintro e w21 ⟨rfl, kw21⟩
  replace kW := kW.trans kw21
  replace kS := kS.trans kw21
  replace kM := kM.trans kw21
  replace kH := kH.trans kw21
  clear uc0 zc0 uc1 zc1 uc2 zc2
  have zc0 := kM.cell gc00
  have zc1 := kM.cell gc01
  have zc2 := kM.cell gc02
  go_wp2_with fail
  refine (heldModel_any rn0 x0.length y0.length _ _ (1) _ ((hM0.keeps kM).1.ints (by rw [marksI_length]; omega)) ((hM0.keeps kM).2.1.ints (by rw [marksI_length]; omega)) (by omega) (by omega) (by omega)).mono ?_; rintro e w22 ⟨rfl, kw22⟩
  replace kW := kW.trans kw22
  replace kS := kS.trans kw22
  replace kM := kM.trans kw22
  replace kH := kH.trans kw22
  clear zc0 zc1 zc2
  go_wp2_with fail
  go_ret
  exact ⟨rfl, kP.trans kW⟩
--
set_option maxRecDepth 20000 in
set_option maxHeartbeats 1000000 in
theorem lawBoxValuesOfBig (n0 : Int) (vp0 : Option Addr) (vm0 vq0 : Nat) (vp1 : Option Addr) (vm1 vq1 : Nat) (w : World) (hv0 : vm0 ≤ maxLen) (hv1 : vm1 ≤ maxLen) (hb : ¬ (vm1 ≤ 1048576 ∧ vm0 ≤ 1048576)) :
    Calls Try.prog 3 #[.agg #[.int .i64 n0, .slice vp0 vm0 vq0], .slice vp1 vm1 vq1] w fun e w' => e = .returned (.bool true) ∧ Keeps w w' := by
  have kP : Keeps w (w.alloc (.cells #[.int .i64 n0, .slice vp0 vm0 vq0] 24)) := ((Keeps.refl w).alloc (.cells #[.int .i64 n0, .slice vp0 vm0 vq0] 24))
  by_cases c1 : vm1 ≤ 1048576
  case neg =>
    have hd : decide (((vm1 : Nat) : Int) > 1048576) = true := by simp; omega
    unfold maxLen at *
    clear hb
    go_enter Try.func3, Try.ntmps3
    go_wp2
    go_ret
    exact ⟨rfl, kP⟩
  have hlt : (1048576 : Int) < vm0 := by omega
  clear hb
  go_enter Try.func3, Try.ntmps3
  go_wp2_with fail
  refine (szPoset_any n0 vp0 vm0 vq0 (1048576) _ hv0 (by omega) (by omega)).mono ?_; rintro e w' ⟨rfl, kw⟩
  rw [if_pos (by omega)]
  go_wp2_with fail
  go_ret
  exact ⟨rfl, kP.trans kw⟩
end Go.Proofs.Ytolepbiepebclaa
