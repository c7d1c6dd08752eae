/- The law of SkeletonOfModel. -/
import Derived.Test.YtolepbiepebclaaLN
import Derived.Deep.RegionHeld3
namespace Go.Proofs.Ytolepbiepebclaa
open Go.RowKit
--
set_option maxRecDepth 20000 in
set_option maxHeartbeats 8000000 in
theorem lawSkeletonOfModel (n0 : Int) (a0 b0 : List Int) (v0 u0 : Value) (rn0 : Int) (x0 : List Int) (x1 : List Int) (x2 : List Int) (code : Int) (hrl : x0.length + x1.length + x2.length ≤ 1000) (hs : ∀ (v0' : Value) (u0' : Value) (w : World), Ints w v0' a0 → Ints w u0' b0 → Calls Try.prog 18 #[.agg #[.int .i64 n0, v0', u0']] w (fun e w' => ∃ r0a r1a r2a, e = .returned (.tuple #[.agg #[.int .i64 rn0, r0a], r1a, r2a, .int .i64 code]) ∧ Ints w' r0a x0 ∧ Ints w' r1a x1 ∧ Ints w' r2a x2 ∧ Keeps w w')) (hi : ∀ (v0' : Value) (u0' : Value) (w : World), Ints w v0' a0 → Ints w u0' b0 → Calls Try.prog 20 #[.agg #[.int .i64 n0, v0', u0']] w (fun e w' => ∃ r0a r1a r2a, e = .returned (.tuple #[.agg #[.int .i64 rn0, r0a], r1a, r2a, .int .i64 code]) ∧ OwnI w' w.heap.size r0a x0 ∧ OwnI w' w.heap.size r1a x1 ∧ OwnI w' w.heap.size r2a x2 ∧ Sep r0a r1a ∧ Sep r0a r2a ∧ Sep r1a r2a ∧ Keeps w w')) (w : World) (hv0 : Ints w v0 a0) (hu0 : Ints w u0 b0) (hsum : a0.length + b0.length ≤ 1048576) :
    Calls Try.prog 4 #[.agg #[.int .i64 n0, v0, u0]] w fun e w' => e = .returned (.bool true) ∧ Keeps w w' := by
  have HS := hid hs; clear hs
  have HI := hid hi; clear hi
  obtain ⟨v0p, v0m, v0q, rfl⟩ := hv0.shape
  obtain ⟨hn, hxv0⟩ : v0m = a0.length ∧ v0m ≤ maxLen := by obtain ⟨_, _, e, h1, h2, _⟩ := hv0; cases e; exact ⟨rfl, by omega⟩
  subst hn
  obtain ⟨u0p, u0m, u0q, rfl⟩ := hu0.shape
  obtain ⟨hn, hxu0⟩ : u0m = b0.length ∧ u0m ≤ maxLen := by obtain ⟨_, _, e, h1, h2, _⟩ := hu0; cases e; exact ⟨rfl, by omega⟩
  subst hn
  have kP : Keeps w (w.alloc (.cells #[.int .i64 n0, .slice v0p a0.length v0q, .slice u0p b0.length u0q] 44)) := ((Keeps.refl w).alloc (.cells #[.int .i64 n0, .slice v0p a0.length v0q, .slice u0p b0.length u0q] 44))
  have pc00 : (w.alloc (.cells #[.int .i64 n0, .slice v0p a0.length v0q, .slice u0p b0.length u0q] 44)).cell? ⟨w.heap.size, 0, none⟩ = some (.int .i64 n0) := by simp
  have pc01 : (w.alloc (.cells #[.int .i64 n0, .slice v0p a0.length v0q, .slice u0p b0.length u0q] 44)).cell? ⟨w.heap.size, 1, none⟩ = some (.slice v0p a0.length v0q) := by simp
  have pc02 : (w.alloc (.cells #[.int .i64 n0, .slice v0p a0.length v0q, .slice u0p b0.length u0q] 44)).cell? ⟨w.heap.size, 2, none⟩ = some (.slice u0p b0.length u0q) := by simp
  replace hv0 := hv0.keeps kP
  replace hu0 := hu0.keeps kP
  have kW := Keeps.refl (w.alloc (.cells #[.int .i64 n0, .slice v0p a0.length v0q, .slice u0p b0.length u0q] 44))
  go_enter Try.func4, Try.ntmps4
  have qc0 := kW.cell pc00
  have qc1 := kW.cell pc01
  have qc2 := kW.cell pc02
  go_wp2_with fail
  refine (szModel_any n0 v0p u0p a0.length v0q b0.length u0q (1048576) _ hxv0 hxu0 (by omega) (by omega)).mono ?_; rintro e w1 ⟨rfl, kw1⟩
  replace kW := kW.trans kw1
  rw [if_neg (by omega)]
  clear qc0 qc1 qc2
  have hp0 : (0 : Int) ≤ 1048576 - (a0.length : Int) - (b0.length : Int) := by omega
  clear hxv0 hxu0
  have qc0 := kW.cell pc00
  have qc1 := kW.cell pc01
  have qc2 := kW.cell pc02
  go_wp2_with fail
  refine (toModel_any n0 a0 b0 _ _ _ (hv0.keeps kW) (hu0.keeps kW)).mono ?_; rintro e w2 ⟨s0a, s0b, rfl, hs0, kw2⟩
  replace kW := kW.trans kw2
  clear qc0 qc1 qc2
  have kS0 := Keeps.refl w2
  go_wp2_with fail
  refine (HS.out _ _ _ ((hs0.keeps kS0).1.ints (by omega)) ((hs0.keeps kS0).2.1.ints (by omega))).mono ?_; rintro e w3 ⟨f0a, f1a, f2a, rfl, hf0a, hf1a, hf2a, kw3⟩
  replace kW := kW.trans kw3
  replace kS0 := kS0.trans kw3
  clear hs0 kS0
  obtain ⟨f0ap, f0am, f0aq, rfl⟩ := hf0a.shape
  obtain ⟨f1ap, f1am, f1aq, rfl⟩ := hf1a.shape
  obtain ⟨f2ap, f2am, f2aq, rfl⟩ := hf2a.shape
  have kb : Keeps w3 (w3.alloc (.cells #[.int .i64 rn0, .slice f0ap f0am f0aq] 32)) := ((Keeps.refl w3).alloc (.cells #[.int .i64 rn0, .slice f0ap f0am f0aq] 32))
  replace kW := kW.trans kb
  replace hf0a := hf0a.keeps kb
  replace hf1a := hf1a.keeps kb
  replace hf2a := hf2a.keeps kb
  clear kb
  have sc00 : (w3.alloc (.cells #[.int .i64 rn0, .slice f0ap f0am f0aq] 32)).cell? ⟨w3.heap.size, 0, none⟩ = some (.int .i64 rn0) := by simp
  have sc01 : (w3.alloc (.cells #[.int .i64 rn0, .slice f0ap f0am f0aq] 32)).cell? ⟨w3.heap.size, 1, none⟩ = some (.slice f0ap f0am f0aq) := by simp
  have kS := Keeps.refl (w3.alloc (.cells #[.int .i64 rn0, .slice f0ap f0am f0aq] 32))
  have nWx0 := kW.size
  have nSx0 := kS.size
  have qc0 := kW.cell pc00
  have qc1 := kW.cell pc01
  have qc2 := kW.cell pc02
  go_wp2_with fail
  refine (toModel_any n0 a0 b0 _ _ _ (hv0.keeps kW) (hu0.keeps kW)).mono ?_; rintro e w4 ⟨x0a, x0b, rfl, hx0, kw4⟩
  replace kW := kW.trans kw4
  replace kS := kS.trans kw4
  clear qc0 qc1 qc2
  have kX0 := Keeps.refl w4
  obtain ⟨x0ap, x0am, x0aq, rfl⟩ := hx0.1.shape0
  obtain ⟨x0bp, x0bm, x0bq, rfl⟩ := hx0.2.1.shape0
  have kb := (Keeps.refl w4).alloc (.cells #[.int .i64 n0, .slice x0ap x0am x0aq, .slice x0bp x0bm x0bq] 29)
  replace kW := kW.trans kb
  replace kS := kS.trans kb
  replace kX0 := kX0.trans kb
  have xc00 : (w4.alloc (.cells #[.int .i64 n0, .slice x0ap x0am x0aq, .slice x0bp x0bm x0bq] 29)).cell? ⟨w4.heap.size, 0, none⟩ = some (.int .i64 n0) := by simp
  have xc01 : (w4.alloc (.cells #[.int .i64 n0, .slice x0ap x0am x0aq, .slice x0bp x0bm x0bq] 29)).cell? ⟨w4.heap.size, 1, none⟩ = some (.slice x0ap x0am x0aq) := by simp
  have xc02 : (w4.alloc (.cells #[.int .i64 n0, .slice x0ap x0am x0aq, .slice x0bp x0bm x0bq] 29)).cell? ⟨w4.heap.size, 2, none⟩ = some (.slice x0bp x0bm x0bq) := by simp
  have kB0 := Keeps.refl (w4.alloc (.cells #[.int .i64 n0, .slice x0ap x0am x0aq, .slice x0bp x0bm x0bq] 29))
  clear kb
  have nWg := kW.size
  have nSg := kS.size
  have nX0g := kX0.size
  have yc00 := kB0.cell xc00
  have yc01 := kB0.cell xc01
  have yc02 := kB0.cell xc02
  go_wp2_with fail
  refine (HI.out _ _ _ ((hx0.keeps kX0).1.ints (by omega)) ((hx0.keeps kX0).2.1.ints (by omega))).mono ?_; rintro e w5 ⟨g0a, g1a, g2a, rfl, hg0, hg1, hg2, hsep01, hsep02, hsep12, kw5⟩
  replace kW := kW.trans kw5
  replace kS := kS.trans kw5
  replace kX0 := kX0.trans kw5
  replace kB0 := kB0.trans kw5
  clear yc00 yc01 yc02
  obtain ⟨g0ap, g0am, g0aq, rfl⟩ := hg0.shape0
  obtain ⟨g1ap, g1am, g1aq, rfl⟩ := hg1.shape0
  obtain ⟨g2ap, g2am, g2aq, rfl⟩ := hg2.shape0
  have nWh := kW.size
  have nSh := kS.size
  have nX0h := kX0.size
  have kG := Keeps.refl w5
  have kb : Keeps w5 (w5.alloc (.cells #[.int .i64 rn0, .slice g0ap g0am g0aq] 32)) := ((Keeps.refl w5).alloc (.cells #[.int .i64 rn0, .slice g0ap g0am g0aq] 32))
  replace kW := kW.trans kb
  replace kS := kS.trans kb
  replace kX0 := kX0.trans kb
  replace kB0 := kB0.trans kb
  replace kG := kG.trans kb
  clear kb
  have gc00 : (w5.alloc (.cells #[.int .i64 rn0, .slice g0ap g0am g0aq] 32)).cell? ⟨w5.heap.size, 0, none⟩ = some (.int .i64 rn0) := by simp
  have gc01 : (w5.alloc (.cells #[.int .i64 rn0, .slice g0ap g0am g0aq] 32)).cell? ⟨w5.heap.size, 1, none⟩ = some (.slice g0ap g0am g0aq) := by simp
  have kB := Keeps.refl (w5.alloc (.cells #[.int .i64 rn0, .slice g0ap g0am g0aq] 32))
  have zc0 := kB.cell gc00
  have zc1 := kB.cell gc01
  have uc0 := kS.cell sc00
  have uc1 := kS.cell sc01
  go_wp2_with fail
  refine (eqPoset_same rn0 x0 _ _ _ ((hg0.keeps kG).ints (by omega)) (hf0a.keeps kS)).mono ?_; rintro e w6 ⟨rfl, kw6⟩
  replace kW := kW.trans kw6
  replace kS := kS.trans kw6
  replace kX0 := kX0.trans kw6
  replace kB0 := kB0.trans kw6
  replace kG := kG.trans kw6
  replace kB := kB.trans kw6
  clear uc0 uc1 zc0 zc1
  go_wp2_with fail
  refine (eqInt64S_any x1 x1 _ _ _ ((hg1.keeps kG).ints (by omega)) (hf1a.keeps kS)).mono ?_; rintro e w7 ⟨rfl, kw7⟩
  replace kW := kW.trans kw7
  replace kS := kS.trans kw7
  replace kX0 := kX0.trans kw7
  replace kB0 := kB0.trans kw7
  replace kG := kG.trans kw7
  replace kB := kB.trans kw7
  rw [decide_eq_true rfl]
  go_wp2_with fail
  refine (eqInt64S_any x2 x2 _ _ _ ((hg2.keeps kG).ints (by omega)) (hf2a.keeps kS)).mono ?_; rintro e w8 ⟨rfl, kw8⟩
  replace kW := kW.trans kw8
  replace kS := kS.trans kw8
  replace kX0 := kX0.trans kw8
  replace kB0 := kB0.trans kw8
  replace kG := kG.trans kw8
  replace kB := kB.trans kw8
  rw [decide_eq_true rfl]
  go_wp2_with fail
  have kd := (Keeps.refl w8).drew
  replace kW := kW.trans kd
  replace kS := kS.trans kd
  replace kX0 := kX0.trans kd
  replace kB0 := kB0.trans kd
  replace kG := kG.trans kd
  replace kB := kB.trans kd
  have ya0 := kB0.cell xc00
  have ya1 := kB0.cell xc01
  have ya2 := kB0.cell xc02
  have qc0 := kW.cell pc00
  have qc1 := kW.cell pc01
  have qc2 := kW.cell pc02
  have HR := hid (toModel_any n0 a0 b0 _ _ _ (hv0.keeps kW) (hu0.keeps kW))
  have HQ := hid (fun (w' : World) (k' : Keeps w8.drew w') v u h1 h2 => eqModel_same n0 a0 b0 _ _ v u w' ((hx0.keeps (kX0.trans k')).1.ints (by omega)) ((hx0.keeps (kX0.trans k')).2.1.ints (by omega)) h1 h2)
  go_region_held3 (fun w' => w'.cell? ⟨w4.heap.size, 0, none⟩ = some (.int .i64 n0) ∧ w'.cell? ⟨w4.heap.size, 1, none⟩ = some (.slice x0ap x0am x0aq) ∧ w'.cell? ⟨w4.heap.size, 2, none⟩ = some (.slice x0bp x0bm x0bq) ∧ w'.cell? ⟨w.heap.size, 0, none⟩ = some (.int .i64 n0) ∧ w'.cell? ⟨w.heap.size, 1, none⟩ = some (.slice v0p a0.length v0q) ∧ w'.cell? ⟨w.heap.size, 2, none⟩ = some (.slice u0p b0.length u0q)) (first | exact ⟨ya0, ya1, ya2, qc0, qc1, qc2⟩ | exact ⟨za0, za1, za2, oc0, oc1, oc2⟩ | exact ⟨ta0, ta1, ta2, va0, va1, va2⟩) (first | (go_at_call 19; refine HR.out.mono ?_; rintro e w9 ⟨ra, rb, rfl, hr0, kw9⟩; have za0 := kw9.cell ya0; have za1 := kw9.cell ya1; have za2 := kw9.cell ya2; have oc0 := kw9.cell qc0; have oc1 := kw9.cell qc1; have oc2 := kw9.cell qc2) | (go_at_call 10; refine (HQ.out w9 kw9 _ _ (hr0.1.ints (by omega)) (hr0.2.1.ints (by omega))).mono ?_; rintro e w10 ⟨rfl, kw10⟩; have ta0 := kw10.cell za0; have ta1 := kw10.cell za1; have ta2 := kw10.cell za2; have va0 := kw10.cell oc0; have va1 := kw10.cell oc1; have va2 := kw10.cell oc2))
  replace kW := kW.trans (kw9.trans kw10)
  replace kS := kS.trans (kw9.trans kw10)
  replace kX0 := kX0.trans (kw9.trans kw10)
  replace kB0 := kB0.trans (kw9.trans kw10)
  replace kG := kG.trans (kw9.trans kw10)
  replace kB := kB.trans (kw9.trans kw10)
  clear HR HQ hr0 ya0 qc0 za0 oc0 ta0 va0 ya1 qc1 za1 oc1 ta1 va1 ya2 qc2 za2 oc2 ta2 va2
  have kL0 := hx0.lowOf kX0
  clear kX0
  have kGL := hg0.lowOf kG
  clear kG
  replace xc00 := kB0.cell xc00
  replace xc01 := kB0.cell xc01
  replace xc02 := kB0.cell xc02
  clear kB0
  replace gc00 := kB.cell gc00
  replace gc01 := kB.cell gc01
  clear kB
  have yc0 := xc00
  have yc1 := xc01
  have yc2 := xc02
  go_wp2_with fail
  refine (markM_t n0 a0 b0 _ _ (1) _ _ _ hx0 kL0 (by omega) (by omega) (by omega)).mono ?_; rintro e w11 ⟨rfl, _, tw11⟩
  clear yc0 yc1 yc2
  replace kW := kW.touched tw11 (by first | omega | (simp at *; omega))
  replace kS := kS.touched tw11 (by first | omega | (simp at *; omega))
  replace kGL := kGL.touch tw11 (fun i hi => by first | omega | (simp at *; omega))
  replace gc00 := cell_touched gc00 tw11 (by first | omega | (simp at *; omega))
  replace gc01 := cell_touched gc01 tw11 (by first | omega | (simp at *; omega))
  clear hx0 kL0 tw11 xc00 xc01 xc02
  have hm0' : (0 : Int) ≤ 1 + (a0.length : Int) + (b0.length : Int) := by omega
  have kB := Keeps.refl w11
  have zc0 := kB.cell gc00
  have zc1 := kB.cell gc01
  have uc0 := kS.cell sc00
  have uc1 := kS.cell sc01
  go_wp2_with fail
  refine (eqPoset_same rn0 x0 _ _ _ ((hg0.low (kGL.keeps kB)).ints (by omega)) (hf0a.keeps kS)).mono ?_; rintro e w12 ⟨rfl, kw12⟩
  replace kW := kW.trans kw12
  replace kS := kS.trans kw12
  replace kB := kB.trans kw12
  clear uc0 uc1 zc0 zc1
  go_wp2_with fail
  refine (eqInt64S_any x1 x1 _ _ _ ((hg1.low (kGL.keeps kB)).ints (by omega)) (hf1a.keeps kS)).mono ?_; rintro e w13 ⟨rfl, kw13⟩
  replace kW := kW.trans kw13
  replace kS := kS.trans kw13
  replace kB := kB.trans kw13
  rw [decide_eq_true rfl]
  go_wp2_with fail
  refine (eqInt64S_any x2 x2 _ _ _ ((hg2.low (kGL.keeps kB)).ints (by omega)) (hf2a.keeps kS)).mono ?_; rintro e w14 ⟨rfl, kw14⟩
  replace kW := kW.trans kw14
  replace kS := kS.trans kw14
  replace kB := kB.trans kw14
  rw [decide_eq_true rfl]
  replace kGL := kGL.keeps kB
  replace gc00 := kB.cell gc00
  replace gc01 := kB.cell gc01
  clear kB
  have hM0 := hg0.low kGL
  have hM1 := hg1.low kGL
  have hM2 := hg2.low kGL
  clear kGL
  have zc0 := gc00
  have zc1 := gc01
  go_wp2_with fail
  refine (markP_o rn0 x0 _ (1) _ _ hM0 (by omega) (by omega) (by omega)).mono ?_; rintro e w15 ⟨rfl, hN0, tw15⟩
  clear zc0 zc1
  replace kW := kW.touch tw15 (fun i e => by have := (hM0.len i e.symm).1; first | omega | (simp at *; omega))
  replace kS := kS.touch tw15 (fun i e => by have := (hM0.len i e.symm).1; first | omega | (simp at *; omega))
  replace gc00 := cell_own gc00 tw15 (fun e => by have := hg0.len _ e.symm; first | omega | (simp at *; omega))
  replace gc01 := cell_own gc01 tw15 (fun e => by have := hg0.len _ e.symm; first | omega | (simp at *; omega))
  replace hM1 := hM1.touch tw15 (fun i e1 e2 => hsep01 i e2.symm e1)
  replace hM2 := hM2.touch tw15 (fun i e1 e2 => hsep02 i e2.symm e1)
  have hq0 : (0 : Int) ≤ 1 + (x0.length : Int) := by omega
  go_wp2_with fail
  refine (markI_o x1 _ (1 + (x0.length : Int)) _ _ hM1 (by omega) (by omega) (by omega)).mono ?_; rintro e w16 ⟨rfl, hN1, tw16⟩
  replace kW := kW.touch tw16 (fun i e => by have := (hM1.len i e.symm).1; first | omega | (simp at *; omega))
  replace kS := kS.touch tw16 (fun i e => by have := (hM1.len i e.symm).1; first | omega | (simp at *; omega))
  replace gc00 := cell_own gc00 tw16 (fun e => by have := hg1.len _ e.symm; first | omega | (simp at *; omega))
  replace gc01 := cell_own gc01 tw16 (fun e => by have := hg1.len _ e.symm; first | omega | (simp at *; omega))
  replace hN0 := hN0.touch tw16 (fun i e1 e2 => hsep01 i e1 e2.symm)
  replace hM2 := hM2.touch tw16 (fun i e1 e2 => hsep12 i e2.symm e1)
  have hq1 : (0 : Int) ≤ 1 + (x0.length : Int) + (x1.length : Int) := by omega
  go_wp2_with fail
  refine (markI_o x2 _ (1 + (x0.length : Int) + (x1.length : Int)) _ _ hM2 (by omega) (by omega) (by omega)).mono ?_; rintro e w17 ⟨rfl, hN2, tw17⟩
  replace kW := kW.touch tw17 (fun i e => by have := (hM2.len i e.symm).1; first | omega | (simp at *; omega))
  replace kS := kS.touch tw17 (fun i e => by have := (hM2.len i e.symm).1; first | omega | (simp at *; omega))
  replace gc00 := cell_own gc00 tw17 (fun e => by have := hg2.len _ e.symm; first | omega | (simp at *; omega))
  replace gc01 := cell_own gc01 tw17 (fun e => by have := hg2.len _ e.symm; first | omega | (simp at *; omega))
  replace hN0 := hN0.touch tw17 (fun i e1 e2 => hsep02 i e1 e2.symm)
  replace hN1 := hN1.touch tw17 (fun i e1 e2 => hsep12 i e1 e2.symm)
  have hq2 : (0 : Int) ≤ 1 + (x0.length : Int) + (x1.length : Int) + (x2.length : Int) := by omega
  clear hM0 hg0
  have hM0 := hN0
  clear hN0
  clear hM1 hg1
  have hM1 := hN1
  clear hN1
  clear hM2 hg2
  have hM2 := hN2
  clear hN2
  have kM := Keeps.refl w17
  have zc0 := kM.cell gc00
  have zc1 := kM.cell gc01
  go_wp2_with fail
  refine (heldPoset_any' rn0 x0.length _ (1) _ ((hM0.keeps kM).ints (by rw [marksI_length]; omega)) (by omega) (by omega) (by omega)).mono ?_; rintro e w18 ⟨rfl, kw18⟩
  replace kW := kW.trans kw18
  replace kS := kS.trans kw18
  replace kM := kM.trans kw18
  clear zc0 zc1
  go_wp2_with fail
  refine (heldInt64S_any x1.length _ (1 + (x0.length : Int)) _ ((hM1.keeps kM).ints (by rw [marksI_length]; omega)) (by omega) (by omega)).mono ?_; rintro e w' ⟨rfl, rfl⟩
  go_wp2_with fail
  refine (heldInt64S_any x2.length _ (1 + (x0.length : Int) + (x1.length : Int)) _ ((hM2.keeps kM).ints (by rw [marksI_length]; omega)) (by omega) (by omega)).mono ?_; rintro e w' ⟨rfl, rfl⟩
  have qc0 := kW.cell pc00
  have qc1 := kW.cell pc01
  have qc2 := kW.cell pc02
  go_wp2_with fail
  refine (toModel_any n0 a0 b0 _ _ _ (hv0.keeps kW) (hu0.keeps kW)).mono ?_; rintro e w19 ⟨e0a, e0b, rfl, he0, kw19⟩
  replace kW := kW.trans kw19
  replace kS := kS.trans kw19
  replace kM := kM.trans kw19
  clear qc0 qc1 qc2
  have kZ0 := Keeps.refl w19
  go_wp2_with fail
  refine (HI.out _ _ _ ((he0.keeps kZ0).1.ints (by omega)) ((he0.keeps kZ0).2.1.ints (by omega))).mono ?_; rintro e w20 ⟨h0a, h1a, h2a, rfl, hh0, hh1, hh2, _, _, _, kw20⟩
  replace kW := kW.trans kw20
  replace kS := kS.trans kw20
  replace kM := kM.trans kw20
  replace kZ0 := kZ0.trans kw20
  clear he0 kZ0
  obtain ⟨h0ap, h0am, h0aq, rfl⟩ := hh0.shape0
  obtain ⟨h1ap, h1am, h1aq, rfl⟩ := hh1.shape0
  obtain ⟨h2ap, h2am, h2aq, rfl⟩ := hh2.shape0
  have kb : Keeps w20 (w20.alloc (.cells #[.int .i64 rn0, .slice h0ap h0am h0aq] 32)) := ((Keeps.refl w20).alloc (.cells #[.int .i64 rn0, .slice h0ap h0am h0aq] 32))
  replace kW := kW.trans kb
  replace kS := kS.trans kb
  replace kM := kM.trans kb
  replace hh0 := hh0.keeps kb
  replace hh1 := hh1.keeps kb
  replace hh2 := hh2.keeps kb
  clear kb
  have hc00 : (w20.alloc (.cells #[.int .i64 rn0, .slice h0ap h0am h0aq] 32)).cell? ⟨w20.heap.size, 0, none⟩ = some (.int .i64 rn0) := by simp
  have hc01 : (w20.alloc (.cells #[.int .i64 rn0, .slice h0ap h0am h0aq] 32)).cell? ⟨w20.heap.size, 1, none⟩ = some (.slice h0ap h0am h0aq) := by simp
  have kH := Keeps.refl (w20.alloc (.cells #[.int .i64 rn0, .slice h0ap h0am h0aq] 32))
  have zc0 := kH.cell hc00
  have uc0 := kS.cell sc00
  have zc1 := kH.cell hc01
  have uc1 := kS.cell sc01
  go_wp2_with fail
  refine (eqPoset_same rn0 x0 _ _ _ ((hh0.keeps kH).ints (by omega)) (hf0a.keeps kS)).mono ?_; rintro e w21 ⟨rfl, kw21⟩
  replace kW := kW.trans kw21
  replace kS := kS.trans kw21
  replace kM := kM.trans kw21
  replace kH := kH.trans kw21
  clear uc0 zc0 uc1 zc1
  go_wp2_with fail
  refine (eqInt64S_any x1 x1 _ _ _ ((hh1.keeps kH).ints (by omega)) (hf1a.keeps kS)).mono ?_; rintro e w22 ⟨rfl, kw22⟩
  replace kW := kW.trans kw22
  replace kS := kS.trans kw22
  replace kM := kM.trans kw22
  replace kH := kH.trans kw22
  rw [decide_eq_true rfl]
  go_wp2_with fail
  refine (eqInt64S_any x2 x2 _ _ _ ((hh2.keeps kH).ints (by omega)) (hf2a.keeps kS)).mono ?_; rintro e w23 ⟨rfl, kw23⟩
  replace kW := kW.trans kw23
  replace kS := kS.trans kw23
  replace kM := kM.trans kw23
  replace kH := kH.trans kw23
  rw [decide_eq_true rfl]
  have zc0 := kM.cell gc00
  have zc1 := kM.cell gc01
  go_wp2_with fail
  refine (heldPoset_any' rn0 x0.length _ (1) _ ((hM0.keeps kM).ints (by rw [marksI_length]; omega)) (by omega) (by omega) (by omega)).mono ?_; rintro e w24 ⟨rfl, kw24⟩
  replace kW := kW.trans kw24
  replace kS := kS.trans kw24
  replace kM := kM.trans kw24
  replace kH := kH.trans kw24
  clear zc0 zc1
  go_wp2_with fail
  refine (heldInt64S_any x1.length _ (1 + (x0.length : Int)) _ ((hM1.keeps kM).ints (by rw [marksI_length]; omega)) (by omega) (by omega)).mono ?_; rintro e w' ⟨rfl, rfl⟩
  go_wp2_with fail
  refine (heldInt64S_any x2.length _ (1 + (x0.length : Int) + (x1.length : Int)) _ ((hM2.keeps kM).ints (by rw [marksI_length]; omega)) (by omega) (by omega)).mono ?_; rintro e w' ⟨rfl, rfl⟩
  go_wp2_with fail
  go_ret
  exact ⟨rfl, kP.trans kW⟩
--
set_option maxRecDepth 20000 in
set_option maxHeartbeats 1000000 in
theorem lawSkeletonOfModelBig (n0 : Int) (vp0 : Option Addr) (vm0 vq0 : Nat) (up0 : Option Addr) (um0 uq0 : Nat) (w : World) (hv0 : vm0 ≤ maxLen) (hu0 : um0 ≤ maxLen) (hb : ¬ (vm0 + um0 ≤ 1048576)) :
    Calls Try.prog 4 #[.agg #[.int .i64 n0, .slice vp0 vm0 vq0, .slice up0 um0 uq0]] w fun e w' => e = .returned (.bool true) ∧ Keeps w w' := by
  have kP : Keeps w (w.alloc (.cells #[.int .i64 n0, .slice vp0 vm0 vq0, .slice up0 um0 uq0] 44)) := ((Keeps.refl w).alloc (.cells #[.int .i64 n0, .slice vp0 vm0 vq0, .slice up0 um0 uq0] 44))
  have hlt : (1048576 : Int) < vm0 + um0 := by omega
  clear hb
  go_enter Try.func4, Try.ntmps4
  go_wp2_with fail
  refine (szModel_any n0 vp0 up0 vm0 vq0 um0 uq0 (1048576) _ hv0 hu0 (by omega) (by omega)).mono ?_; rintro e w' ⟨rfl, kw⟩
  rw [if_pos (by omega)]
  go_wp2_with fail
  go_ret
  exact ⟨rfl, kP.trans kw⟩
end Go.Proofs.Ytolepbiepebclaa
