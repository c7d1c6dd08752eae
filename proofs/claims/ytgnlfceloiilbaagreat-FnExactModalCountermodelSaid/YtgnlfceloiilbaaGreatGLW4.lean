/- Arguments of the laws: modal sequents. -/
import Derived.Test.YtgnlfceloiilbaaGreatGLU
import Derived.Deep.RegionHeld3
import Derived.Test.YtgnlfceloiilbaaGreatGEG
namespace Go.Proofs.YtgnlfceloiilbaaGreat
open Go.ChangeShapes Go.WideShapes Go.ChangeAt Go.RowKit Go.Deep
section
variable {H : Type} {enc : TypeId × Value → H} {W : World}
--
set_option maxRecDepth 100000 in
theorem wkS_trod {u : Value} {fuel : Nat} {x : DataW H × List MemPlace} (hf : DataW.trod enc Tryz.prog W 0 (fun _ => true) true fuel 22 [u] = some x) : WkS W u := by
  have hC : Tryz.prog.cellsOf 9 = 1 := by kernel_rfl
  rcases open_slice1 Tryz.underlying22 hC hf with ⟨hcs, _⟩ | ⟨a, n, cap, m, n', V, D, Pl, hcs, _, hl, hm, hmm, _, hi⟩
  · obtain rfl : u = .slice none 0 0 := by simpa using hcs
    exact ⟨none, 0, 0, rfl, by simp [maxLen], fun _ => ⟨[], rfl, (OwnS.nil W 0).strs (by simp), fun s h => by simp at h⟩⟩
  · obtain rfl : u = .slice (some a) n cap := by simpa using hcs
    refine ⟨some a, n, cap, rfl, by omega, fun hn => ?_⟩
    simp at hmm
    have hel : ∀ i, i < n → ∃ x : ByteArray, W.cell? (a.add i) = some (.string x) ∧ x.size ≤ maxLen := fun i hin => by
      obtain ⟨h1, h2⟩ := hi i (by omega)
      obtain ⟨x, hx, _, hxz⟩ := DataW.trod_string Tryz.underlying9 h2
      simp at hx
      exact ⟨x, by rw [h1, hx], hxz⟩
    have hspot : 0 < n → ∃ b off, a = ⟨b, off, none⟩ := fun h0 => by
      obtain ⟨b, off, spot⟩ := a
      obtain ⟨x, hx, _⟩ := hel 0 h0
      have hs : spot = none := by simpa [Addr.add] using World.cell?_spot hx
      subst hs
      exact ⟨b, off, rfl⟩
    have hadd : ∀ b off k, (⟨b, off, none⟩ : Addr).add k = ⟨b, off + k, none⟩ := fun b off k => by unfold Addr.add; split <;> simp_all
    obtain ⟨l, hnl, hns⟩ := choose_allI (α := ByteArray) (P := fun i x => W.cell? (a.add i) = some (.string x) ∧ x.size ≤ maxLen) (n := n) hel
    subst hnl
    refine ⟨l, rfl, Strs.ofAt hl hm ?_ hn, fun s hs => by
      obtain ⟨i, hi, rfl⟩ := List.getElem_of_mem hs
      exact (hns i hi).2⟩
    intro j hj
    have hj' : j < l.length := by simpa [strCells] using hj
    obtain ⟨b, off, rfl⟩ := hspot (by omega)
    refine ⟨b, off, rfl, ?_⟩
    have := (hns j hj').1
    rw [hadd] at this
    rw [this]; simp [strCells]
set_option maxRecDepth 100000 in
theorem open_sequent {r : Reach} {b0 : Nat} {v : Value} {d : DataW H} {ps : List MemPlace} (hval : Value.okWide Tryz.prog W r b0 24 v)
    (h : DataW.Trod enc Tryz.prog W 0 (fun _ => true) true 24 v d ps) : ∃ y z, v = .agg #[y, z] ∧ WkS W y ∧ WkS W z := by
  obtain ⟨x, y, _, _, n, rfl, _, _, h1, h2⟩ := Go.Joins.open_agg2 Tryz.underlying24 (by kernel_rfl) (by kernel_rfl) hval h
  exact ⟨x, y, rfl, wkS_trod h1, wkS_trod h2⟩
end
end Go.Proofs.YtgnlfceloiilbaaGreat
/- The law of ModalCountermodel. -/
namespace Go.Proofs.YtgnlfceloiilbaaGreat
open Go.RowKit
--
set_option maxRecDepth 20000 in
set_option maxHeartbeats 8000000 in
theorem lawModalCountermodel (s0 : ByteArray) (a1 b1 : List ByteArray) (v1 u1 : Value) (rn0 : Int) (x0 y0 : List Int) (code : Int) (hrl : x0.length + y0.length ≤ 100000) (hs : ∀ (v1' : Value) (u1' : Value) (w : World), Strs w v1' a1 → Strs w u1' b1 → Calls Tryz.prog 10 #[.string s0, .agg #[v1', u1']] w (fun e w' => ∃ r0a r0b, e = .returned (.tuple #[.agg #[.int .i64 rn0, r0a, r0b], .int .i64 code]) ∧ Ints w' r0a x0 ∧ Ints w' r0b y0 ∧ Keeps w w')) (hi : ∀ (v1' : Value) (u1' : Value) (w : World), Strs w v1' a1 → Strs w u1' b1 → Calls Tryz.prog 12 #[.string s0, .agg #[v1', u1']] w (fun e w' => ∃ r0a r0b, e = .returned (.tuple #[.agg #[.int .i64 rn0, r0a, r0b], .int .i64 code]) ∧ OwnM w' w.heap.size r0a r0b x0 y0 ∧ Keeps w w')) (w : World)  (hv1 : Strs w v1 a1) (hu1 : Strs w u1 b1) (hsum : szB a1 + szB b1 ≤ 1048576) (hlen0 : s0.size ≤ 1048576) :
    Calls Tryz.prog 3 #[.string s0, .agg #[v1, u1]] w fun e w' => e = .returned (.bool true) ∧ Keeps w w' := by
  have HS := hid hs; clear hs
  have HI := hid hi; clear hi
  obtain ⟨v1p, v1m, v1q, rfl⟩ := hv1.shape0
  obtain ⟨hn, hxv1⟩ : v1m = a1.length ∧ v1m ≤ maxLen := by obtain ⟨_, _, e, h1, h2, _⟩ := hv1.shape; cases e; exact ⟨rfl, by omega⟩
  subst hn
  obtain ⟨u1p, u1m, u1q, rfl⟩ := hu1.shape0
  obtain ⟨hn, hxu1⟩ : u1m = b1.length ∧ u1m ≤ maxLen := by obtain ⟨_, _, e, h1, h2, _⟩ := hu1.shape; cases e; exact ⟨rfl, by omega⟩
  subst hn
  have hlba1 := szB_len a1
  have hlbb1 := szB_len b1
  have kP : Keeps w (w.alloc (.cells #[.slice v1p a1.length v1q, .slice u1p b1.length u1q] 24)) := ((Keeps.refl w).alloc (.cells #[.slice v1p a1.length v1q, .slice u1p b1.length u1q] 24))
  have pc10 : (w.alloc (.cells #[.slice v1p a1.length v1q, .slice u1p b1.length u1q] 24)).cell? ⟨w.heap.size, 0, none⟩ = some (.slice v1p a1.length v1q) := by simp
  have pc11 : (w.alloc (.cells #[.slice v1p a1.length v1q, .slice u1p b1.length u1q] 24)).cell? ⟨w.heap.size, 1, none⟩ = some (.slice u1p b1.length u1q) := by simp
  replace hv1 := hv1.keeps kP
  replace hu1 := hu1.keeps kP
  have kW := Keeps.refl (w.alloc (.cells #[.slice v1p a1.length v1q, .slice u1p b1.length u1q] 24))
  go_enter Tryz.func3, Tryz.ntmps3
  have qc0 := kW.cell pc10
  have qc1 := kW.cell pc11
  go_wp2_with fail
  refine (szModalSequent_any _ _ (szB a1) (szB b1) (1048576) _ (SzS.of (hv1.keeps kW) (by omega)) (SzS.of (hu1.keeps kW) (by omega)) ⟨_, _, _, rfl⟩ ⟨_, _, _, rfl⟩ (by omega) (by omega)).mono ?_; rintro e w1 ⟨rfl, kw1⟩
  replace kW := kW.trans kw1
  rw [if_neg (by omega)]
  clear qc0 qc1
  have hp1 : (0 : Int) ≤ 1048576 - (szB a1 : Int) - (szB b1 : Int) := by omega
  clear hxv1 hxu1
  have qc0 := kW.cell pc10
  have qc1 := kW.cell pc11
  go_wp2_with fail
  refine (toModalSequent_any a1 b1 _ _ _ (hv1.keeps kW) (hu1.keeps kW)).mono ?_; rintro e w2 ⟨s1a, s1b, rfl, hs1, kw2⟩
  replace kW := kW.trans kw2
  clear qc0 qc1
  have kS1 := Keeps.refl w2
  go_wp2_with fail
  refine (HS.out _ _ _ ((hs1.keeps kS1).1.strs (by omega)) ((hs1.keeps kS1).2.1.strs (by omega))).mono ?_; rintro e w3 ⟨f0a, f0b, rfl, hf0a, hf0b, kw3⟩
  replace kW := kW.trans kw3
  replace kS1 := kS1.trans kw3
  clear hs1 kS1
  obtain ⟨f0ap, f0am, f0aq, rfl⟩ := hf0a.shape
  obtain ⟨f0bp, f0bm, f0bq, rfl⟩ := hf0b.shape
  have kb : Keeps w3 (w3.alloc (.cells #[.int .i64 rn0, .slice f0ap f0am f0aq, .slice f0bp f0bm f0bq] 30)) := ((Keeps.refl w3).alloc (.cells #[.int .i64 rn0, .slice f0ap f0am f0aq, .slice f0bp f0bm f0bq] 30))
  replace kW := kW.trans kb
  replace hf0a := hf0a.keeps kb
  replace hf0b := hf0b.keeps kb
  clear kb
  have sc00 : (w3.alloc (.cells #[.int .i64 rn0, .slice f0ap f0am f0aq, .slice f0bp f0bm f0bq] 30)).cell? ⟨w3.heap.size, 0, none⟩ = some (.int .i64 rn0) := by simp
  have sc01 : (w3.alloc (.cells #[.int .i64 rn0, .slice f0ap f0am f0aq, .slice f0bp f0bm f0bq] 30)).cell? ⟨w3.heap.size, 1, none⟩ = some (.slice f0ap f0am f0aq) := by simp
  have sc02 : (w3.alloc (.cells #[.int .i64 rn0, .slice f0ap f0am f0aq, .slice f0bp f0bm f0bq] 30)).cell? ⟨w3.heap.size, 2, none⟩ = some (.slice f0bp f0bm f0bq) := by simp
  have kS := Keeps.refl (w3.alloc (.cells #[.int .i64 rn0, .slice f0ap f0am f0aq, .slice f0bp f0bm f0bq] 30))
  have nWx1 := kW.size
  have nSx1 := kS.size
  have qc0 := kW.cell pc10
  have qc1 := kW.cell pc11
  go_wp2_with fail
  refine (toModalSequent_any a1 b1 _ _ _ (hv1.keeps kW) (hu1.keeps kW)).mono ?_; rintro e w4 ⟨x1a, x1b, rfl, hx1, kw4⟩
  replace kW := kW.trans kw4
  replace kS := kS.trans kw4
  clear qc0 qc1
  have kX1 := Keeps.refl w4
  obtain ⟨x1ap, x1am, x1aq, rfl⟩ := hx1.1.shape0
  obtain ⟨x1bp, x1bm, x1bq, rfl⟩ := hx1.2.1.shape0
  have kb := (Keeps.refl w4).alloc (.cells #[.slice x1ap x1am x1aq, .slice x1bp x1bm x1bq] 33)
  replace kW := kW.trans kb
  replace kS := kS.trans kb
  replace kX1 := kX1.trans kb
  have xc10 : (w4.alloc (.cells #[.slice x1ap x1am x1aq, .slice x1bp x1bm x1bq] 33)).cell? ⟨w4.heap.size, 0, none⟩ = some (.slice x1ap x1am x1aq) := by simp
  have xc11 : (w4.alloc (.cells #[.slice x1ap x1am x1aq, .slice x1bp x1bm x1bq] 33)).cell? ⟨w4.heap.size, 1, none⟩ = some (.slice x1bp x1bm x1bq) := by simp
  have kB1 := Keeps.refl (w4.alloc (.cells #[.slice x1ap x1am x1aq, .slice x1bp x1bm x1bq] 33))
  clear kb
  have nWg := kW.size
  have nSg := kS.size
  have nX1g := kX1.size
  have yc10 := kB1.cell xc10
  have yc11 := kB1.cell xc11
  go_wp2_with fail
  refine (HI.out _ _ _ ((hx1.keeps kX1).1.strs (by omega)) ((hx1.keeps kX1).2.1.strs (by omega))).mono ?_; rintro e w5 ⟨g0a, g0b, rfl, hg0, kw5⟩
  replace kW := kW.trans kw5
  replace kS := kS.trans kw5
  replace kX1 := kX1.trans kw5
  replace kB1 := kB1.trans kw5
  clear yc10 yc11
  obtain ⟨g0ap, g0am, g0aq, rfl⟩ := hg0.1.shape0
  obtain ⟨g0bp, g0bm, g0bq, rfl⟩ := hg0.2.1.shape0
  have nWh := kW.size
  have nSh := kS.size
  have nX1h := kX1.size
  have kG := Keeps.refl w5
  have kb : Keeps w5 (w5.alloc (.cells #[.int .i64 rn0, .slice g0ap g0am g0aq, .slice g0bp g0bm g0bq] 30)) := ((Keeps.refl w5).alloc (.cells #[.int .i64 rn0, .slice g0ap g0am g0aq, .slice g0bp g0bm g0bq] 30))
  replace kW := kW.trans kb
  replace kS := kS.trans kb
  replace kX1 := kX1.trans kb
  replace kB1 := kB1.trans kb
  replace kG := kG.trans kb
  clear kb
  have gc00 : (w5.alloc (.cells #[.int .i64 rn0, .slice g0ap g0am g0aq, .slice g0bp g0bm g0bq] 30)).cell? ⟨w5.heap.size, 0, none⟩ = some (.int .i64 rn0) := by simp
  have gc01 : (w5.alloc (.cells #[.int .i64 rn0, .slice g0ap g0am g0aq, .slice g0bp g0bm g0bq] 30)).cell? ⟨w5.heap.size, 1, none⟩ = some (.slice g0ap g0am g0aq) := by simp
  have gc02 : (w5.alloc (.cells #[.int .i64 rn0, .slice g0ap g0am g0aq, .slice g0bp g0bm g0bq] 30)).cell? ⟨w5.heap.size, 2, none⟩ = some (.slice g0bp g0bm g0bq) := by simp
  have kB := Keeps.refl (w5.alloc (.cells #[.int .i64 rn0, .slice g0ap g0am g0aq, .slice g0bp g0bm g0bq] 30))
  have zc0 := kB.cell gc00
  have zc1 := kB.cell gc01
  have zc2 := kB.cell gc02
  have uc0 := kS.cell sc00
  have uc1 := kS.cell sc01
  have uc2 := kS.cell sc02
  go_wp2_with fail
  refine (eqModel_same rn0 x0 y0 _ _ _ _ _ ((hg0.keeps kG).1.ints (by omega)) ((hg0.keeps kG).2.1.ints (by omega)) (hf0a.keeps kS) (hf0b.keeps kS)).mono ?_; rintro e w6 ⟨rfl, kw6⟩
  replace kW := kW.trans kw6
  replace kS := kS.trans kw6
  replace kX1 := kX1.trans kw6
  replace kB1 := kB1.trans kw6
  replace kG := kG.trans kw6
  replace kB := kB.trans kw6
  clear uc0 uc1 uc2 zc0 zc1 zc2
  go_wp2_with fail
  have kd := (Keeps.refl w6).drew
  replace kW := kW.trans kd
  replace kS := kS.trans kd
  replace kX1 := kX1.trans kd
  replace kB1 := kB1.trans kd
  replace kG := kG.trans kd
  replace kB := kB.trans kd
  have ya0 := kB1.cell xc10
  have ya1 := kB1.cell xc11
  have qc0 := kW.cell pc10
  have qc1 := kW.cell pc11
  have HR := hid (toModalSequent_any a1 b1 _ _ _ (hv1.keeps kW) (hu1.keeps kW))
  have HQ := hid (fun (w' : World) (k' : Keeps w6.drew w') v u h1 h2 => eqModalSequent_same a1 b1 _ _ v u w' ((hx1.keeps (kX1.trans k')).1.strs (by omega)) ((hx1.keeps (kX1.trans k')).2.1.strs (by omega)) h1 h2)
  go_region_held3 (fun w' => w'.cell? ⟨w4.heap.size, 0, none⟩ = some (.slice x1ap x1am x1aq) ∧ w'.cell? ⟨w4.heap.size, 1, none⟩ = some (.slice x1bp x1bm x1bq) ∧ w'.cell? ⟨w.heap.size, 0, none⟩ = some (.slice v1p a1.length v1q) ∧ w'.cell? ⟨w.heap.size, 1, none⟩ = some (.slice u1p b1.length u1q)) (first | exact ⟨ya0, ya1, qc0, qc1⟩ | exact ⟨za0, za1, oc0, oc1⟩ | exact ⟨ta0, ta1, va0, va1⟩) (first | (go_at_call 11; refine HR.out.mono ?_; rintro e w7 ⟨ra, rb, rfl, hr1, kw7⟩; have za0 := kw7.cell ya0; have za1 := kw7.cell ya1; have oc0 := kw7.cell qc0; have oc1 := kw7.cell qc1) | (go_at_call 14; refine (HQ.out w7 kw7 _ _ (hr1.1.strs (by omega)) (hr1.2.1.strs (by omega))).mono ?_; rintro e w8 ⟨rfl, kw8⟩; have ta0 := kw8.cell za0; have ta1 := kw8.cell za1; have va0 := kw8.cell oc0; have va1 := kw8.cell oc1))
  replace kW := kW.trans (kw7.trans kw8)
  replace kS := kS.trans (kw7.trans kw8)
  replace kX1 := kX1.trans (kw7.trans kw8)
  replace kB1 := kB1.trans (kw7.trans kw8)
  replace kG := kG.trans (kw7.trans kw8)
  replace kB := kB.trans (kw7.trans kw8)
  clear HR HQ hr1 ya0 qc0 za0 oc0 ta0 va0 ya1 qc1 za1 oc1 ta1 va1
  have kL1 := hx1.lowOf kX1
  clear kX1
  have kGL := hg0.lowOf kG
  clear kG
  replace xc10 := kB1.cell xc10
  replace xc11 := kB1.cell xc11
  clear kB1
  replace gc00 := kB.cell gc00
  replace gc01 := kB.cell gc01
  replace gc02 := kB.cell gc02
  clear kB
  have yc0 := xc10
  have yc1 := xc11
  go_wp2_with fail
  refine (markQ_t a1 b1 _ _ (1) _ _ _ hx1 kL1 (by omega) (by omega) (by omega)).mono ?_; rintro e w9 ⟨rfl, _, tw9⟩
  clear yc0 yc1
  replace kW := kW.touched tw9 (by first | omega | (simp at *; omega))
  replace kS := kS.touched tw9 (by first | omega | (simp at *; omega))
  replace kGL := kGL.touch tw9 (fun i hi => by first | omega | (simp at *; omega))
  replace gc00 := cell_touched gc00 tw9 (by first | omega | (simp at *; omega))
  replace gc01 := cell_touched gc01 tw9 (by first | omega | (simp at *; omega))
  replace gc02 := cell_touched gc02 tw9 (by first | omega | (simp at *; omega))
  clear hx1 kL1 tw9 xc10 xc11
  have hm1' : (0 : Int) ≤ 1 + (a1.length : Int) + (b1.length : Int) := by omega
  have kB := Keeps.refl w9
  have zc0 := kB.cell gc00
  have zc1 := kB.cell gc01
  have zc2 := kB.cell gc02
  have uc0 := kS.cell sc00
  have uc1 := kS.cell sc01
  have uc2 := kS.cell sc02
  go_wp2_with fail
  refine (eqModel_same rn0 x0 y0 _ _ _ _ _ ((hg0.low (kGL.keeps kB)).1.ints (by omega)) ((hg0.low (kGL.keeps kB)).2.1.ints (by omega)) (hf0a.keeps kS) (hf0b.keeps kS)).mono ?_; rintro e w10 ⟨rfl, kw10⟩
  replace kW := kW.trans kw10
  replace kS := kS.trans kw10
  replace kB := kB.trans kw10
  clear uc0 uc1 uc2 zc0 zc1 zc2
  replace kGL := kGL.keeps kB
  replace gc00 := kB.cell gc00
  replace gc01 := kB.cell gc01
  replace gc02 := kB.cell gc02
  clear kB
  have zc0 := gc00
  have zc1 := gc01
  have zc2 := gc02
  go_wp2_with fail
  refine (markM_t rn0 x0 y0 _ _ 1 _ _ _ hg0 kGL (by omega) (by omega) (by omega)).mono ?_; rintro e w11 ⟨rfl, hM0, tw11⟩
  clear zc0 zc1 zc2
  replace kW := kW.touched tw11 (by first | omega | (simp at *; omega))
  replace kS := kS.touched tw11 (by first | omega | (simp at *; omega))
  replace gc00 := cell_touched gc00 tw11 (by first | omega | (simp at *; omega))
  replace gc01 := cell_touched gc01 tw11 (by first | omega | (simp at *; omega))
  replace gc02 := cell_touched gc02 tw11 (by first | omega | (simp at *; omega))
  clear hg0 kGL
  have kM := Keeps.refl w11
  have zc0 := kM.cell gc00
  have zc1 := kM.cell gc01
  have zc2 := kM.cell gc02
  go_wp2_with fail
  refine (heldModel_any rn0 x0.length y0.length _ _ (1) _ ((hM0.keeps kM).1.ints (by rw [marksI_length]; omega)) ((hM0.keeps kM).2.1.ints (by rw [marksI_length]; omega)) (by omega) (by omega) (by omega)).mono ?_; rintro e w12 ⟨rfl, kw12⟩
  replace kW := kW.trans kw12
  replace kS := kS.trans kw12
  replace kM := kM.trans kw12
  clear zc0 zc1 zc2
  have qc0 := kW.cell pc10
  have qc1 := kW.cell pc11
  go_wp2_with fail
  refine (toModalSequent_any a1 b1 _ _ _ (hv1.keeps kW) (hu1.keeps kW)).mono ?_; rintro e w13 ⟨e1a, e1b, rfl, he1, kw13⟩
  replace kW := kW.trans kw13
  replace kS := kS.trans kw13
  replace kM := kM.trans kw13
  clear qc0 qc1
  have kZ1 := Keeps.refl w13
  go_wp2_with fail
  refine (HI.out _ _ _ ((he1.keeps kZ1).1.strs (by omega)) ((he1.keeps kZ1).2.1.strs (by omega))).mono ?_; rintro e w14 ⟨h0a, h0b, rfl, hh0, kw14⟩
  replace kW := kW.trans kw14
  replace kS := kS.trans kw14
  replace kM := kM.trans kw14
  replace kZ1 := kZ1.trans kw14
  clear he1 kZ1
  obtain ⟨h0ap, h0am, h0aq, rfl⟩ := hh0.1.shape0
  obtain ⟨h0bp, h0bm, h0bq, rfl⟩ := hh0.2.1.shape0
  have kb : Keeps w14 (w14.alloc (.cells #[.int .i64 rn0, .slice h0ap h0am h0aq, .slice h0bp h0bm h0bq] 30)) := ((Keeps.refl w14).alloc (.cells #[.int .i64 rn0, .slice h0ap h0am h0aq, .slice h0bp h0bm h0bq] 30))
  replace kW := kW.trans kb
  replace kS := kS.trans kb
  replace kM := kM.trans kb
  replace hh0 := hh0.keeps kb
  clear kb
  have hc00 : (w14.alloc (.cells #[.int .i64 rn0, .slice h0ap h0am h0aq, .slice h0bp h0bm h0bq] 30)).cell? ⟨w14.heap.size, 0, none⟩ = some (.int .i64 rn0) := by simp
  have hc01 : (w14.alloc (.cells #[.int .i64 rn0, .slice h0ap h0am h0aq, .slice h0bp h0bm h0bq] 30)).cell? ⟨w14.heap.size, 1, none⟩ = some (.slice h0ap h0am h0aq) := by simp
  have hc02 : (w14.alloc (.cells #[.int .i64 rn0, .slice h0ap h0am h0aq, .slice h0bp h0bm h0bq] 30)).cell? ⟨w14.heap.size, 2, none⟩ = some (.slice h0bp h0bm h0bq) := by simp
  have kH := Keeps.refl (w14.alloc (.cells #[.int .i64 rn0, .slice h0ap h0am h0aq, .slice h0bp h0bm h0bq] 30))
  have zc0 := kH.cell hc00
  have uc0 := kS.cell sc00
  have zc1 := kH.cell hc01
  have uc1 := kS.cell sc01
  have zc2 := kH.cell hc02
  have uc2 := kS.cell sc02
  go_wp2_with fail
  refine (eqModel_same rn0 x0 y0 _ _ _ _ _ ((hh0.keeps kH).1.ints (by omega)) ((hh0.keeps kH).2.1.ints (by omega)) (hf0a.keeps kS) (hf0b.keeps kS)).mono ?_; rintro e w15 ⟨rfl, kw15⟩
  replace kW := kW.trans kw15
  replace kS := kS.trans kw15
  replace kM := kM.trans kw15
  replace kH := kH.trans kw15
  clear uc0 zc0 uc1 zc1 uc2 zc2
  have zc0 := kM.cell gc00
  have zc1 := kM.cell gc01
  have zc2 := kM.cell gc02
  go_wp2_with fail
  refine (heldModel_any rn0 x0.length y0.length _ _ (1) _ ((hM0.keeps kM).1.ints (by rw [marksI_length]; omega)) ((hM0.keeps kM).2.1.ints (by rw [marksI_length]; omega)) (by omega) (by omega) (by omega)).mono ?_; rintro e w16 ⟨rfl, kw16⟩
  replace kW := kW.trans kw16
  replace kS := kS.trans kw16
  replace kM := kM.trans kw16
  replace kH := kH.trans kw16
  clear zc0 zc1 zc2
  go_wp2_with fail
  go_ret
  exact ⟨rfl, kP.trans kW⟩
--
set_option maxRecDepth 20000 in
set_option maxHeartbeats 1000000 in
theorem lawModalCountermodelBig (s0 : ByteArray) (v1 u1 : Value) (w : World) (hv1 : WkS w v1) (hu1 : WkS w u1) (hb : ¬ (s0.size ≤ 1048576 ∧ ∃ a b, Strs w v1 a ∧ Strs w u1 b ∧ szB a + szB b ≤ 1048576)) :
    Calls Tryz.prog 3 #[.string s0, .agg #[v1, u1]] w fun e w' => e = .returned (.bool true) ∧ Keeps w w' := by
  obtain ⟨A, hA⟩ := hv1.sz
  obtain ⟨B, hB⟩ := hu1.sz
  have kP := (Keeps.refl w).alloc (.cells #[v1, u1] 24)
  have hA' := hA.keeps kP
  have hB' := hB.keeps kP
  by_cases c0 : s0.size ≤ 1048576
  case neg =>
    have hd : decide (((s0.size : Nat) : Int) > 1048576) = true := by simp; omega
    clear hb hA hB hA' hB'
    obtain ⟨p1, n1, q1, rfl, _⟩ := hv1
    obtain ⟨p2, n2, q2, rfl, _⟩ := hu1
    go_enter Tryz.func3, Tryz.ntmps3
    go_wp2
    go_ret
    exact ⟨rfl, kP⟩
  have hlt : (1048576 : Int) < A + B := by
    rcases Nat.lt_or_ge 1048576 (A + B) with h | h
    · omega
    · exfalso
      obtain ⟨a, ea, ra⟩ := hA.2 (by omega)
      obtain ⟨b, eb, rb⟩ := hB.2 (by omega)
      exact hb ⟨c0, a, b, ra, rb, by omega⟩
  clear hb hA hB
  obtain ⟨p1, n1, q1, rfl, _⟩ := hv1
  obtain ⟨p2, n2, q2, rfl, _⟩ := hu1
  have HS := hid (szModalSequent_any _ _ A B 1048576 _ hA' hB' ⟨_, _, _, rfl⟩ ⟨_, _, _, rfl⟩ (by omega) (by omega))
  rw [if_pos (by omega)] at HS
  clear hA' hB'
  go_enter Tryz.func3, Tryz.ntmps3
  go_wp2_with fail
  refine HS.out.mono ?_; rintro e w' ⟨rfl, kw⟩
  go_wp2_with fail
  go_ret
  exact ⟨rfl, kP.trans kw⟩
end Go.Proofs.YtgnlfceloiilbaaGreat
