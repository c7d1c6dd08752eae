/- The law of StrongestIntermediate. -/
import Derived.Test.YtponaoefpicfpaaGreatDoorGLS
import Derived.Test.YtponaoefpicfpaaGreatDoorGLN
import Derived.Test.YtponaoefpicfpaaGreatDoorGAL
import Derived.Deep.RegionHeld3
namespace Go.Proofs.YtponaoefpicfpaaGreatDoor
open Go.RowKit
--
set_option maxRecDepth 20000 in
set_option maxHeartbeats 8000000 in
theorem lawStrongestIntermediate (n0 : Int) (a0 : List Int) (v0 : Value) (x0 : List ByteArray) (code : Int) (hrl : x0.length ≤ 100000) (hs : ∀ (v0' : Value) (w : World), Ints w v0' a0 → LaidS 1 names9 w → Calls Tryz.prog 11 #[.agg #[.int .i64 n0, v0']] w (fun e w' => ∃ r0a, e = .returned (.tuple #[r0a, .int .i64 code]) ∧ Strs w' r0a x0 ∧ Keeps w w')) (hi : ∀ (v0' : Value) (w : World), Ints w v0' a0 → LaidS 1 names9 w → Calls Tryz.prog 13 #[.agg #[.int .i64 n0, v0']] w (fun e w' => ∃ r0a, e = .returned (.tuple #[r0a, .int .i64 code]) ∧ OwnS w' w.heap.size r0a x0 ∧ Keeps w w')) (w : World) (hv0 : Ints w v0 a0) (hsum : a0.length ≤ 1048576) (hL : LaidS 1 names9 w) :
    Calls Tryz.prog 4 #[.agg #[.int .i64 n0, v0]] w fun e w' => e = .returned (.bool true) ∧ Keeps w w' := by
  have HS := hid hs; clear hs
  have HI := hid hi; clear hi
  obtain ⟨v0p, v0m, v0q, rfl⟩ := hv0.shape
  obtain ⟨hn, hxv0⟩ : v0m = a0.length ∧ v0m ≤ maxLen := by obtain ⟨_, _, e, h1, h2, _⟩ := hv0; cases e; exact ⟨rfl, by omega⟩
  subst hn
  have kP : Keeps w (w.alloc (.cells #[.int .i64 n0, .slice v0p a0.length v0q] 27)) := ((Keeps.refl w).alloc (.cells #[.int .i64 n0, .slice v0p a0.length v0q] 27))
  have pc00 : (w.alloc (.cells #[.int .i64 n0, .slice v0p a0.length v0q] 27)).cell? ⟨w.heap.size, 0, none⟩ = some (.int .i64 n0) := by simp
  have pc01 : (w.alloc (.cells #[.int .i64 n0, .slice v0p a0.length v0q] 27)).cell? ⟨w.heap.size, 1, none⟩ = some (.slice v0p a0.length v0q) := by simp
  replace hv0 := hv0.keeps kP
  replace hL := hL.keeps kP
  have kW := Keeps.refl (w.alloc (.cells #[.int .i64 n0, .slice v0p a0.length v0q] 27))
  have HL := hid hL; clear hL
  go_enter Tryz.func4, Tryz.ntmps4
  have qc0 := kW.cell pc00
  have qc1 := kW.cell pc01
  go_wp2_with fail
  refine (szPoset_any n0 v0p a0.length v0q (1048576) _ hxv0 (by omega) (by omega)).mono ?_; rintro e w1 ⟨rfl, kw1⟩
  replace kW := kW.trans kw1
  rw [if_neg (by omega)]
  clear qc0 qc1
  have hp0 : (0 : Int) ≤ 1048576 - (a0.length : Int) := by omega
  clear hxv0
  have qc0 := kW.cell pc00
  have qc1 := kW.cell pc01
  go_wp2_with fail
  refine (toPoset_any n0 a0 _ _ (hv0.keeps kW)).mono ?_; rintro e w2 ⟨s0a, rfl, hs0, kw2⟩
  replace kW := kW.trans kw2
  clear qc0 qc1
  have kS0 := Keeps.refl w2
  go_wp2_with fail
  refine (HS.out _ _ ((hs0.keeps kS0).ints (by omega)) (HL.out.keeps kW)).mono ?_; rintro e w3 ⟨f0a, rfl, hf0a, kw3⟩
  replace kW := kW.trans kw3
  replace kS0 := kS0.trans kw3
  clear hs0 kS0
  obtain ⟨f0ap, f0am, f0aq, rfl⟩ := hf0a.shape0
  have kS := Keeps.refl w3
  have nWx0 := kW.size
  have nSx0 := kS.size
  have qc0 := kW.cell pc00
  have qc1 := kW.cell pc01
  go_wp2_with fail
  refine (toPoset_any n0 a0 _ _ (hv0.keeps kW)).mono ?_; rintro e w4 ⟨x0a, rfl, hx0, kw4⟩
  replace kW := kW.trans kw4
  replace kS := kS.trans kw4
  clear qc0 qc1
  have kX0 := Keeps.refl w4
  obtain ⟨x0ap, x0am, x0aq, rfl⟩ := hx0.shape0
  have kb := (Keeps.refl w4).alloc (.cells #[.int .i64 n0, .slice x0ap x0am x0aq] 32)
  replace kW := kW.trans kb
  replace kS := kS.trans kb
  replace kX0 := kX0.trans kb
  have xc00 : (w4.alloc (.cells #[.int .i64 n0, .slice x0ap x0am x0aq] 32)).cell? ⟨w4.heap.size, 0, none⟩ = some (.int .i64 n0) := by simp
  have xc01 : (w4.alloc (.cells #[.int .i64 n0, .slice x0ap x0am x0aq] 32)).cell? ⟨w4.heap.size, 1, none⟩ = some (.slice x0ap x0am x0aq) := by simp
  have kB0 := Keeps.refl (w4.alloc (.cells #[.int .i64 n0, .slice x0ap x0am x0aq] 32))
  clear kb
  have nWg := kW.size
  have nSg := kS.size
  have nX0g := kX0.size
  have yc00 := kB0.cell xc00
  have yc01 := kB0.cell xc01
  go_wp2_with fail
  refine (HI.out _ _ ((hx0.keeps kX0).ints (by omega)) (HL.out.keeps kW)).mono ?_; rintro e w5 ⟨g0a, rfl, hg0, kw5⟩
  replace kW := kW.trans kw5
  replace kS := kS.trans kw5
  replace kX0 := kX0.trans kw5
  replace kB0 := kB0.trans kw5
  clear yc00 yc01
  obtain ⟨g0ap, g0am, g0aq, rfl⟩ := hg0.shape0
  have nWh := kW.size
  have nSh := kS.size
  have nX0h := kX0.size
  have kG := Keeps.refl w5
  have kB := Keeps.refl w5
  go_wp2_with fail
  refine (eqStringS_same x0 _ _ _ ((hg0.keeps kG).strs (by omega)) (hf0a.keeps kS)).mono ?_; rintro e w6 ⟨rfl, kw6⟩
  replace kW := kW.trans kw6
  replace kS := kS.trans kw6
  replace kX0 := kX0.trans kw6
  replace kB0 := kB0.trans kw6
  replace kG := kG.trans kw6
  replace kB := kB.trans kw6
  go_wp2_with fail
  have kd := (Keeps.refl w6).drew
  replace kW := kW.trans kd
  replace kS := kS.trans kd
  replace kX0 := kX0.trans kd
  replace kB0 := kB0.trans kd
  replace kG := kG.trans kd
  replace kB := kB.trans kd
  have ya0 := kB0.cell xc00
  have ya1 := kB0.cell xc01
  have qc0 := kW.cell pc00
  have qc1 := kW.cell pc01
  have HR := hid (toPoset_any n0 a0 _ _ (hv0.keeps kW))
  have HQ := hid (fun (w' : World) (k' : Keeps w6.drew w') v h1 => eqPoset_same n0 a0 _ v w' ((hx0.keeps (kX0.trans k')).ints (by omega)) h1)
  go_region_held3 (fun w' => w'.cell? ⟨w4.heap.size, 0, none⟩ = some (.int .i64 n0) ∧ w'.cell? ⟨w4.heap.size, 1, none⟩ = some (.slice x0ap x0am x0aq) ∧ w'.cell? ⟨w.heap.size, 0, none⟩ = some (.int .i64 n0) ∧ w'.cell? ⟨w.heap.size, 1, none⟩ = some (.slice v0p a0.length v0q)) (first | exact ⟨ya0, ya1, qc0, qc1⟩ | exact ⟨za0, za1, oc0, oc1⟩ | exact ⟨ta0, ta1, va0, va1⟩) (first | (go_at_call 12; refine HR.out.mono ?_; rintro e w7 ⟨ra, rfl, hr0, kw7⟩; have za0 := kw7.cell ya0; have za1 := kw7.cell ya1; have oc0 := kw7.cell qc0; have oc1 := kw7.cell qc1) | (go_at_call 15; refine (HQ.out w7 kw7 _ (hr0.ints (by omega))).mono ?_; rintro e w8 ⟨rfl, kw8⟩; have ta0 := kw8.cell za0; have ta1 := kw8.cell za1; have va0 := kw8.cell oc0; have va1 := kw8.cell oc1))
  replace kW := kW.trans (kw7.trans kw8)
  replace kS := kS.trans (kw7.trans kw8)
  replace kX0 := kX0.trans (kw7.trans kw8)
  replace kB0 := kB0.trans (kw7.trans kw8)
  replace kG := kG.trans (kw7.trans kw8)
  replace kB := kB.trans (kw7.trans kw8)
  clear HR HQ hr0 ya0 qc0 za0 oc0 ta0 va0 ya1 qc1 za1 oc1 ta1 va1
  have kL0 := hx0.lowOf kX0
  clear kX0
  have kGL := hg0.lowOf kG
  clear kG
  replace xc00 := kB0.cell xc00
  replace xc01 := kB0.cell xc01
  clear kB0
  clear kB
  have yc0 := xc00
  have yc1 := xc01
  go_wp2_with fail
  refine (markP_t n0 a0 _ (1) _ _ _ hx0 kL0 (by omega) (by omega) (by omega)).mono ?_; rintro e w9 ⟨rfl, _, tw9⟩
  clear yc0 yc1
  replace kW := kW.touched tw9 (by first | omega | (simp at *; omega))
  replace kS := kS.touched tw9 (by first | omega | (simp at *; omega))
  replace kGL := kGL.touch tw9 (fun i hi => by first | omega | (simp at *; omega))
  clear hx0 kL0 tw9 xc00 xc01
  have hm0' : (0 : Int) ≤ 1 + (a0.length : Int) := by omega
  have kB := Keeps.refl w9
  go_wp2_with fail
  refine (eqStringS_same x0 _ _ _ ((hg0.low (kGL.keeps kB)).strs (by omega)) (hf0a.keeps kS)).mono ?_; rintro e w10 ⟨rfl, kw10⟩
  replace kW := kW.trans kw10
  replace kS := kS.trans kw10
  replace kB := kB.trans kw10
  replace kGL := kGL.keeps kB
  clear kB
  go_wp2_with fail
  refine (markS_t x0 _ 1 _ _ _ hg0 kGL (by omega) (by omega) (by omega)).mono ?_; rintro e w11 ⟨rfl, hM0, tw11⟩
  replace kW := kW.touched tw11 (by first | omega | (simp at *; omega))
  replace kS := kS.touched tw11 (by first | omega | (simp at *; omega))
  clear hg0 kGL
  have kM := Keeps.refl w11
  go_wp2_with fail
  refine (heldStringS_any x0.length _ (1) _ ((hM0.keeps kM).strs (by rw [marksS_length]; omega)) (by omega) (by omega) (by omega)).mono ?_; rintro e w12 ⟨rfl, kw12⟩
  replace kW := kW.trans kw12
  replace kS := kS.trans kw12
  replace kM := kM.trans kw12
  have qc0 := kW.cell pc00
  have qc1 := kW.cell pc01
  go_wp2_with fail
  refine (toPoset_any n0 a0 _ _ (hv0.keeps kW)).mono ?_; rintro e w13 ⟨e0a, rfl, he0, kw13⟩
  replace kW := kW.trans kw13
  replace kS := kS.trans kw13
  replace kM := kM.trans kw13
  clear qc0 qc1
  have kZ0 := Keeps.refl w13
  go_wp2_with fail
  refine (HI.out _ _ ((he0.keeps kZ0).ints (by omega)) (HL.out.keeps kW)).mono ?_; rintro e w14 ⟨h0a, rfl, hh0, kw14⟩
  replace kW := kW.trans kw14
  replace kS := kS.trans kw14
  replace kM := kM.trans kw14
  replace kZ0 := kZ0.trans kw14
  clear he0 kZ0
  obtain ⟨h0ap, h0am, h0aq, rfl⟩ := hh0.shape0
  have kH := Keeps.refl w14
  go_wp2_with fail
  refine (eqStringS_same x0 _ _ _ ((hh0.keeps kH).strs (by omega)) (hf0a.keeps kS)).mono ?_; rintro e w15 ⟨rfl, kw15⟩
  replace kW := kW.trans kw15
  replace kS := kS.trans kw15
  replace kM := kM.trans kw15
  replace kH := kH.trans kw15
  go_wp2_with fail
  refine (heldStringS_any x0.length _ (1) _ ((hM0.keeps kM).strs (by rw [marksS_length]; omega)) (by omega) (by omega) (by omega)).mono ?_; rintro e w16 ⟨rfl, kw16⟩
  replace kW := kW.trans kw16
  replace kS := kS.trans kw16
  replace kM := kM.trans kw16
  replace kH := kH.trans kw16
  go_wp2_with fail
  go_ret
  exact ⟨rfl, kP.trans kW⟩
--
set_option maxRecDepth 20000 in
set_option maxHeartbeats 1000000 in
theorem lawStrongestIntermediateBig (n0 : Int) (vp0 : Option Addr) (vm0 vq0 : Nat) (w : World) (hv0 : vm0 ≤ maxLen) (hb : ¬ (vm0 ≤ 1048576)) :
    Calls Tryz.prog 4 #[.agg #[.int .i64 n0, .slice vp0 vm0 vq0]] w fun e w' => e = .returned (.bool true) ∧ Keeps w w' := by
  have kP : Keeps w (w.alloc (.cells #[.int .i64 n0, .slice vp0 vm0 vq0] 27)) := ((Keeps.refl w).alloc (.cells #[.int .i64 n0, .slice vp0 vm0 vq0] 27))
  have hlt : (1048576 : Int) < vm0 := by omega
  clear hb
  go_enter Tryz.func4, Tryz.ntmps4
  go_wp2_with fail
  refine (szPoset_any n0 vp0 vm0 vq0 (1048576) _ hv0 (by omega) (by omega)).mono ?_; rintro e w' ⟨rfl, kw⟩
  rw [if_pos (by omega)]
  go_wp2_with fail
  go_ret
  exact ⟨rfl, kP.trans kw⟩
end Go.Proofs.YtponaoefpicfpaaGreatDoor
