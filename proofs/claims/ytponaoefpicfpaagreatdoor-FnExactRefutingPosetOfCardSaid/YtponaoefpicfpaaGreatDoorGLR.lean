/- The law of RefutingPosetOf. -/
import Derived.Test.YtponaoefpicfpaaGreatDoorGQR
import Derived.Test.YtponaoefpicfpaaGreatDoorGLN
import Derived.Test.YtponaoefpicfpaaGreatDoorGL8
import Derived.Test.YtponaoefpicfpaaGreatDoorGAL
import Derived.Deep.RegionHeld3
namespace Go.Proofs.YtponaoefpicfpaaGreatDoor
open Go.RowKit
theorem OwnN.shape0 {w : World} {B : Nat} {v : Value} {a : List Nd} (h : OwnN w B v a) : ∃ p n c, v = .slice p n c := by obtain ⟨p, c, e, _⟩ := At.of_own h; exact ⟨p, _, c, e⟩
--
set_option maxRecDepth 20000 in
set_option maxHeartbeats 8000000 in
theorem lawRefutingPosetOf (s0 : ByteArray) (a1 : List Nd) (v1 : Value) (rn0 : Int) (x0 : List Int) (code : Int) (hrl : x0.length ≤ 100000) (hs : ∀ (v1' : Value) (w : World), Nds w v1' a1 → LaidS 1 names9 w → Calls Tryz.prog 24 #[.string s0, v1'] w (fun e w' => ∃ r0a, e = .returned (.tuple #[.agg #[.int .i64 rn0, r0a], .int .i64 code]) ∧ Ints w' r0a x0 ∧ Keeps w w')) (hi : ∀ (v1' : Value) (w : World), Nds w v1' a1 → LaidS 1 names9 w → Calls Tryz.prog 25 #[.string s0, v1'] w (fun e w' => ∃ r0a, e = .returned (.tuple #[.agg #[.int .i64 rn0, r0a], .int .i64 code]) ∧ OwnI w' w.heap.size r0a x0 ∧ Keeps w w')) (w : World)  (hv1 : Nds w v1 a1) (hlen1 : a1.length ≤ 1048576) (hlen0 : s0.size ≤ 1048576) (hL : LaidS 1 names9 w) :
    Calls Tryz.prog 6 #[.string s0, v1] w fun e w' => e = .returned (.bool true) ∧ Keeps w w' := by
  have HS := hid hs; clear hs
  have HI := hid hi; clear hi
  obtain ⟨v1p, v1m, v1q, rfl⟩ := hv1.shape
  obtain ⟨hn, hxv1⟩ : v1m = a1.length ∧ v1m ≤ maxLen := by obtain ⟨_, _, e, h1, h2, _⟩ := hv1; cases e; exact ⟨rfl, by omega⟩
  subst hn
  have kW := Keeps.refl w
  have HL := hid hL; clear hL
  go_enter Tryz.func6, Tryz.ntmps6
  go_wp2_with fail
  refine (szNodeS_any v1p a1.length v1q (1048576) _ hxv1 (by omega) (by omega)).mono ?_; rintro e w' ⟨rfl, rfl⟩
  rw [if_neg (by omega)]
  have hp1 : (0 : Int) ≤ 1048576 - (a1.length : Int) := by omega
  clear hxv1
  go_wp2_with fail
  refine (toNodeS_any a1 _ _ (hv1.keeps kW) (by omega)).mono ?_; rintro e w1 ⟨s1a, rfl, hs1, kw1⟩
  replace kW := kW.trans kw1
  have kS1 := Keeps.refl w1
  go_wp2_with fail
  refine (HS.out _ _ ((hs1.keeps kS1).nds (by omega)) (HL.out.keeps kW)).mono ?_; rintro e w2 ⟨f0a, rfl, hf0a, kw2⟩
  replace kW := kW.trans kw2
  replace kS1 := kS1.trans kw2
  clear hs1 kS1
  obtain ⟨f0ap, f0am, f0aq, rfl⟩ := hf0a.shape
  have kb : Keeps w2 (w2.alloc (.cells #[.int .i64 rn0, .slice f0ap f0am f0aq] 32)) := ((Keeps.refl w2).alloc (.cells #[.int .i64 rn0, .slice f0ap f0am f0aq] 32))
  replace kW := kW.trans kb
  replace hf0a := hf0a.keeps kb
  clear kb
  have sc00 : (w2.alloc (.cells #[.int .i64 rn0, .slice f0ap f0am f0aq] 32)).cell? ⟨w2.heap.size, 0, none⟩ = some (.int .i64 rn0) := by simp
  have sc01 : (w2.alloc (.cells #[.int .i64 rn0, .slice f0ap f0am f0aq] 32)).cell? ⟨w2.heap.size, 1, none⟩ = some (.slice f0ap f0am f0aq) := by simp
  have kS := Keeps.refl (w2.alloc (.cells #[.int .i64 rn0, .slice f0ap f0am f0aq] 32))
  have nWx1 := kW.size
  have nSx1 := kS.size
  go_wp2_with fail
  refine (toNodeS_any a1 _ _ (hv1.keeps kW) (by omega)).mono ?_; rintro e w3 ⟨x1a, rfl, hx1, kw3⟩
  replace kW := kW.trans kw3
  replace kS := kS.trans kw3
  have kX1 := Keeps.refl w3
  obtain ⟨x1ap, x1am, x1aq, rfl⟩ := hx1.shape0
  have nWg := kW.size
  have nSg := kS.size
  have nX1g := kX1.size
  go_wp2_with fail
  refine (HI.out _ _ ((hx1.keeps kX1).nds (by omega)) (HL.out.keeps kW)).mono ?_; rintro e w4 ⟨g0a, rfl, hg0, kw4⟩
  replace kW := kW.trans kw4
  replace kS := kS.trans kw4
  replace kX1 := kX1.trans kw4
  obtain ⟨g0ap, g0am, g0aq, rfl⟩ := hg0.shape0
  have nWh := kW.size
  have nSh := kS.size
  have nX1h := kX1.size
  have kG := Keeps.refl w4
  have kb : Keeps w4 (w4.alloc (.cells #[.int .i64 rn0, .slice g0ap g0am g0aq] 32)) := ((Keeps.refl w4).alloc (.cells #[.int .i64 rn0, .slice g0ap g0am g0aq] 32))
  replace kW := kW.trans kb
  replace kS := kS.trans kb
  replace kX1 := kX1.trans kb
  replace kG := kG.trans kb
  clear kb
  have gc00 : (w4.alloc (.cells #[.int .i64 rn0, .slice g0ap g0am g0aq] 32)).cell? ⟨w4.heap.size, 0, none⟩ = some (.int .i64 rn0) := by simp
  have gc01 : (w4.alloc (.cells #[.int .i64 rn0, .slice g0ap g0am g0aq] 32)).cell? ⟨w4.heap.size, 1, none⟩ = some (.slice g0ap g0am g0aq) := by simp
  have kB := Keeps.refl (w4.alloc (.cells #[.int .i64 rn0, .slice g0ap g0am g0aq] 32))
  have zc0 := kB.cell gc00
  have zc1 := kB.cell gc01
  have uc0 := kS.cell sc00
  have uc1 := kS.cell sc01
  go_wp2_with fail
  refine (eqPoset_same rn0 x0 _ _ _ ((hg0.keeps kG).ints (by omega)) (hf0a.keeps kS)).mono ?_; rintro e w5 ⟨rfl, kw5⟩
  replace kW := kW.trans kw5
  replace kS := kS.trans kw5
  replace kX1 := kX1.trans kw5
  replace kG := kG.trans kw5
  replace kB := kB.trans kw5
  clear uc0 uc1 zc0 zc1
  go_wp2_with fail
  refine (toNodeS_any a1 _ _ (hv1.keeps kW) (by omega)).mono ?_; rintro e w6 ⟨r1a, rfl, hr1, kw6⟩
  replace kW := kW.trans kw6
  replace kS := kS.trans kw6
  replace kX1 := kX1.trans kw6
  replace kG := kG.trans kw6
  replace kB := kB.trans kw6
  go_wp2_with fail
  refine (eqNodeS_any a1 a1 _ _ _ ((hx1.keeps kX1).nds (by omega)) (hr1.nds (by omega))).mono ?_; rintro e w7 ⟨rfl, kw7⟩
  replace kW := kW.trans kw7
  replace kS := kS.trans kw7
  replace kX1 := kX1.trans kw7
  replace kG := kG.trans kw7
  replace kB := kB.trans kw7
  rw [decide_eq_true rfl]
  clear hr1
  have kL1 := hx1.lowOf kX1
  clear kX1
  have kGL := hg0.lowOf kG
  clear kG
  replace gc00 := kB.cell gc00
  replace gc01 := kB.cell gc01
  clear kB
  go_wp2_with fail
  refine (markN_t a1 _ (1) _ _ _ hx1 kL1 (by omega) (by omega) (by omega)).mono ?_; rintro e w8 ⟨rfl, _, tw8⟩
  replace kW := kW.touched tw8 (by first | omega | (simp at *; omega))
  replace kS := kS.touched tw8 (by first | omega | (simp at *; omega))
  replace kGL := kGL.touch tw8 (fun i hi => by first | omega | (simp at *; omega))
  replace gc00 := cell_touched gc00 tw8 (by first | omega | (simp at *; omega))
  replace gc01 := cell_touched gc01 tw8 (by first | omega | (simp at *; omega))
  clear hx1 kL1 tw8
  have hm1' : (0 : Int) ≤ 1 + 2 * (a1.length : Int) := by omega
  have kB := Keeps.refl w8
  have zc0 := kB.cell gc00
  have zc1 := kB.cell gc01
  have uc0 := kS.cell sc00
  have uc1 := kS.cell sc01
  go_wp2_with fail
  refine (eqPoset_same rn0 x0 _ _ _ ((hg0.low (kGL.keeps kB)).ints (by omega)) (hf0a.keeps kS)).mono ?_; rintro e w9 ⟨rfl, kw9⟩
  replace kW := kW.trans kw9
  replace kS := kS.trans kw9
  replace kB := kB.trans kw9
  clear uc0 uc1 zc0 zc1
  replace kGL := kGL.keeps kB
  replace gc00 := kB.cell gc00
  replace gc01 := kB.cell gc01
  clear kB
  have zc0 := gc00
  have zc1 := gc01
  go_wp2_with fail
  refine (markP_t rn0 x0 _ 1 _ _ _ hg0 kGL (by omega) (by omega) (by omega)).mono ?_; rintro e w10 ⟨rfl, hM0, tw10⟩
  clear zc0 zc1
  replace kW := kW.touched tw10 (by first | omega | (simp at *; omega))
  replace kS := kS.touched tw10 (by first | omega | (simp at *; omega))
  replace gc00 := cell_touched gc00 tw10 (by first | omega | (simp at *; omega))
  replace gc01 := cell_touched gc01 tw10 (by first | omega | (simp at *; omega))
  clear hg0 kGL
  have kM := Keeps.refl w10
  have zc0 := kM.cell gc00
  have zc1 := kM.cell gc01
  go_wp2_with fail
  refine (heldPoset_any' rn0 x0.length _ (1) _ ((hM0.keeps kM).ints (by rw [marksI_length]; omega)) (by omega) (by omega) (by omega)).mono ?_; rintro e w11 ⟨rfl, kw11⟩
  replace kW := kW.trans kw11
  replace kS := kS.trans kw11
  replace kM := kM.trans kw11
  clear zc0 zc1
  go_wp2_with fail
  refine (toNodeS_any a1 _ _ (hv1.keeps kW) (by omega)).mono ?_; rintro e w12 ⟨e1a, rfl, he1, kw12⟩
  replace kW := kW.trans kw12
  replace kS := kS.trans kw12
  replace kM := kM.trans kw12
  have kZ1 := Keeps.refl w12
  go_wp2_with fail
  refine (HI.out _ _ ((he1.keeps kZ1).nds (by omega)) (HL.out.keeps kW)).mono ?_; rintro e w13 ⟨h0a, rfl, hh0, kw13⟩
  replace kW := kW.trans kw13
  replace kS := kS.trans kw13
  replace kM := kM.trans kw13
  replace kZ1 := kZ1.trans kw13
  clear he1 kZ1
  obtain ⟨h0ap, h0am, h0aq, rfl⟩ := hh0.shape0
  have kb : Keeps w13 (w13.alloc (.cells #[.int .i64 rn0, .slice h0ap h0am h0aq] 32)) := ((Keeps.refl w13).alloc (.cells #[.int .i64 rn0, .slice h0ap h0am h0aq] 32))
  replace kW := kW.trans kb
  replace kS := kS.trans kb
  replace kM := kM.trans kb
  replace hh0 := hh0.keeps kb
  clear kb
  have hc00 : (w13.alloc (.cells #[.int .i64 rn0, .slice h0ap h0am h0aq] 32)).cell? ⟨w13.heap.size, 0, none⟩ = some (.int .i64 rn0) := by simp
  have hc01 : (w13.alloc (.cells #[.int .i64 rn0, .slice h0ap h0am h0aq] 32)).cell? ⟨w13.heap.size, 1, none⟩ = some (.slice h0ap h0am h0aq) := by simp
  have kH := Keeps.refl (w13.alloc (.cells #[.int .i64 rn0, .slice h0ap h0am h0aq] 32))
  have zc0 := kH.cell hc00
  have uc0 := kS.cell sc00
  have zc1 := kH.cell hc01
  have uc1 := kS.cell sc01
  go_wp2_with fail
  refine (eqPoset_same rn0 x0 _ _ _ ((hh0.keeps kH).ints (by omega)) (hf0a.keeps kS)).mono ?_; rintro e w14 ⟨rfl, kw14⟩
  replace kW := kW.trans kw14
  replace kS := kS.trans kw14
  replace kM := kM.trans kw14
  replace kH := kH.trans kw14
  clear uc0 zc0 uc1 zc1
  have zc0 := kM.cell gc00
  have zc1 := kM.cell gc01
  go_wp2_with fail
  refine (heldPoset_any' rn0 x0.length _ (1) _ ((hM0.keeps kM).ints (by rw [marksI_length]; omega)) (by omega) (by omega) (by omega)).mono ?_; rintro e w15 ⟨rfl, kw15⟩
  replace kW := kW.trans kw15
  replace kS := kS.trans kw15
  replace kM := kM.trans kw15
  replace kH := kH.trans kw15
  clear zc0 zc1
  go_wp2_with fail
  go_ret
  exact ⟨rfl, kW⟩
--
set_option maxRecDepth 20000 in
set_option maxHeartbeats 1000000 in
theorem lawRefutingPosetOfBig (s0 : ByteArray) (vp1 : Option Addr) (vm1 vq1 : Nat) (w : World) (hm0 : s0.size ≤ maxLen) (hv1 : vm1 ≤ maxLen) (hb : ¬ (s0.size ≤ 1048576 ∧ vm1 ≤ 1048576)) :
    Calls Tryz.prog 6 #[.string s0, .slice vp1 vm1 vq1] w fun e w' => e = .returned (.bool true) ∧ Keeps w w' := by
  by_cases c0 : s0.size ≤ 1048576
  case neg =>
    have hd : decide (((s0.size : Nat) : Int) > 1048576) = true := by simp; omega
    unfold maxLen at *
    clear hb
    go_enter Tryz.func6, Tryz.ntmps6
    go_wp2
    go_ret
    exact ⟨rfl, Keeps.refl w⟩
  have hlt : (1048576 : Int) < vm1 := by omega
  have HS := hid (szNodeS_any vp1 vm1 vq1 1048576 w hv1 (by omega) (by omega))
  rw [if_pos hlt] at HS
  clear hb
  unfold maxLen at *
  go_enter Tryz.func6, Tryz.ntmps6
  go_wp2_with fail
  refine HS.out.mono ?_; rintro e w' ⟨rfl, rfl⟩
  go_wp2_with fail
  go_ret
  exact ⟨rfl, Keeps.refl w⟩
end Go.Proofs.YtponaoefpicfpaaGreatDoor
