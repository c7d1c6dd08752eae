/- The laws of functions that answer a bool and an error. -/
import Derived.Test.YtajjlnonmaghlaaGreatGL6
import Derived.Deep.RegionHeld3
import Derived.Test.YtajjlnonmaghlaaGreatGR2
namespace Go.Proofs.YtajjlnonmaghlaaGreat
open Go.RowKit
--
theorem eqNodeSS_same' (xs : List (List Nd)) (v v' : Value) (w : World) (hv : NdsL w v xs) (hv' : NdsL w v' xs) :
    Calls Tryz.prog 20 #[v, v'] w fun e w' => e = .returned (.bool true) ∧ Keeps w w' := by
  have h := eqNodeSS_any xs xs v v' w hv hv'
  rw [decide_eq_true rfl] at h
  exact h
--
theorem eqNodeS_same' (a : List Nd) (v v' : Value) (w : World) (hv : Nds w v a) (hv' : Nds w v' a) :
    Calls Tryz.prog 13 #[v, v'] w fun e w' => e = .returned (.bool true) ∧ Keeps w w' := by
  have h := eqNodeS_any a a v v' w hv hv'
  rw [decide_eq_true rfl] at h
  exact h
--
set_option maxRecDepth 20000 in
set_option maxHeartbeats 4000000 in
theorem lawIsDerivable (xs0 : List (List Nd)) (c0 : List Nd) (v0 u0 : Value) (b : Bool) (c : Int) (hs : ∀ (v0' : Value) (u0' : Value) (w : World), NdsL w v0' xs0 → Nds w u0' c0 → Calls Tryz.prog 22 #[.agg #[v0', u0']] w (fun e w' => e = .returned (.tuple #[.bool b, .int .i64 c]) ∧ Keeps w w')) (hi : ∀ (v0' : Value) (u0' : Value) (w : World), NdsL w v0' xs0 → Nds w u0' c0 → Calls Tryz.prog 24 #[.agg #[v0', u0']] w (fun e w' => e = .returned (.tuple #[.bool b, .int .i64 c]) ∧ Keeps w w')) (w : World) (hv0 : NdsL w v0 xs0) (hu0 : Nds w u0 c0) (hsum : (xs0.length + tot xs0 + c0.length) ≤ 1048576) :
    Calls Tryz.prog 6 #[.agg #[v0, u0]] w fun e w' => e = .returned (.bool true) ∧ Keeps w w' := by
  have HS := hid hs; clear hs
  have HI := hid hi; clear hi
  obtain ⟨p0, n0, q0, rfl⟩ := agg_shape hv0
  obtain ⟨r0, m0, z0, rfl⟩ := hu0.shape
  have kP : Keeps w (w.alloc (.cells #[.slice p0 n0 q0, .slice r0 m0 z0] 38)) := ((Keeps.refl w).alloc (.cells #[.slice p0 n0 q0, .slice r0 m0 z0] 38))
  have pa0 : (w.alloc (.cells #[.slice p0 n0 q0, .slice r0 m0 z0] 38)).cell? ⟨w.heap.size, 0, none⟩ = some (.slice p0 n0 q0) := by simp
  have pb0 : (w.alloc (.cells #[.slice p0 n0 q0, .slice r0 m0 z0] 38)).cell? ⟨w.heap.size, 1, none⟩ = some (.slice r0 m0 z0) := by simp
  replace hv0 := hv0.keeps kP
  replace hu0 := hu0.keeps kP
  have kW := Keeps.refl (w.alloc (.cells #[.slice p0 n0 q0, .slice r0 m0 z0] 38))
  go_enter Tryz.func6, Tryz.ntmps6
  have qa := kW.cell pa0
  have qb := kW.cell pb0
  go_wp2_with fail
  refine (szLogicRule_any xs0 c0 _ _ (1048576) _ (hv0.keeps kW) (hu0.keeps kW) (by omega) (by omega) (by omega)).mono ?_; rintro e w1 ⟨rfl, kw1⟩
  replace kW := kW.trans kw1
  clear qa qb
  have hp0 : (0 : Int) ≤ 1048576 - (xs0.length : Int) - (tot xs0 : Int) - (c0.length : Int) := by omega
  have qa := kW.cell pa0
  have qb := kW.cell pb0
  go_wp2_with fail
  refine (toLogicRule_any xs0 c0 _ _ _ (hv0.keeps kW) (hu0.keeps kW) (by omega)).mono ?_; rintro e w2 ⟨s0, s0', rfl, hs0, kw2⟩
  replace kW := kW.trans kw2
  clear qa qb
  have kS0 := Keeps.refl w2
  go_wp2_with fail
  refine (HS.out _ _ _ ((hs0.keeps kS0).ndsL (by omega) (by omega)) ((hs0.keeps kS0).nds (by omega))).mono ?_; rintro e w3 ⟨rfl, kw3⟩
  replace kW := kW.trans kw3
  replace kS0 := kS0.trans kw3
  clear hs0 kS0
  have qa := kW.cell pa0
  have qb := kW.cell pb0
  go_wp2_with fail
  refine (toLogicRule_any xs0 c0 _ _ _ (hv0.keeps kW) (hu0.keeps kW) (by omega)).mono ?_; rintro e w4 ⟨x0, x0', rfl, hx0, kw4⟩
  replace kW := kW.trans kw4
  clear qa qb
  obtain ⟨px, nx, qx, rfl⟩ := agg_shape (hx0.ndsL (by omega) (by omega))
  obtain ⟨rx, mx, zx, rfl⟩ := (hx0.nds (by omega)).shape
  have kb := (Keeps.refl w4).alloc (.cells #[.slice px nx qx, .slice rx mx zx] 42)
  replace kW := kW.trans kb
  replace hx0 := hx0.keeps kb
  have xa0 : (w4.alloc (.cells #[.slice px nx qx, .slice rx mx zx] 42)).cell? ⟨w4.heap.size, 0, none⟩ = some (.slice px nx qx) := by simp
  have xb0 : (w4.alloc (.cells #[.slice px nx qx, .slice rx mx zx] 42)).cell? ⟨w4.heap.size, 1, none⟩ = some (.slice rx mx zx) := by simp
  have kX0 := Keeps.refl (w4.alloc (.cells #[.slice px nx qx, .slice rx mx zx] 42))
  clear kb
  have ya0 := kX0.cell xa0
  have yb0 := kX0.cell xb0
  go_wp2_with fail
  refine (HI.out _ _ _ ((hx0.keeps kX0).ndsL (by omega) (by omega)) ((hx0.keeps kX0).nds (by omega))).mono ?_; rintro e w5 ⟨rfl, kw5⟩
  replace kW := kW.trans kw5
  replace kX0 := kX0.trans kw5
  clear ya0 yb0
  go_wp2_with fail
  have kd := (Keeps.refl w5).drew
  replace kW := kW.trans kd
  replace kX0 := kX0.trans kd
  have ya := kX0.cell xa0
  have yb := kX0.cell xb0
  have qa := kW.cell pa0
  have qb := kW.cell pb0
  have HR := hid (toLogicRule_any xs0 c0 _ _ _ (hv0.keeps kW) (hu0.keeps kW) (by omega))
  have HQ := hid (fun (w' : World) (k' : Keeps w5.drew w') v v' h1 h2 => eqLogicRule_same xs0 c0 _ _ v v' w' ((hx0.keeps (kX0.trans k')).ndsL (by omega) (by omega)) ((hx0.keeps (kX0.trans k')).nds (by omega)) h1 h2)
  go_region_held3 (fun w' => w'.cell? ⟨w4.heap.size, 0, none⟩ = some (.slice px nx qx) ∧ w'.cell? ⟨w4.heap.size, 1, none⟩ = some (.slice rx mx zx) ∧ w'.cell? ⟨w.heap.size, 0, none⟩ = some (.slice p0 n0 q0) ∧ w'.cell? ⟨w.heap.size, 1, none⟩ = some (.slice r0 m0 z0)) (first | exact ⟨ya, yb, qa, qb⟩ | exact ⟨za, zb, oa, ob⟩ | exact ⟨ta, tb, va, vb⟩) (first | (go_at_call 23; refine HR.out.mono ?_; rintro e w6 ⟨y0, y0', rfl, hy0, kw6⟩; have za := kw6.cell ya; have zb := kw6.cell yb; have oa := kw6.cell qa; have ob := kw6.cell qb) | (go_at_call 25; refine (HQ.out w6 kw6 _ _ (hy0.ndsL (by omega) (by omega)) (hy0.nds (by omega))).mono ?_; rintro e w7 ⟨rfl, kw7⟩; have ta := kw7.cell za; have tb := kw7.cell zb; have va := kw7.cell oa; have vb := kw7.cell ob))
  replace kW := kW.trans (kw6.trans kw7)
  replace kX0 := kX0.trans (kw6.trans kw7)
  clear qa qb ya yb za zb ta tb oa ob va vb HR HQ
  go_wp2_with fail
  go_ret
  exact ⟨rfl, kP.trans kW⟩
--
set_option maxRecDepth 20000 in
set_option maxHeartbeats 4000000 in
theorem lawUnifiesFormula (a0 : List Nd) (v0 : Value) (l1 : List (List Nd)) (v1 : Value) (b : Bool) (c : Int) (hs : ∀ (v0' : Value) (v1' : Value) (w : World), Nds w v0' a0 → NdsL w v1' l1 → Calls Tryz.prog 17 #[v0', v1'] w (fun e w' => e = .returned (.tuple #[.bool b, .int .i64 c]) ∧ Keeps w w')) (hi : ∀ (v0' : Value) (v1' : Value) (w : World), Nds w v0' a0 → NdsL w v1' l1 → Calls Tryz.prog 19 #[v0', v1'] w (fun e w' => e = .returned (.tuple #[.bool b, .int .i64 c]) ∧ Keeps w w')) (w : World) (hv0 : Nds w v0 a0) (hv1 : NdsL w v1 l1) (hsum : a0.length + (l1.length + tot l1) ≤ 1048576) :
    Calls Tryz.prog 5 #[v0, v1] w fun e w' => e = .returned (.bool true) ∧ Keeps w w' := by
  have HS := hid hs; clear hs
  have HI := hid hi; clear hi
  obtain ⟨p0, n0, q0, rfl⟩ := hv0.shape
  obtain ⟨hn0, hm0⟩ : n0 = a0.length ∧ n0 ≤ maxLen := by obtain ⟨_, _, e, h1, h2, _⟩ := hv0; cases e; exact ⟨rfl, by omega⟩
  subst hn0
  obtain ⟨p1, n1, q1, rfl⟩ := agg_shape hv1
  have kW := Keeps.refl w
  go_enter Tryz.func5, Tryz.ntmps5
  have hz := szNodeS_any p0 a0.length q0 (1048576)
  go_wp2_with fail
  refine (hz _ hm0 (by omega) (by omega)).mono ?_; rintro e w' ⟨rfl, rfl⟩; rw [if_neg (by omega)]
  clear hz
  have hp0 : (0 : Int) ≤ 1048576 - (a0.length : Int) := by omega
  go_wp2_with fail
  refine (szNodeSS_any l1 _ (1048576 - (a0.length : Int)) _ (hv1.keeps kW) (by omega) (by omega) (by omega)).mono ?_; rintro e w' ⟨rfl, rfl⟩
  have hp1 : (0 : Int) ≤ 1048576 - (a0.length : Int) - (l1.length : Int) - (tot l1 : Int) := by omega
  go_wp2_with fail
  refine (toNodeS_any a0 _ _ (hv0.keeps kW) (by omega)).mono ?_; rintro e w3 ⟨s0, rfl, hs0, kw3⟩
  replace kW := kW.trans kw3
  have kS0 := Keeps.refl w3
  go_wp2_with fail
  refine (toNodeSS_any l1 _ _ (hv1.keeps kW) (by omega)).mono ?_; rintro e w4 ⟨s1, rfl, hs1, kw4⟩
  replace kW := kW.trans kw4
  replace kS0 := kS0.trans kw4
  have kS1 := Keeps.refl w4
  go_wp2_with fail
  refine (HS.out _ _ _ ((hs0.keeps kS0).nds (by omega)) ((hs1.keeps kS1).ndsL (by omega) (by omega))).mono ?_; rintro e w5 ⟨rfl, kw5⟩
  replace kW := kW.trans kw5
  replace kS0 := kS0.trans kw5
  replace kS1 := kS1.trans kw5
  clear hs0 kS0 hs1 kS1
  go_wp2_with fail
  refine (toNodeS_any a0 _ _ (hv0.keeps kW) (by omega)).mono ?_; rintro e w6 ⟨x0, rfl, hx0, kw6⟩
  replace kW := kW.trans kw6
  have kX0 := Keeps.refl w6
  go_wp2_with fail
  refine (toNodeSS_any l1 _ _ (hv1.keeps kW) (by omega)).mono ?_; rintro e w7 ⟨x1, rfl, hx1, kw7⟩
  replace kW := kW.trans kw7
  replace kX0 := kX0.trans kw7
  have kX1 := Keeps.refl w7
  go_wp2_with fail
  refine (HI.out _ _ _ ((hx0.keeps kX0).nds (by omega)) ((hx1.keeps kX1).ndsL (by omega) (by omega))).mono ?_; rintro e w8 ⟨rfl, kw8⟩
  replace kW := kW.trans kw8
  replace kX0 := kX0.trans kw8
  replace kX1 := kX1.trans kw8
  go_wp2_with fail
  refine (toNodeS_any a0 _ _ (hv0.keeps kW) (by omega)).mono ?_; rintro e w9 ⟨y0, rfl, hy0, kw9⟩
  replace kW := kW.trans kw9
  replace kX0 := kX0.trans kw9
  replace kX1 := kX1.trans kw9
  go_wp2_with fail
  refine (eqNodeS_same' a0 _ _ _ ((hx0.keeps kX0).nds (by omega)) (hy0.nds (by omega))).mono ?_; rintro e w10 ⟨rfl, kw10⟩
  replace kW := kW.trans kw10
  replace kX0 := kX0.trans kw10
  replace kX1 := kX1.trans kw10
  go_wp2_with fail
  refine (toNodeSS_any l1 _ _ (hv1.keeps kW) (by omega)).mono ?_; rintro e w11 ⟨y1, rfl, hy1, kw11⟩
  replace kW := kW.trans kw11
  replace kX0 := kX0.trans kw11
  replace kX1 := kX1.trans kw11
  go_wp2_with fail
  refine (eqNodeSS_same' l1 _ _ _ ((hx1.keeps kX1).ndsL (by omega) (by omega)) (hy1.ndsL (by omega) (by omega))).mono ?_; rintro e w12 ⟨rfl, kw12⟩
  replace kW := kW.trans kw12
  replace kX0 := kX0.trans kw12
  replace kX1 := kX1.trans kw12
  go_wp2_with fail
  go_ret
  exact ⟨rfl, kW⟩
--
set_option maxRecDepth 20000 in
set_option maxHeartbeats 4000000 in
theorem lawGlivenkoTheorem (a0 : List Nd) (v0 : Value) (b : Bool) (c : Int) (hs : ∀ (v0' : Value) (w : World), Nds w v0' a0 → Calls Tryz.prog 10 #[v0'] w (fun e w' => e = .returned (.tuple #[.bool b, .int .i64 c]) ∧ Keeps w w')) (hi : ∀ (v0' : Value) (w : World), Nds w v0' a0 → Calls Tryz.prog 12 #[v0'] w (fun e w' => e = .returned (.tuple #[.bool b, .int .i64 c]) ∧ Keeps w w')) (w : World) (hv0 : Nds w v0 a0) (hsum : a0.length ≤ 1048576) :
    Calls Tryz.prog 3 #[v0] w fun e w' => e = .returned (.bool true) ∧ Keeps w w' := by
  have HS := hid hs; clear hs
  have HI := hid hi; clear hi
  obtain ⟨p0, n0, q0, rfl⟩ := hv0.shape
  obtain ⟨hn0, hm0⟩ : n0 = a0.length ∧ n0 ≤ maxLen := by obtain ⟨_, _, e, h1, h2, _⟩ := hv0; cases e; exact ⟨rfl, by omega⟩
  subst hn0
  have kW := Keeps.refl w
  go_enter Tryz.func3, Tryz.ntmps3
  have hz := szNodeS_any p0 a0.length q0 (1048576)
  go_wp2_with fail
  refine (hz _ hm0 (by omega) (by omega)).mono ?_; rintro e w' ⟨rfl, rfl⟩; rw [if_neg (by omega)]
  clear hz
  have hp0 : (0 : Int) ≤ 1048576 - (a0.length : Int) := by omega
  go_wp2_with fail
  refine (toNodeS_any a0 _ _ (hv0.keeps kW) (by omega)).mono ?_; rintro e w2 ⟨s0, rfl, hs0, kw2⟩
  replace kW := kW.trans kw2
  have kS0 := Keeps.refl w2
  go_wp2_with fail
  refine (HS.out _ _ ((hs0.keeps kS0).nds (by omega))).mono ?_; rintro e w3 ⟨rfl, kw3⟩
  replace kW := kW.trans kw3
  replace kS0 := kS0.trans kw3
  clear hs0 kS0
  go_wp2_with fail
  refine (toNodeS_any a0 _ _ (hv0.keeps kW) (by omega)).mono ?_; rintro e w4 ⟨x0, rfl, hx0, kw4⟩
  replace kW := kW.trans kw4
  have kX0 := Keeps.refl w4
  go_wp2_with fail
  refine (HI.out _ _ ((hx0.keeps kX0).nds (by omega))).mono ?_; rintro e w5 ⟨rfl, kw5⟩
  replace kW := kW.trans kw5
  replace kX0 := kX0.trans kw5
  go_wp2_with fail
  refine (toNodeS_any a0 _ _ (hv0.keeps kW) (by omega)).mono ?_; rintro e w6 ⟨y0, rfl, hy0, kw6⟩
  replace kW := kW.trans kw6
  replace kX0 := kX0.trans kw6
  go_wp2_with fail
  refine (eqNodeS_same' a0 _ _ _ ((hx0.keeps kX0).nds (by omega)) (hy0.nds (by omega))).mono ?_; rintro e w7 ⟨rfl, kw7⟩
  replace kW := kW.trans kw7
  replace kX0 := kX0.trans kw7
  go_wp2_with fail
  go_ret
  exact ⟨rfl, kW⟩
--
set_option maxRecDepth 20000 in
set_option maxHeartbeats 4000000 in
theorem lawIsClassicalKind (a0 : List Nd) (v0 : Value) (b : Bool) (c : Int) (hs : ∀ (v0' : Value) (w : World), Nds w v0' a0 → Calls Tryz.prog 14 #[v0'] w (fun e w' => e = .returned (.tuple #[.bool b, .int .i64 c]) ∧ Keeps w w')) (hi : ∀ (v0' : Value) (w : World), Nds w v0' a0 → Calls Tryz.prog 15 #[v0'] w (fun e w' => e = .returned (.tuple #[.bool b, .int .i64 c]) ∧ Keeps w w')) (w : World) (hv0 : Nds w v0 a0) (hsum : a0.length ≤ 1048576) :
    Calls Tryz.prog 4 #[v0] w fun e w' => e = .returned (.bool true) ∧ Keeps w w' := by
  have HS := hid hs; clear hs
  have HI := hid hi; clear hi
  obtain ⟨p0, n0, q0, rfl⟩ := hv0.shape
  obtain ⟨hn0, hm0⟩ : n0 = a0.length ∧ n0 ≤ maxLen := by obtain ⟨_, _, e, h1, h2, _⟩ := hv0; cases e; exact ⟨rfl, by omega⟩
  subst hn0
  have kW := Keeps.refl w
  go_enter Tryz.func4, Tryz.ntmps4
  have hz := szNodeS_any p0 a0.length q0 (1048576)
  go_wp2_with fail
  refine (hz _ hm0 (by omega) (by omega)).mono ?_; rintro e w' ⟨rfl, rfl⟩; rw [if_neg (by omega)]
  clear hz
  have hp0 : (0 : Int) ≤ 1048576 - (a0.length : Int) := by omega
  go_wp2_with fail
  refine (toNodeS_any a0 _ _ (hv0.keeps kW) (by omega)).mono ?_; rintro e w2 ⟨s0, rfl, hs0, kw2⟩
  replace kW := kW.trans kw2
  have kS0 := Keeps.refl w2
  go_wp2_with fail
  refine (HS.out _ _ ((hs0.keeps kS0).nds (by omega))).mono ?_; rintro e w3 ⟨rfl, kw3⟩
  replace kW := kW.trans kw3
  replace kS0 := kS0.trans kw3
  clear hs0 kS0
  go_wp2_with fail
  refine (toNodeS_any a0 _ _ (hv0.keeps kW) (by omega)).mono ?_; rintro e w4 ⟨x0, rfl, hx0, kw4⟩
  replace kW := kW.trans kw4
  have kX0 := Keeps.refl w4
  go_wp2_with fail
  refine (HI.out _ _ ((hx0.keeps kX0).nds (by omega))).mono ?_; rintro e w5 ⟨rfl, kw5⟩
  replace kW := kW.trans kw5
  replace kX0 := kX0.trans kw5
  go_wp2_with fail
  refine (toNodeS_any a0 _ _ (hv0.keeps kW) (by omega)).mono ?_; rintro e w6 ⟨y0, rfl, hy0, kw6⟩
  replace kW := kW.trans kw6
  replace kX0 := kX0.trans kw6
  go_wp2_with fail
  refine (eqNodeS_same' a0 _ _ _ ((hx0.keeps kX0).nds (by omega)) (hy0.nds (by omega))).mono ?_; rintro e w7 ⟨rfl, kw7⟩
  replace kW := kW.trans kw7
  replace kX0 := kX0.trans kw7
  go_wp2_with fail
  go_ret
  exact ⟨rfl, kW⟩
end Go.Proofs.YtajjlnonmaghlaaGreat
/- Laws with scalar answers, for arguments that are too great. -/
namespace Go.Proofs.YtajjlnonmaghlaaGreat
open Go.RowKit
--
set_option maxRecDepth 20000 in
set_option maxHeartbeats 4000000 in
theorem lawIsDerivableBig0  (p0 : Option Addr) (n0 q0 : Nat) (r0 : Option Addr) (m0 z0 : Nat) (w : World)  (hbig : Szs 21 (.agg #[.slice p0 n0 q0, .slice r0 m0 z0]) (1048576) w) :
    Calls Tryz.prog 6 #[.agg #[.slice p0 n0 q0, .slice r0 m0 z0]] w fun e w' => e = .returned (.bool true) ∧ Keeps w w' := by
  have kP : Keeps w (w.alloc (.cells #[.slice p0 n0 q0, .slice r0 m0 z0] 38)) := ((Keeps.refl w).alloc (.cells #[.slice p0 n0 q0, .slice r0 m0 z0] 38))
  have pa0 : (w.alloc (.cells #[.slice p0 n0 q0, .slice r0 m0 z0] 38)).cell? ⟨w.heap.size, 0, none⟩ = some (.slice p0 n0 q0) := by simp
  have pb0 : (w.alloc (.cells #[.slice p0 n0 q0, .slice r0 m0 z0] 38)).cell? ⟨w.heap.size, 1, none⟩ = some (.slice r0 m0 z0) := by simp
  have kW := Keeps.refl (w.alloc (.cells #[.slice p0 n0 q0, .slice r0 m0 z0] 38))
  go_enter Tryz.func6, Tryz.ntmps6
  have qa := kW.cell pa0
  have qb := kW.cell pb0
  go_wp2_with fail
  refine (hbig _ (kP.trans kW)).mono ?_; rintro e w1 ⟨rfl, kw1⟩
  replace kW := kW.trans kw1
  clear qa qb
  go_wp2_with fail
  go_ret
  exact ⟨rfl, kP.trans kW⟩
--
set_option maxRecDepth 20000 in
set_option maxHeartbeats 4000000 in
theorem lawUnifiesFormulaBig0  (p0 : Option Addr) (n0 q0 : Nat) (p1 : Option Addr) (n1 q1 : Nat) (w : World)  (hbig : Szs 9 (.slice p0 n0 q0) (1048576) w) :
    Calls Tryz.prog 5 #[.slice p0 n0 q0, .slice p1 n1 q1] w fun e w' => e = .returned (.bool true) ∧ Keeps w w' := by
  have kW := Keeps.refl w
  go_enter Tryz.func5, Tryz.ntmps5
  go_wp2_with fail
  refine (hbig _ (kW)).mono ?_; rintro e w1 ⟨rfl, kw1⟩
  replace kW := kW.trans kw1
  go_wp2_with fail
  go_ret
  exact ⟨rfl, kW⟩
--
set_option maxRecDepth 20000 in
set_option maxHeartbeats 4000000 in
theorem lawUnifiesFormulaBig1 (a0 : List Nd) (v0 : Value) (p1 : Option Addr) (n1 q1 : Nat) (w : World) (hv0 : Nds w v0 a0) (hsum : a0.length ≤ 1048576) (hbig : Szs 16 (.slice p1 n1 q1) (1048576 - (a0.length : Int)) w) :
    Calls Tryz.prog 5 #[v0, .slice p1 n1 q1] w fun e w' => e = .returned (.bool true) ∧ Keeps w w' := by
  obtain ⟨p0, n0, q0, rfl⟩ := hv0.shape
  obtain ⟨hn0, hm0⟩ : n0 = a0.length ∧ n0 ≤ maxLen := by obtain ⟨_, _, e, h1, h2, _⟩ := hv0; cases e; exact ⟨rfl, by omega⟩
  subst hn0
  have kW := Keeps.refl w
  go_enter Tryz.func5, Tryz.ntmps5
  have hz := szNodeS_any p0 a0.length q0 (1048576)
  go_wp2_with fail
  refine (hz _ hm0 (by omega) (by omega)).mono ?_; rintro e w' ⟨rfl, rfl⟩; rw [if_neg (by omega)]
  clear hz
  have hp0 : (0 : Int) ≤ 1048576 - (a0.length : Int) := by omega
  go_wp2_with fail
  refine (hbig _ (kW)).mono ?_; rintro e w2 ⟨rfl, kw2⟩
  replace kW := kW.trans kw2
  go_wp2_with fail
  go_ret
  exact ⟨rfl, kW⟩
--
set_option maxRecDepth 20000 in
set_option maxHeartbeats 4000000 in
theorem lawGlivenkoTheoremBig0  (p0 : Option Addr) (n0 q0 : Nat) (w : World)  (hbig : Szs 9 (.slice p0 n0 q0) (1048576) w) :
    Calls Tryz.prog 3 #[.slice p0 n0 q0] w fun e w' => e = .returned (.bool true) ∧ Keeps w w' := by
  have kW := Keeps.refl w
  go_enter Tryz.func3, Tryz.ntmps3
  go_wp2_with fail
  refine (hbig _ (kW)).mono ?_; rintro e w1 ⟨rfl, kw1⟩
  replace kW := kW.trans kw1
  go_wp2_with fail
  go_ret
  exact ⟨rfl, kW⟩
--
set_option maxRecDepth 20000 in
set_option maxHeartbeats 4000000 in
theorem lawIsClassicalKindBig0  (p0 : Option Addr) (n0 q0 : Nat) (w : World)  (hbig : Szs 9 (.slice p0 n0 q0) (1048576) w) :
    Calls Tryz.prog 4 #[.slice p0 n0 q0] w fun e w' => e = .returned (.bool true) ∧ Keeps w w' := by
  have kW := Keeps.refl w
  go_enter Tryz.func4, Tryz.ntmps4
  go_wp2_with fail
  refine (hbig _ (kW)).mono ?_; rintro e w1 ⟨rfl, kw1⟩
  replace kW := kW.trans kw1
  go_wp2_with fail
  go_ret
  exact ⟨rfl, kW⟩
end Go.Proofs.YtajjlnonmaghlaaGreat
/- The law of ProjectiveMask. -/
namespace Go.Proofs.YtajjlnonmaghlaaGreat
open Go.RowKit
--
set_option maxRecDepth 20000 in
set_option maxHeartbeats 4000000 in
theorem lawProjectiveMask (a0 : List Nd) (v0 : Value) (x : Int) (c : Int) (hs : ∀ (v0' : Value) (w : World), Nds w v0' a0 → Calls Tryz.prog 26 #[v0'] w (fun e w' => e = .returned (.tuple #[.int .i64 x, .int .i64 c]) ∧ Keeps w w')) (hi : ∀ (v0' : Value) (w : World), Nds w v0' a0 → Calls Tryz.prog 27 #[v0'] w (fun e w' => e = .returned (.tuple #[.int .i64 x, .int .i64 c]) ∧ Keeps w w')) (w : World) (hv0 : Nds w v0 a0) (hsum : a0.length ≤ 1048576) :
    Calls Tryz.prog 7 #[v0] w fun e w' => e = .returned (.bool true) ∧ Keeps w w' := by
  have HS := hid hs; clear hs
  have HI := hid hi; clear hi
  obtain ⟨p0, n0, q0, rfl⟩ := hv0.shape
  obtain ⟨hn0, hm0⟩ : n0 = a0.length ∧ n0 ≤ maxLen := by obtain ⟨_, _, e, h1, h2, _⟩ := hv0; cases e; exact ⟨rfl, by omega⟩
  subst hn0
  have kW := Keeps.refl w
  go_enter Tryz.func7, Tryz.ntmps7
  have hz := szNodeS_any p0 a0.length q0 (1048576)
  go_wp2_with fail
  refine (hz _ hm0 (by omega) (by omega)).mono ?_; rintro e w' ⟨rfl, rfl⟩; rw [if_neg (by omega)]
  clear hz
  have hp0 : (0 : Int) ≤ 1048576 - (a0.length : Int) := by omega
  go_wp2_with fail
  refine (toNodeS_any a0 _ _ (hv0.keeps kW) (by omega)).mono ?_; rintro e w2 ⟨s0, rfl, hs0, kw2⟩
  replace kW := kW.trans kw2
  have kS0 := Keeps.refl w2
  go_wp2_with fail
  refine (HS.out _ _ ((hs0.keeps kS0).nds (by omega))).mono ?_; rintro e w3 ⟨rfl, kw3⟩
  replace kW := kW.trans kw3
  replace kS0 := kS0.trans kw3
  clear hs0 kS0
  go_wp2_with fail
  refine (toNodeS_any a0 _ _ (hv0.keeps kW) (by omega)).mono ?_; rintro e w4 ⟨x0, rfl, hx0, kw4⟩
  replace kW := kW.trans kw4
  have kX0 := Keeps.refl w4
  go_wp2_with fail
  refine (HI.out _ _ ((hx0.keeps kX0).nds (by omega))).mono ?_; rintro e w5 ⟨rfl, kw5⟩
  replace kW := kW.trans kw5
  replace kX0 := kX0.trans kw5
  go_wp2_with fail
  refine (toNodeS_any a0 _ _ (hv0.keeps kW) (by omega)).mono ?_; rintro e w6 ⟨y0, rfl, hy0, kw6⟩
  replace kW := kW.trans kw6
  replace kX0 := kX0.trans kw6
  go_wp2_with fail
  refine (eqNodeS_same' a0 _ _ _ ((hx0.keeps kX0).nds (by omega)) (hy0.nds (by omega))).mono ?_; rintro e w7 ⟨rfl, kw7⟩
  replace kW := kW.trans kw7
  replace kX0 := kX0.trans kw7
  go_wp2_with fail
  go_ret
  exact ⟨rfl, kW⟩
--
set_option maxRecDepth 20000 in
set_option maxHeartbeats 4000000 in
theorem lawProjectiveMaskBig0  (p0 : Option Addr) (n0 q0 : Nat) (w : World)  (hbig : Szs 9 (.slice p0 n0 q0) (1048576) w) :
    Calls Tryz.prog 7 #[.slice p0 n0 q0] w fun e w' => e = .returned (.bool true) ∧ Keeps w w' := by
  have kW := Keeps.refl w
  go_enter Tryz.func7, Tryz.ntmps7
  go_wp2_with fail
  refine (hbig _ (kW)).mono ?_; rintro e w1 ⟨rfl, kw1⟩
  replace kW := kW.trans kw1
  go_wp2_with fail
  go_ret
  exact ⟨rfl, kW⟩
end Go.Proofs.YtajjlnonmaghlaaGreat
