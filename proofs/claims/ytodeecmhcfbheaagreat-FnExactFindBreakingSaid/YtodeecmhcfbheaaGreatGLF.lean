/- The laws of functions that answer a bool and an error. -/
import Derived.Test.YtodeecmhcfbheaaGreatGR2
import Derived.Deep.RegionHeld3
namespace Go.Proofs.YtodeecmhcfbheaaGreat
open Go.RowKit
--
theorem eqNodeSS_same' (xs : List (List Nd)) (v v' : Value) (w : World) (hv : NdsL w v xs) (hv' : NdsL w v' xs) :
    Calls Tryz.prog 33 #[v, v'] w fun e w' => e = .returned (.bool true) ∧ Keeps w w' := by
  have h := eqNodeSS_any xs xs v v' w hv hv'
  rw [decide_eq_true rfl] at h
  exact h
--
theorem eqNodeS_same' (a : List Nd) (v v' : Value) (w : World) (hv : Nds w v a) (hv' : Nds w v' a) :
    Calls Tryz.prog 34 #[v, v'] w fun e w' => e = .returned (.bool true) ∧ Keeps w w' := by
  have h := eqNodeS_any a a v v' w hv hv'
  rw [decide_eq_true rfl] at h
  exact h
end Go.Proofs.YtodeecmhcfbheaaGreat
/- Walks: marks put into owned node lists, lists of lists, and rules, while other memory may have been written. -/
namespace Go.Proofs.YtodeecmhcfbheaaGreat
open Go.RowKit
/-- nothing from block B on has changed -/
def Low (w w' : World) (B : Nat) : Prop := Touch w w' (fun i => i < B)
theorem Low.of {w w' : World} (h : Keeps w w') (B : Nat) : Low w w' B := Touch.of_keeps h _
theorem Low.trans {a b c : World} {B : Nat} (h : Low a b B) (k : Low b c B) : Low a c B := Touch.trans h k
theorem Low.keeps {a b c : World} {B : Nat} (h : Low a b B) (k : Keeps b c) : Low a c B := Touch.trans h (Touch.of_keeps k _)
theorem Low.touch {a b c : World} {B : Nat} {S : Nat → Prop} (h : Low a b B) (k : Touch b c S) (hS : ∀ i, S i → i < B) : Low a c B := Touch.trans h (k.mono hS)
theorem Keeps.touched {a w w' : World} {B U : Nat} (h : Keeps a w) (k : Touch w w' (fun i => B ≤ i ∧ i < U)) (hB : a.heap.size ≤ B) : Keeps a w' := h.touch k (fun i hi => by omega)
theorem cell_touched {w w' : World} {B U : Nat} {b o : Nat} {v : Value} (h : w.cell? ⟨b, o, none⟩ = some v) (k : Touch w w' (fun i => B ≤ i ∧ i < U)) (hb : b < B ∨ U ≤ b) : w'.cell? ⟨b, o, none⟩ = some v := by
  have hlt : b < w.heap.size := World.block_lt_of_cell? _ _ h
  rw [(k.cell hlt (fun hh => by omega)).1]; exact h
--
theorem OwnN.low {w w' : World} {B : Nat} {v : Value} {x : List Nd} (h : OwnN w B v x) (k : Low w w' B) : OwnN w' B v x := h.touch k (fun i hi => by have := (h.len i hi).1; omega)
theorem OwnN.lowOf {w0 w : World} {B : Nat} {v : Value} {x : List Nd} (h : OwnN w0 B v x) (k : Keeps w0 w) : Low w0 w B := by have _ := h; exact Low.of k B
theorem markN_t (a : List Nd) (v : Value) (k0 : Int) (w0 w : World) (B : Nat) (hv : OwnN w0 B v a) (k : Low w0 w B) (hl : a.length ≤ 2147483648) (hk0 : 0 ≤ k0) (hk1 : k0 ≤ 4294967296) :
    Calls Tryz.prog 35 #[v, .int .i64 k0] w fun e w' => e = .returned (.int .i64 (k0 + 2 * a.length)) ∧ OwnN w' B v (marksN a.length k0) ∧ Touch w w' (fun i => B ≤ i ∧ i < w0.heap.size) := by
  have hlen := hv.len
  refine (markNodeS_any a v k0 w B (hv.low k) hl hk0 hk1).mono ?_
  rintro e w' ⟨rfl, ho, g⟩
  exact ⟨rfl, ho, (Touch.grown g).mono (fun i hi => hlen i hi.symm)⟩
--
theorem OwnL.low {w w' : World} {B : Nat} {v : Value} {x : List (List Nd)} (h : OwnL w B v x) (k : Low w w' B) : OwnL w' B v x := h.touched k (fun i hi => by omega)
theorem OwnL.lowOf {w0 w : World} {B : Nat} {v : Value} {x : List (List Nd)} (h : OwnL w0 B v x) (k : Keeps w0 w) : Low w0 w B := by have _ := h; exact Low.of k B
theorem markL_t (r : List (List Nd)) (v : Value) (k0 : Int) (w0 w : World) (B : Nat) (hv : OwnL w0 B v r) (k : Low w0 w B) (hl : r.length ≤ 1048576) (ht : tot r ≤ 1048576) (hk0 : 0 ≤ k0) (hk1 : k0 ≤ 2147483648) :
    Calls Tryz.prog 36 #[v, .int .i64 k0] w fun e w' => e = .returned (.int .i64 (k0 + 2 * tot r)) ∧ NdsL w' v (marksL r k0) ∧ Touch w w' (fun i => B ≤ i ∧ i < w0.heap.size) := by
  have hlt : ∀ vs, RowsN w0 B vs r → ∀ k, blk vs k → B ≤ k ∧ k < w0.heap.size := fun vs h k hk => h.lt hk
  obtain ⟨vs0, _, hr0, _, _⟩ := id hv
  obtain ⟨vs, ho, hr, ha, hf⟩ := hv
  have hlt' := hlt vs hr
  have ho' := own_touch ho k (fun i e hs => by have := (World.ownsRow.lt ho i e).1; omega)
  have hr' := hr.touch k (fun i e hs => by have := (hr.lt e).1; omega)
  obtain ⟨p, cap, rfl, hcap, hmx, hat⟩ := At.of_own ho'
  refine (markNodeSS_any r vs p cap k0 w B hat hr' ha hf (by omega) (by omega) (by omega) (by omega)).mono ?_
  rintro e w' ⟨rfl, hr2, t⟩
  have hat' : At w' p vs := fun j hj => by
    obtain ⟨b, off, hp, hc⟩ := hat j hj
    refine ⟨b, off, hp, ?_⟩
    rw [(t.cell (World.block_lt_of_cell? _ _ hc) (hf.not_blk (k := b) (by subst hp; rfl))).1]
    exact hc
  have hn := rows_ndsL hat' hr2 (by rw [marksL_length]; exact hcap) hmx (by rw [marksL_length]; omega) (by rw [tot_marks]; omega)
  rw [marksL_length] at hn
  exact ⟨rfl, hn, t.mono (fun k hk => hlt' k hk)⟩
--
theorem OwnR.low {w w' : World} {B : Nat} {v u : Value} {xs : List (List Nd)} {c : List Nd} (h : OwnR w B v u xs c) (k : Low w w' B) : OwnR w' B v u xs c := h.touch k (fun i hi => by omega)
theorem OwnR.lowOf {w0 w : World} {B : Nat} {v u : Value} {xs : List (List Nd)} {c : List Nd} (h : OwnR w0 B v u xs c) (k : Keeps w0 w) : Low w0 w B := by have _ := h; exact Low.of k B
theorem markR_t (xs : List (List Nd)) (c : List Nd) (v u : Value) (k0 : Int) (w0 w : World) (B : Nat) (hv : OwnR w0 B v u xs c) (k : Low w0 w B) (hl : xs.length ≤ 1048576) (ht : tot xs + c.length ≤ 1048576) (hk0 : 0 ≤ k0) (hk1 : k0 ≤ 1073741824) :
    Calls Tryz.prog 41 #[.agg #[v, u], .int .i64 k0] w fun e w' => e = .returned (.int .i64 (k0 + 2 * (tot xs + c.length))) ∧ NdsL w' v (marksL xs k0) ∧ Nds w' u (marksN c.length (k0 + 2 * tot xs)) ∧ Touch w w' (fun i => B ≤ i ∧ i < w0.heap.size) := by
  obtain ⟨vs, ho, hr, ha, hf⟩ := hv
  have hlt' := fun k (hk : blk (u :: vs) k) => hr.lt hk
  have ho' := own_touch ho k (fun i e hs => by have := (World.ownsRow.lt ho i e).1; omega)
  have hr' := hr.touch k (fun i e hs => by have := (hr.lt e).1; omega)
  obtain ⟨p, cap, rfl, hcap, hmx, hat⟩ := At.of_own ho'
  refine (markLogicRule_any xs c vs p cap u k0 w B hat hr' ha hf (by omega) (by omega) (by omega) (by omega)).mono ?_
  rintro e w' ⟨rfl, hr2, t⟩
  have hat' : At w' p vs := fun j hj => by
    obtain ⟨b, off, hp, hc⟩ := hat j hj
    refine ⟨b, off, hp, ?_⟩
    rw [(t.cell (World.block_lt_of_cell? _ _ hc) (hf.not_blk (k := b) (by subst hp; rfl))).1]
    exact hc
  have hn := rows_ndsL hat' hr2.tail (by rw [marksL_length]; exact hcap) hmx (by rw [marksL_length]; omega) (by rw [tot_marks]; omega)
  rw [marksL_length] at hn
  exact ⟨rfl, hn, hr2.head.nds (by rw [marksN_length]; omega), t.mono (fun k hk => hlt' k hk)⟩
end Go.Proofs.YtodeecmhcfbheaaGreat
/- The laws of FindUnifier and FindBreaking. -/
namespace Go.Proofs.YtodeecmhcfbheaaGreat
open Go.RowKit
--
set_option maxRecDepth 20000 in
set_option maxHeartbeats 8000000 in
theorem lawFindUnifier (a0 : List Nd) (v0 : Value) (l1 : List (List Nd)) (v1 : Value) (XS : List (List Nd)) (code : Int) (hxl : XS.length ≤ 1000) (hcl : tot XS ≤ 1000) (hs : ∀ (v0' : Value) (v1' : Value) (w : World), Nds w v0' a0 → NdsL w v1' l1 → Calls Tryz.prog 29 #[v0', v1'] w (fun e w' => ∃ u, e = .returned (.tuple #[u, .int .i64 code]) ∧ NdsL w' u XS ∧ Keeps w w')) (hi : ∀ (v0' : Value) (v1' : Value) (w : World), Nds w v0' a0 → NdsL w v1' l1 → Calls Tryz.prog 32 #[v0', v1'] w (fun e w' => ∃ u, e = .returned (.tuple #[u, .int .i64 code]) ∧ OwnL w' w.heap.size u XS ∧ Keeps w w')) (w : World) (hv0 : Nds w v0 a0) (hv1 : NdsL w v1 l1) (hsum : a0.length + (l1.length + tot l1) ≤ 1048576) :
    Calls Tryz.prog 5 #[v0, v1] w fun e w' => e = .returned (.bool true) ∧ Keeps w w' := by
  have HS := hid hs; clear hs
  have HI := hid hi; clear hi
  obtain ⟨p0, n0, q0, rfl⟩ := hv0.shape
  obtain ⟨hn0, hm0⟩ : n0 = a0.length ∧ n0 ≤ maxLen := by obtain ⟨_, _, e, h1, h2, _⟩ := hv0; cases e; exact ⟨rfl, by omega⟩
  subst hn0
  obtain ⟨p1, n1, q1, rfl⟩ := agg_shape hv1
  have kW := Keeps.refl w
  go_enter Tryz.func5, Tryz.ntmps5
  have hz := szNodeS_any p0 a0.length q0 (1048576)
  go_wp2_with fail
  refine (hz _ hm0 (by omega) (by omega)).mono ?_; rintro e w' ⟨rfl, rfl⟩; rw [if_neg (by omega)]
  clear hz
  have hp0 : (0 : Int) ≤ 1048576 - (a0.length : Int) := by omega
  go_wp2_with fail
  refine (szNodeSS_any l1 _ (1048576 - (a0.length : Int)) _ (hv1.keeps kW) (by omega) (by omega) (by omega)).mono ?_; rintro e w' ⟨rfl, rfl⟩
  have hp1 : (0 : Int) ≤ 1048576 - (a0.length : Int) - (l1.length : Int) - (tot l1 : Int) := by omega
  go_wp2_with fail
  refine (toNodeS_any a0 _ _ (hv0.keeps kW) (by omega)).mono ?_; rintro e w3 ⟨s0, rfl, hs0, kw3⟩
  replace kW := kW.trans kw3
  have kS0 := Keeps.refl w3
  go_wp2_with fail
  refine (toNodeSS_any l1 _ _ (hv1.keeps kW) (by omega)).mono ?_; rintro e w4 ⟨s1, rfl, hs1, kw4⟩
  replace kW := kW.trans kw4
  replace kS0 := kS0.trans kw4
  have kS1 := Keeps.refl w4
  go_wp2_with fail
  refine (HS.out _ _ _ ((hs0.keeps kS0).nds (by omega)) ((hs1.keeps kS1).ndsL (by omega) (by omega))).mono ?_; rintro e w5 ⟨su, rfl, hsu, kw5⟩
  replace kW := kW.trans kw5
  replace kS0 := kS0.trans kw5
  replace kS1 := kS1.trans kw5
  clear hs0 kS0 hs1 kS1
  have kS := Keeps.refl w5
  have nWx0 := kW.size
  have nSx0 := kS.size
  go_wp2_with fail
  refine (toNodeS_any a0 _ _ (hv0.keeps kW) (by omega)).mono ?_; rintro e w6 ⟨x0, rfl, hx0, kw6⟩
  replace kW := kW.trans kw6
  replace kS := kS.trans kw6
  have kX0 := Keeps.refl w6
  have nWx1 := kW.size
  have nSx1 := kS.size
  have nX0x1 := kX0.size
  go_wp2_with fail
  refine (toNodeSS_any l1 _ _ (hv1.keeps kW) (by omega)).mono ?_; rintro e w7 ⟨x1, rfl, hx1, kw7⟩
  replace kW := kW.trans kw7
  replace kS := kS.trans kw7
  replace kX0 := kX0.trans kw7
  have kX1 := Keeps.refl w7
  have nWg := kW.size
  have nSg := kS.size
  have nX0g := kX0.size
  have nX1g := kX1.size
  go_wp2_with fail
  refine (HI.out _ _ _ ((hx0.keeps kX0).nds (by omega)) ((hx1.keeps kX1).ndsL (by omega) (by omega))).mono ?_; rintro e w8 ⟨gv, rfl, hg, kw8⟩
  replace kW := kW.trans kw8
  replace kS := kS.trans kw8
  replace kX0 := kX0.trans kw8
  replace kX1 := kX1.trans kw8
  have nWh := kW.size
  have nSh := kS.size
  have nX0h := kX0.size
  have nX1h := kX1.size
  have kG := Keeps.refl w8
  go_wp2_with fail
  refine (eqNodeSS_same' XS _ _ _ ((hg.keeps kG).ndsL (by omega) (by omega)) (hsu.keeps kS)).mono ?_; rintro e w9 ⟨rfl, kw9⟩
  replace kW := kW.trans kw9
  replace kS := kS.trans kw9
  replace kX0 := kX0.trans kw9
  replace kX1 := kX1.trans kw9
  replace kG := kG.trans kw9
  go_wp2_with fail
  refine (toNodeS_any a0 _ _ (hv0.keeps kW) (by omega)).mono ?_; rintro e w10 ⟨y0, rfl, hy0, kw10⟩
  replace kW := kW.trans kw10
  replace kS := kS.trans kw10
  replace kX0 := kX0.trans kw10
  replace kX1 := kX1.trans kw10
  replace kG := kG.trans kw10
  go_wp2_with fail
  refine (eqNodeS_same' a0 _ _ _ ((hx0.keeps kX0).nds (by omega)) (hy0.nds (by omega))).mono ?_; rintro e w11 ⟨rfl, kw11⟩
  replace kW := kW.trans kw11
  replace kS := kS.trans kw11
  replace kX0 := kX0.trans kw11
  replace kX1 := kX1.trans kw11
  replace kG := kG.trans kw11
  clear hy0
  go_wp2_with fail
  refine (toNodeSS_any l1 _ _ (hv1.keeps kW) (by omega)).mono ?_; rintro e w12 ⟨y1, rfl, hy1, kw12⟩
  replace kW := kW.trans kw12
  replace kS := kS.trans kw12
  replace kX0 := kX0.trans kw12
  replace kX1 := kX1.trans kw12
  replace kG := kG.trans kw12
  go_wp2_with fail
  refine (eqNodeSS_same' l1 _ _ _ ((hx1.keeps kX1).ndsL (by omega) (by omega)) (hy1.ndsL (by omega) (by omega))).mono ?_; rintro e w13 ⟨rfl, kw13⟩
  replace kW := kW.trans kw13
  replace kS := kS.trans kw13
  replace kX0 := kX0.trans kw13
  replace kX1 := kX1.trans kw13
  replace kG := kG.trans kw13
  clear hy1
  have kL0 := hx0.lowOf kX0
  clear kX0
  have kL1 := hx1.lowOf kX1
  clear kX1
  have kGL := hg.lowOf kG
  clear kG
  go_wp2_with fail
  refine (markN_t a0 _ (1) _ _ _ hx0 kL0 (by omega) (by omega) (by omega)).mono ?_; rintro e w14 ⟨rfl, _, tw14⟩
  replace kW := kW.touched tw14 (by first | omega | (simp at *; omega))
  replace kS := kS.touched tw14 (by first | omega | (simp at *; omega))
  replace kL1 := kL1.touch tw14 (fun i hi => by first | omega | (simp at *; omega))
  replace kGL := kGL.touch tw14 (fun i hi => by first | omega | (simp at *; omega))
  clear hx0 kL0 tw14
  have hm0' : (0 : Int) ≤ 1 + 2 * (a0.length : Int) := by omega
  go_wp2_with fail
  refine (markL_t l1 _ (1 + 2 * (a0.length : Int)) _ _ _ hx1 kL1 (by omega) (by omega) (by omega) (by omega)).mono ?_; rintro e w15 ⟨rfl, _, tw15⟩
  replace kW := kW.touched tw15 (by first | omega | (simp at *; omega))
  replace kS := kS.touched tw15 (by first | omega | (simp at *; omega))
  replace kGL := kGL.touch tw15 (fun i hi => by first | omega | (simp at *; omega))
  clear hx1 kL1 tw15
  have hm1' : (0 : Int) ≤ 1 + 2 * (a0.length : Int) + 2 * (tot l1 : Int) := by omega
  go_wp2_with fail
  refine (eqNodeSS_same' XS _ _ _ ((hg.low kGL).ndsL (by omega) (by omega)) (hsu.keeps kS)).mono ?_; rintro e w16 ⟨rfl, kw16⟩
  replace kW := kW.trans kw16
  replace kS := kS.trans kw16
  replace kGL := kGL.keeps kw16
  go_wp2_with fail
  refine (markL_t XS _ 1 _ _ _ hg kGL (by omega) (by omega) (by omega) (by omega)).mono ?_; rintro e w17 ⟨rfl, hM, tw17⟩
  replace kW := kW.touched tw17 (by first | omega | (simp at *; omega))
  replace kS := kS.touched tw17 (by first | omega | (simp at *; omega))
  clear hg kGL
  have hq0 : (0 : Int) ≤ 1 + 2 * (tot XS : Int) := by omega
  have kM := Keeps.refl w17
  go_wp2_with fail
  refine (heldNodeSS_any XS _ 1 _ (hM.keeps kM) (by omega) (by omega) (by omega)).mono ?_; rintro e w' ⟨rfl, rfl⟩
  go_wp2_with fail
  refine (toNodeS_any a0 _ _ (hv0.keeps kW) (by omega)).mono ?_; rintro e w18 ⟨z0, rfl, hz0, kw18⟩
  replace kW := kW.trans kw18
  replace kS := kS.trans kw18
  replace kM := kM.trans kw18
  have kZ0 := Keeps.refl w18
  go_wp2_with fail
  refine (toNodeSS_any l1 _ _ (hv1.keeps kW) (by omega)).mono ?_; rintro e w19 ⟨z1, rfl, hz1, kw19⟩
  replace kW := kW.trans kw19
  replace kS := kS.trans kw19
  replace kM := kM.trans kw19
  replace kZ0 := kZ0.trans kw19
  have kZ1 := Keeps.refl w19
  go_wp2_with fail
  refine (HI.out _ _ _ ((hz0.keeps kZ0).nds (by omega)) ((hz1.keeps kZ1).ndsL (by omega) (by omega))).mono ?_; rintro e w20 ⟨ev, rfl, he, kw20⟩
  replace kW := kW.trans kw20
  replace kS := kS.trans kw20
  replace kM := kM.trans kw20
  replace kZ0 := kZ0.trans kw20
  replace kZ1 := kZ1.trans kw20
  clear hz0 kZ0 hz1 kZ1
  go_wp2_with fail
  refine (eqNodeSS_same' XS _ _ _ (he.ndsL (by omega) (by omega)) (hsu.keeps kS)).mono ?_; rintro e w21 ⟨rfl, kw21⟩
  replace kW := kW.trans kw21
  replace kS := kS.trans kw21
  replace kM := kM.trans kw21
  clear he
  go_wp2_with fail
  refine (heldNodeSS_any XS _ 1 _ (hM.keeps kM) (by omega) (by omega) (by omega)).mono ?_; rintro e w' ⟨rfl, rfl⟩
  go_wp2_with fail
  go_ret
  exact ⟨rfl, kW⟩
--
set_option maxRecDepth 20000 in
set_option maxHeartbeats 4000000 in
theorem lawFindUnifierBig0  (p0 : Option Addr) (n0 q0 : Nat) (p1 : Option Addr) (n1 q1 : Nat) (w : World)  (hbig : Szs 27 (.slice p0 n0 q0) (1048576) w) :
    Calls Tryz.prog 5 #[.slice p0 n0 q0, .slice p1 n1 q1] w fun e w' => e = .returned (.bool true) ∧ Keeps w w' := by
  have kW := Keeps.refl w
  go_enter Tryz.func5, Tryz.ntmps5
  go_wp2_with fail
  refine (hbig _ (kW)).mono ?_; rintro e w1 ⟨rfl, kw1⟩
  replace kW := kW.trans kw1
  go_wp2_with fail
  go_ret
  exact ⟨rfl, kW⟩
--
set_option maxRecDepth 20000 in
set_option maxHeartbeats 4000000 in
theorem lawFindUnifierBig1 (a0 : List Nd) (v0 : Value) (p1 : Option Addr) (n1 q1 : Nat) (w : World) (hv0 : Nds w v0 a0) (hsum : a0.length ≤ 1048576) (hbig : Szs 28 (.slice p1 n1 q1) (1048576 - (a0.length : Int)) w) :
    Calls Tryz.prog 5 #[v0, .slice p1 n1 q1] w fun e w' => e = .returned (.bool true) ∧ Keeps w w' := by
  obtain ⟨p0, n0, q0, rfl⟩ := hv0.shape
  obtain ⟨hn0, hm0⟩ : n0 = a0.length ∧ n0 ≤ maxLen := by obtain ⟨_, _, e, h1, h2, _⟩ := hv0; cases e; exact ⟨rfl, by omega⟩
  subst hn0
  have kW := Keeps.refl w
  go_enter Tryz.func5, Tryz.ntmps5
  have hz := szNodeS_any p0 a0.length q0 (1048576)
  go_wp2_with fail
  refine (hz _ hm0 (by omega) (by omega)).mono ?_; rintro e w' ⟨rfl, rfl⟩; rw [if_neg (by omega)]
  clear hz
  have hp0 : (0 : Int) ≤ 1048576 - (a0.length : Int) := by omega
  go_wp2_with fail
  refine (hbig _ (kW)).mono ?_; rintro e w2 ⟨rfl, kw2⟩
  replace kW := kW.trans kw2
  go_wp2_with fail
  go_ret
  exact ⟨rfl, kW⟩
--
set_option maxRecDepth 20000 in
set_option maxHeartbeats 8000000 in
theorem lawFindBreaking (xs0 : List (List Nd)) (c0 : List Nd) (v0 u0 : Value) (l1 : List (List Nd)) (v1 : Value) (XS : List (List Nd)) (code : Int) (hxl : XS.length ≤ 1000) (hcl : tot XS ≤ 1000) (hs : ∀ (v0' : Value) (u0' : Value) (v1' : Value) (w : World), NdsL w v0' xs0 → Nds w u0' c0 → NdsL w v1' l1 → Calls Tryz.prog 25 #[.agg #[v0', u0'], v1'] w (fun e w' => ∃ u, e = .returned (.tuple #[u, .int .i64 code]) ∧ NdsL w' u XS ∧ Keeps w w')) (hi : ∀ (v0' : Value) (u0' : Value) (v1' : Value) (w : World), NdsL w v0' xs0 → Nds w u0' c0 → NdsL w v1' l1 → Calls Tryz.prog 24 #[.agg #[v0', u0'], v1'] w (fun e w' => ∃ u, e = .returned (.tuple #[u, .int .i64 code]) ∧ OwnL w' w.heap.size u XS ∧ Keeps w w')) (w : World) (hv0 : NdsL w v0 xs0) (hu0 : Nds w u0 c0) (hv1 : NdsL w v1 l1) (hsum : (xs0.length + tot xs0 + c0.length) + (l1.length + tot l1) ≤ 1048576) :
    Calls Tryz.prog 6 #[.agg #[v0, u0], v1] w fun e w' => e = .returned (.bool true) ∧ Keeps w w' := by
  have HS := hid hs; clear hs
  have HI := hid hi; clear hi
  obtain ⟨p0, n0, q0, rfl⟩ := agg_shape hv0
  obtain ⟨r0, m0, z0, rfl⟩ := hu0.shape
  obtain ⟨p1, n1, q1, rfl⟩ := agg_shape hv1
  have kP : Keeps w (w.alloc (.cells #[.slice p0 n0 q0, .slice r0 m0 z0] 59)) := ((Keeps.refl w).alloc (.cells #[.slice p0 n0 q0, .slice r0 m0 z0] 59))
  have pa0 : (w.alloc (.cells #[.slice p0 n0 q0, .slice r0 m0 z0] 59)).cell? ⟨w.heap.size, 0, none⟩ = some (.slice p0 n0 q0) := by simp
  have pb0 : (w.alloc (.cells #[.slice p0 n0 q0, .slice r0 m0 z0] 59)).cell? ⟨w.heap.size, 1, none⟩ = some (.slice r0 m0 z0) := by simp
  replace hv0 := hv0.keeps kP
  replace hu0 := hu0.keeps kP
  replace hv1 := hv1.keeps kP
  have kW := Keeps.refl (w.alloc (.cells #[.slice p0 n0 q0, .slice r0 m0 z0] 59))
  go_enter Tryz.func6, Tryz.ntmps6
  have qa := kW.cell pa0
  have qb := kW.cell pb0
  go_wp2_with fail
  refine (szLogicRule_any xs0 c0 _ _ (1048576) _ (hv0.keeps kW) (hu0.keeps kW) (by omega) (by omega) (by omega)).mono ?_; rintro e w1 ⟨rfl, kw1⟩
  replace kW := kW.trans kw1
  clear qa qb
  have hp0 : (0 : Int) ≤ 1048576 - (xs0.length : Int) - (tot xs0 : Int) - (c0.length : Int) := by omega
  go_wp2_with fail
  refine (szNodeSS_any l1 _ (1048576 - (xs0.length : Int) - (tot xs0 : Int) - (c0.length : Int)) _ (hv1.keeps kW) (by omega) (by omega) (by omega)).mono ?_; rintro e w' ⟨rfl, rfl⟩
  have hp1 : (0 : Int) ≤ 1048576 - (xs0.length : Int) - (tot xs0 : Int) - (c0.length : Int) - (l1.length : Int) - (tot l1 : Int) := by omega
  have qa := kW.cell pa0
  have qb := kW.cell pb0
  go_wp2_with fail
  refine (toLogicRule_any xs0 c0 _ _ _ (hv0.keeps kW) (hu0.keeps kW) (by omega)).mono ?_; rintro e w3 ⟨s0, s0', rfl, hs0, kw3⟩
  replace kW := kW.trans kw3
  clear qa qb
  have kS0 := Keeps.refl w3
  go_wp2_with fail
  refine (toNodeSS_any l1 _ _ (hv1.keeps kW) (by omega)).mono ?_; rintro e w4 ⟨s1, rfl, hs1, kw4⟩
  replace kW := kW.trans kw4
  replace kS0 := kS0.trans kw4
  have kS1 := Keeps.refl w4
  go_wp2_with fail
  refine (HS.out _ _ _ _ ((hs0.keeps kS0).ndsL (by omega) (by omega)) ((hs0.keeps kS0).nds (by omega)) ((hs1.keeps kS1).ndsL (by omega) (by omega))).mono ?_; rintro e w5 ⟨su, rfl, hsu, kw5⟩
  replace kW := kW.trans kw5
  replace kS0 := kS0.trans kw5
  replace kS1 := kS1.trans kw5
  clear hs0 kS0 hs1 kS1
  have kS := Keeps.refl w5
  have nWx0 := kW.size
  have nSx0 := kS.size
  have qa := kW.cell pa0
  have qb := kW.cell pb0
  go_wp2_with fail
  refine (toLogicRule_any xs0 c0 _ _ _ (hv0.keeps kW) (hu0.keeps kW) (by omega)).mono ?_; rintro e w6 ⟨x0, x0', rfl, hx0, kw6⟩
  replace kW := kW.trans kw6
  replace kS := kS.trans kw6
  clear qa qb
  obtain ⟨px, nx, qx, rfl⟩ := agg_shape (hx0.ndsL (by omega) (by omega))
  obtain ⟨rx, mx, zx, rfl⟩ := (hx0.nds (by omega)).shape
  have kX0 := Keeps.refl w6
  have kb := (Keeps.refl w6).alloc (.cells #[.slice px nx qx, .slice rx mx zx] 37)
  replace kW := kW.trans kb
  replace kS := kS.trans kb
  replace kX0 := kX0.trans kb
  have xa0 : (w6.alloc (.cells #[.slice px nx qx, .slice rx mx zx] 37)).cell? ⟨w6.heap.size, 0, none⟩ = some (.slice px nx qx) := by simp
  have xb0 : (w6.alloc (.cells #[.slice px nx qx, .slice rx mx zx] 37)).cell? ⟨w6.heap.size, 1, none⟩ = some (.slice rx mx zx) := by simp
  have kB0 := Keeps.refl (w6.alloc (.cells #[.slice px nx qx, .slice rx mx zx] 37))
  clear kb
  have nWx1 := kW.size
  have nSx1 := kS.size
  have nX0x1 := kX0.size
  go_wp2_with fail
  refine (toNodeSS_any l1 _ _ (hv1.keeps kW) (by omega)).mono ?_; rintro e w7 ⟨x1, rfl, hx1, kw7⟩
  replace kW := kW.trans kw7
  replace kS := kS.trans kw7
  replace kX0 := kX0.trans kw7
  replace kB0 := kB0.trans kw7
  have kX1 := Keeps.refl w7
  have nWg := kW.size
  have nSg := kS.size
  have nX0g := kX0.size
  have nX1g := kX1.size
  have ya0 := kB0.cell xa0
  have yb0 := kB0.cell xb0
  go_wp2_with fail
  refine (HI.out _ _ _ _ ((hx0.keeps kX0).ndsL (by omega) (by omega)) ((hx0.keeps kX0).nds (by omega)) ((hx1.keeps kX1).ndsL (by omega) (by omega))).mono ?_; rintro e w8 ⟨gv, rfl, hg, kw8⟩
  replace kW := kW.trans kw8
  replace kS := kS.trans kw8
  replace kX0 := kX0.trans kw8
  replace kB0 := kB0.trans kw8
  replace kX1 := kX1.trans kw8
  clear ya0 yb0
  have nWh := kW.size
  have nSh := kS.size
  have nX0h := kX0.size
  have nX1h := kX1.size
  have kG := Keeps.refl w8
  go_wp2_with fail
  refine (eqNodeSS_same' XS _ _ _ ((hg.keeps kG).ndsL (by omega) (by omega)) (hsu.keeps kS)).mono ?_; rintro e w9 ⟨rfl, kw9⟩
  replace kW := kW.trans kw9
  replace kS := kS.trans kw9
  replace kX0 := kX0.trans kw9
  replace kB0 := kB0.trans kw9
  replace kX1 := kX1.trans kw9
  replace kG := kG.trans kw9
  go_wp2_with fail
  have kd := (Keeps.refl w9).drew
  replace kW := kW.trans kd
  replace kS := kS.trans kd
  replace kX0 := kX0.trans kd
  replace kB0 := kB0.trans kd
  replace kX1 := kX1.trans kd
  replace kG := kG.trans kd
  have ya := kB0.cell xa0
  have yb := kB0.cell xb0
  have qa := kW.cell pa0
  have qb := kW.cell pb0
  have HR := hid (toLogicRule_any xs0 c0 _ _ _ (hv0.keeps kW) (hu0.keeps kW) (by omega))
  have HQ := hid (fun (w' : World) (k' : Keeps w9.drew w') v v' h1 h2 => eqLogicRule_same xs0 c0 _ _ v v' w' ((hx0.keeps (kX0.trans k')).ndsL (by omega) (by omega)) ((hx0.keeps (kX0.trans k')).nds (by omega)) h1 h2)
  go_region_held3 (fun w' => w'.cell? ⟨w6.heap.size, 0, none⟩ = some (.slice px nx qx) ∧ w'.cell? ⟨w6.heap.size, 1, none⟩ = some (.slice rx mx zx) ∧ w'.cell? ⟨w.heap.size, 0, none⟩ = some (.slice p0 n0 q0) ∧ w'.cell? ⟨w.heap.size, 1, none⟩ = some (.slice r0 m0 z0)) (first | exact ⟨ya, yb, qa, qb⟩ | exact ⟨za, zb, oa, ob⟩ | exact ⟨ta, tb, va, vb⟩) (first | (go_at_call 39; refine HR.out.mono ?_; rintro e w10 ⟨y0, y0', rfl, hy0, kw10⟩; have za := kw10.cell ya; have zb := kw10.cell yb; have oa := kw10.cell qa; have ob := kw10.cell qb) | (go_at_call 40; refine (HQ.out w10 kw10 _ _ (hy0.ndsL (by omega) (by omega)) (hy0.nds (by omega))).mono ?_; rintro e w11 ⟨rfl, kw11⟩; have ta := kw11.cell za; have tb := kw11.cell zb; have va := kw11.cell oa; have vb := kw11.cell ob))
  replace kW := kW.trans (kw10.trans kw11)
  replace kS := kS.trans (kw10.trans kw11)
  replace kX0 := kX0.trans (kw10.trans kw11)
  replace kB0 := kB0.trans (kw10.trans kw11)
  replace kX1 := kX1.trans (kw10.trans kw11)
  replace kG := kG.trans (kw10.trans kw11)
  clear qa qb ya yb za zb ta tb oa ob va vb HR HQ hy0
  go_wp2_with fail
  refine (toNodeSS_any l1 _ _ (hv1.keeps kW) (by omega)).mono ?_; rintro e w12 ⟨y1, rfl, hy1, kw12⟩
  replace kW := kW.trans kw12
  replace kS := kS.trans kw12
  replace kX0 := kX0.trans kw12
  replace kB0 := kB0.trans kw12
  replace kX1 := kX1.trans kw12
  replace kG := kG.trans kw12
  go_wp2_with fail
  refine (eqNodeSS_same' l1 _ _ _ ((hx1.keeps kX1).ndsL (by omega) (by omega)) (hy1.ndsL (by omega) (by omega))).mono ?_; rintro e w13 ⟨rfl, kw13⟩
  replace kW := kW.trans kw13
  replace kS := kS.trans kw13
  replace kX0 := kX0.trans kw13
  replace kB0 := kB0.trans kw13
  replace kX1 := kX1.trans kw13
  replace kG := kG.trans kw13
  clear hy1
  have kL0 := hx0.lowOf kX0
  clear kX0
  have kL1 := hx1.lowOf kX1
  clear kX1
  have kGL := hg.lowOf kG
  clear kG
  replace xa0 := kB0.cell xa0
  replace xb0 := kB0.cell xb0
  clear kB0
  have ya := xa0
  have yb := xb0
  go_wp2_with fail
  refine (markR_t xs0 c0 _ _ (1) _ _ _ hx0 kL0 (by omega) (by omega) (by omega) (by omega)).mono ?_; rintro e w14 ⟨rfl, _, _, tw14⟩
  clear ya yb
  replace kW := kW.touched tw14 (by first | omega | (simp at *; omega))
  replace kS := kS.touched tw14 (by first | omega | (simp at *; omega))
  replace kL1 := kL1.touch tw14 (fun i hi => by first | omega | (simp at *; omega))
  replace kGL := kGL.touch tw14 (fun i hi => by first | omega | (simp at *; omega))
  clear hx0 kL0 tw14 xa0 xb0
  have hm0' : (0 : Int) ≤ 1 + 2 * ((tot xs0 : Int) + c0.length) := by omega
  go_wp2_with fail
  refine (markL_t l1 _ (1 + 2 * ((tot xs0 : Int) + c0.length)) _ _ _ hx1 kL1 (by omega) (by omega) (by omega) (by omega)).mono ?_; rintro e w15 ⟨rfl, _, tw15⟩
  replace kW := kW.touched tw15 (by first | omega | (simp at *; omega))
  replace kS := kS.touched tw15 (by first | omega | (simp at *; omega))
  replace kGL := kGL.touch tw15 (fun i hi => by first | omega | (simp at *; omega))
  clear hx1 kL1 tw15
  have hm1' : (0 : Int) ≤ 1 + 2 * ((tot xs0 : Int) + c0.length) + 2 * (tot l1 : Int) := by omega
  go_wp2_with fail
  refine (eqNodeSS_same' XS _ _ _ ((hg.low kGL).ndsL (by omega) (by omega)) (hsu.keeps kS)).mono ?_; rintro e w16 ⟨rfl, kw16⟩
  replace kW := kW.trans kw16
  replace kS := kS.trans kw16
  replace kGL := kGL.keeps kw16
  go_wp2_with fail
  refine (markL_t XS _ 1 _ _ _ hg kGL (by omega) (by omega) (by omega) (by omega)).mono ?_; rintro e w17 ⟨rfl, hM, tw17⟩
  replace kW := kW.touched tw17 (by first | omega | (simp at *; omega))
  replace kS := kS.touched tw17 (by first | omega | (simp at *; omega))
  clear hg kGL
  have hq0 : (0 : Int) ≤ 1 + 2 * (tot XS : Int) := by omega
  have kM := Keeps.refl w17
  go_wp2_with fail
  refine (heldNodeSS_any XS _ 1 _ (hM.keeps kM) (by omega) (by omega) (by omega)).mono ?_; rintro e w' ⟨rfl, rfl⟩
  have qa := kW.cell pa0
  have qb := kW.cell pb0
  go_wp2_with fail
  refine (toLogicRule_any xs0 c0 _ _ _ (hv0.keeps kW) (hu0.keeps kW) (by omega)).mono ?_; rintro e w18 ⟨z0, z0', rfl, hz0, kw18⟩
  replace kW := kW.trans kw18
  replace kS := kS.trans kw18
  replace kM := kM.trans kw18
  clear qa qb
  have kZ0 := Keeps.refl w18
  go_wp2_with fail
  refine (toNodeSS_any l1 _ _ (hv1.keeps kW) (by omega)).mono ?_; rintro e w19 ⟨z1, rfl, hz1, kw19⟩
  replace kW := kW.trans kw19
  replace kS := kS.trans kw19
  replace kM := kM.trans kw19
  replace kZ0 := kZ0.trans kw19
  have kZ1 := Keeps.refl w19
  go_wp2_with fail
  refine (HI.out _ _ _ _ ((hz0.keeps kZ0).ndsL (by omega) (by omega)) ((hz0.keeps kZ0).nds (by omega)) ((hz1.keeps kZ1).ndsL (by omega) (by omega))).mono ?_; rintro e w20 ⟨ev, rfl, he, kw20⟩
  replace kW := kW.trans kw20
  replace kS := kS.trans kw20
  replace kM := kM.trans kw20
  replace kZ0 := kZ0.trans kw20
  replace kZ1 := kZ1.trans kw20
  clear hz0 kZ0 hz1 kZ1
  go_wp2_with fail
  refine (eqNodeSS_same' XS _ _ _ (he.ndsL (by omega) (by omega)) (hsu.keeps kS)).mono ?_; rintro e w21 ⟨rfl, kw21⟩
  replace kW := kW.trans kw21
  replace kS := kS.trans kw21
  replace kM := kM.trans kw21
  clear he
  go_wp2_with fail
  refine (heldNodeSS_any XS _ 1 _ (hM.keeps kM) (by omega) (by omega) (by omega)).mono ?_; rintro e w' ⟨rfl, rfl⟩
  go_wp2_with fail
  go_ret
  exact ⟨rfl, kP.trans kW⟩
--
set_option maxRecDepth 20000 in
set_option maxHeartbeats 4000000 in
theorem lawFindBreakingBig0  (p0 : Option Addr) (n0 q0 : Nat) (r0 : Option Addr) (m0 z0 : Nat) (p1 : Option Addr) (n1 q1 : Nat) (w : World)  (hbig : Szs 38 (.agg #[.slice p0 n0 q0, .slice r0 m0 z0]) (1048576) w) :
    Calls Tryz.prog 6 #[.agg #[.slice p0 n0 q0, .slice r0 m0 z0], .slice p1 n1 q1] w fun e w' => e = .returned (.bool true) ∧ Keeps w w' := by
  have kP : Keeps w (w.alloc (.cells #[.slice p0 n0 q0, .slice r0 m0 z0] 59)) := ((Keeps.refl w).alloc (.cells #[.slice p0 n0 q0, .slice r0 m0 z0] 59))
  have pa0 : (w.alloc (.cells #[.slice p0 n0 q0, .slice r0 m0 z0] 59)).cell? ⟨w.heap.size, 0, none⟩ = some (.slice p0 n0 q0) := by simp
  have pb0 : (w.alloc (.cells #[.slice p0 n0 q0, .slice r0 m0 z0] 59)).cell? ⟨w.heap.size, 1, none⟩ = some (.slice r0 m0 z0) := by simp
  have kW := Keeps.refl (w.alloc (.cells #[.slice p0 n0 q0, .slice r0 m0 z0] 59))
  go_enter Tryz.func6, Tryz.ntmps6
  have qa := kW.cell pa0
  have qb := kW.cell pb0
  go_wp2_with fail
  refine (hbig _ (kP.trans kW)).mono ?_; rintro e w1 ⟨rfl, kw1⟩
  replace kW := kW.trans kw1
  clear qa qb
  go_wp2_with fail
  go_ret
  exact ⟨rfl, kP.trans kW⟩
--
set_option maxRecDepth 20000 in
set_option maxHeartbeats 4000000 in
theorem lawFindBreakingBig1 (xs0 : List (List Nd)) (c0 : List Nd) (v0 u0 : Value) (p1 : Option Addr) (n1 q1 : Nat) (w : World) (hv0 : NdsL w v0 xs0) (hu0 : Nds w u0 c0) (hsum : (xs0.length + tot xs0 + c0.length) ≤ 1048576) (hbig : Szs 28 (.slice p1 n1 q1) (1048576 - (xs0.length : Int) - (tot xs0 : Int) - (c0.length : Int)) w) :
    Calls Tryz.prog 6 #[.agg #[v0, u0], .slice p1 n1 q1] w fun e w' => e = .returned (.bool true) ∧ Keeps w w' := by
  obtain ⟨p0, n0, q0, rfl⟩ := agg_shape hv0
  obtain ⟨r0, m0, z0, rfl⟩ := hu0.shape
  have kP : Keeps w (w.alloc (.cells #[.slice p0 n0 q0, .slice r0 m0 z0] 59)) := ((Keeps.refl w).alloc (.cells #[.slice p0 n0 q0, .slice r0 m0 z0] 59))
  have pa0 : (w.alloc (.cells #[.slice p0 n0 q0, .slice r0 m0 z0] 59)).cell? ⟨w.heap.size, 0, none⟩ = some (.slice p0 n0 q0) := by simp
  have pb0 : (w.alloc (.cells #[.slice p0 n0 q0, .slice r0 m0 z0] 59)).cell? ⟨w.heap.size, 1, none⟩ = some (.slice r0 m0 z0) := by simp
  replace hv0 := hv0.keeps kP
  replace hu0 := hu0.keeps kP
  have kW := Keeps.refl (w.alloc (.cells #[.slice p0 n0 q0, .slice r0 m0 z0] 59))
  go_enter Tryz.func6, Tryz.ntmps6
  have qa := kW.cell pa0
  have qb := kW.cell pb0
  go_wp2_with fail
  refine (szLogicRule_any xs0 c0 _ _ (1048576) _ (hv0.keeps kW) (hu0.keeps kW) (by omega) (by omega) (by omega)).mono ?_; rintro e w1 ⟨rfl, kw1⟩
  replace kW := kW.trans kw1
  clear qa qb
  have hp0 : (0 : Int) ≤ 1048576 - (xs0.length : Int) - (tot xs0 : Int) - (c0.length : Int) := by omega
  go_wp2_with fail
  refine (hbig _ (kP.trans kW)).mono ?_; rintro e w2 ⟨rfl, kw2⟩
  replace kW := kW.trans kw2
  go_wp2_with fail
  go_ret
  exact ⟨rfl, kP.trans kW⟩
end Go.Proofs.YtodeecmhcfbheaaGreat
