import Derived.Test.YtfmmajgkjkmghaaGreatDoorHSR
import Derived.Test.YtfmmajgkjkmghaaGreatDoorHZA
import Derived.Test.YtfmmajgkjkmghaaGreatDoorHHH
import Derived.Test.YtfmmajgkjkmghaaGreatDoorHL1
import Derived.Test.YtfmmajgkjkmghaaGreatDoorHQ2
/- Walks: the variables of lists of formulas, on both sides. -/
namespace Go.Proofs.YtfmmajgkjkmghaaGreatDoor
open Go.RowKit
def vmL (l : List (List Nd)) : Nat := l.foldl (fun m a => m ||| vm a) 0
theorem vmL_take (l : List (List Nd)) (k : Nat) (h : k < l.length) : vmL (l.take (k + 1)) = vmL (l.take k) ||| vm l[k] := by
 unfold vmL; rw [List.take_succ_eq_append_getElem h, List.foldl_append]; rfl
theorem vm_64 {a : List Nd} (h : a.all okNd = true) : vm a < 64 := by
 have := vm_lt h a.length (Nat.le_refl _)
 rwa [List.take_length] at this
theorem vmL_lt {l : List (List Nd)} (h : ∀ a ∈ l, a.all okNd = true) : ∀ k, k ≤ l.length → vmL (l.take k) < 64
 | 0, _ => by simp [vmL]
 | k + 1, hk => by
  rw [vmL_take l k (by omega)]
  exact Nat.or_lt_two_pow (n := 6) (vmL_lt h k (by omega)) (vm_64 (h _ (List.getElem_mem (by omega))))
theorem or64 : ∀ (m n : Fin 64), bits BinOp.or IntKind.i64 ((m : Nat) : Int) ((n : Nat) : Int) = (((m : Nat) ||| (n : Nat) : Nat) : Int) := by decide +kernel
set_option maxRecDepth 20000 in
set_option maxHeartbeats 1000000 in
theorem variablesIn_any (l : List (List Nd)) (v : Value) (w : World) (hv : NdsL w v l) (ha : ∀ a ∈ l, a.all okNd = true) : Calls Tryz.prog 66 #[v] w (RetI w (mem (vmL l))) := by
 have hv0 := hv
 obtain ⟨p, cap, rfl, hle, hmx, hlen, _⟩ := hv
 unfold maxLen at hmx
 have HA := hid ha
 have HL := hid (vmL_lt ha); clear ha
 have HM := hid (fun w2 => membersOf_any (vmL l) w2 (by have := HL.out l.length (Nat.le_refl _); rwa [List.take_length] at this))
 go_enter Tryz.func66, Tryz.ntmps66
 go_wp2
 go_loopw [3, 8] (fun c i' wr => ∃ k : Nat, k ≤ l.length ∧ i' = .int .i64 k ∧ c = .int .i64 (vmL (l.take k)) ∧ Keeps w wr) (fun _ i _ => l.length - (intOf i).toNat)
 case atStart => exact ⟨0, by omega, rfl, rfl, Keeps.refl w⟩
 case round =>
  obtain ⟨k, hk, rfl, rfl, kw⟩ := hrel
  by_cases hlt : k < l.length
  ·have hlt' : (k : Int) < l.length := by omega
   obtain ⟨b, off, u, rfl, hc, hu⟩ := (NdsL.keeps hv0 kw).get k hlt
   obtain ⟨pu, nu, cu, rfl⟩ := hu.shape
   have hok := HA.out _ (List.getElem_mem hlt)
   have hst := vmL_take l k hlt
   have hor := or64 ⟨vmL (l.take k), HL.out k hk⟩ ⟨vm l[k], vm_64 hok⟩
   simp only at hor
   rw [← hst] at hor
   have HV := hid (variableMask_any l[k] _ wr hu hok)
   have HO := hid hor; clear hor hst hu hok hv0
   generalize vm l[k] = y at *
   generalize vmL (l.take k) = x at *
   go_wp2_with fail
   refine HV.out.mono ?_; rintro e w2 ⟨rfl, k2⟩
   go_wp2_with fail
   go_roundw
   case rel => exact ⟨k + 1, by omega, by go_num, by rw [HO.out], kw.trans k2⟩
   case measure => simp [intOf]; omega
  ·obtain rfl : k = l.length := by omega
   have hlt' : ¬ (l.length : Int) < l.length := by omega
   rw [List.take_length]
   go_wp2_with fail
   refine (HM.out _).mono ?_; rintro e w2 ⟨v2, rfl, hv2, k2⟩
   go_wp2_with fail
   go_ret
   exact ⟨_, rfl, hv2.mono kw.size, kw.trans k2⟩
end Go.Proofs.YtfmmajgkjkmghaaGreatDoor
namespace Go.Proofs.YtfmmajgkjkmghaaGreatDoor
open Go.RowKit
attribute [local go_sem] Oper.semAt_some
def okF (b : List Nat) (t : Fm) (vs : List Nat) : Bool := frcP b vs t == 2 ^ b.length - 1
def vldP (b : List Nat) (t : Fm) : Bool := vldL (okF b t) (upL b) (varL t) (List.replicate 6 0)
theorem vldP_eq (b : List Nat) (t : Fm) : vldP b t = vldR b t := by
 rw [Bool.eq_iff_iff]
 unfold vldP
 rw [vld_eq (upL_pos b) (varL_nodup t)]
 unfold vldR
 rw [List.all_eq_true]
 constructor
 ·intro h N hN; exact h N (by simpa using hN)
 ·intro h N hN; exact h N (by simpa using hN)
theorem vmL_oneZ (t : Fm) : mem (vmL [t.enc]) = zs (varL t) := by
 rw [← varL_mem]
 unfold vmL
 simp
theorem Ints.row {w w' : World} {v : Value} {a : List Int} {l : Nat} (h : Ints w v a) (hg : w.grownBy w' (some l)) (hl : ∃ o : Obj, w.heap[l]? = some o ∧ o.isCells = false) : Ints w' v a := by
 obtain ⟨p, cap, e, h1, h2, hat, h4⟩ := h
 refine ⟨p, cap, e, h1, h2, fun j hj => ?_, h4⟩
 obtain ⟨b, off, hp, hc⟩ := hat j hj
 exact ⟨b, off, hp, cell_kept hc hg (fun r e => by cases e; exact hl)⟩
structure UCells (w0 W : World) (r : Nat) (n : Nat) (pv av : Value) : Prop where
 kp : Keeps w0 W
 c0 : W.cell? ⟨r, 0, none⟩ = some (.int .i64 n)
 c1 : W.cell? ⟨r, 1, none⟩ = some pv
 ca : W.cell? ⟨r + 1, 0, none⟩ = some av
theorem UCells.touch {w0 W W' : World} {r n : Nat} {pv av : Value} (h : UCells w0 W r n pv av) {S : Nat → Prop} (k : Touch W W' S) (hS : ∀ i, S i → r + 2 ≤ i) (h0 : w0.heap.size ≤ r) : UCells w0 W' r n pv av :=
 ⟨h.kp.touch k (fun i hi => by have := hS i hi; omega), by rw [(k.cell (World.block_lt_of_cell? _ _ h.c0) (fun e => by have := hS _ e; simp at this <;> omega)).1]; exact h.c0,
  by rw [(k.cell (World.block_lt_of_cell? _ _ h.c1) (fun e => by have := hS _ e; simp at this <;> omega)).1]; exact h.c1, by rw [(k.cell (World.block_lt_of_cell? _ _ h.ca) (fun e => by have := hS _ e; simp at this <;> omega)).1]; exact h.ca⟩
structure RCells (W : World) (r : Nat) : Prop where
 a : W.cell? ⟨r, 0, none⟩ = some (.slice none 0 0)
 fa : W.frozen? ⟨r, 0, none⟩ = false
 b : W.cell? ⟨r + 1, 0, none⟩ = some (.int .i64 0)
 fb : W.frozen? ⟨r + 1, 0, none⟩ = false
 c : W.cell? ⟨r + 2, 0, none⟩ = some (.bool false)
 fc : W.frozen? ⟨r + 2, 0, none⟩ = false
theorem RCells.touch {W W' : World} {r : Nat} (h : RCells W r) {S : Nat → Prop} (k : Touch W W' S) (hS : ∀ i, S i → r + 3 ≤ i) : RCells W' r := by
 have ka := k.cell (World.block_lt_of_cell? _ _ h.a) (fun e => by have := hS _ e; simp at this <;> omega)
 have kb := k.cell (World.block_lt_of_cell? _ _ h.b) (fun e => by have := hS _ e; simp at this <;> omega)
 have kc := k.cell (World.block_lt_of_cell? _ _ h.c) (fun e => by have := hS _ e; simp at this <;> omega)
 exact ⟨by rw [ka.1]; exact h.a, by rw [ka.2]; exact h.fa, by rw [kb.1]; exact h.b, by rw [kb.2]; exact h.fb, by rw [kc.1]; exact h.c, by rw [kc.2]; exact h.fc⟩
def XCells (W : World) (r : Nat) : Prop := (∃ p n c, W.cell? ⟨r, 0, none⟩ = some (.slice p n c)) ∧ (∃ x, W.cell? ⟨r + 1, 0, none⟩ = some (.int .i64 x)) ∧ W.cell? ⟨r + 2, 0, none⟩ = some (.bool true)
theorem XCells.touch {W W' : World} {r : Nat} (h : XCells W r) {S : Nat → Prop} (k : Touch W W' S) (hS : ∀ i, S i → r + 3 ≤ i) : XCells W' r := by
 obtain ⟨⟨p, n, c, ha⟩, ⟨x, hb⟩, hc⟩ := h
 have ka := k.cell (World.block_lt_of_cell? _ _ ha) (fun e => by have := hS _ e; simp at this <;> omega)
 have kb := k.cell (World.block_lt_of_cell? _ _ hb) (fun e => by have := hS _ e; simp at this <;> omega)
 have kc := k.cell (World.block_lt_of_cell? _ _ hc) (fun e => by have := hS _ e; simp at this <;> omega)
 exact ⟨⟨p, n, c, by rw [ka.1]; exact ha⟩, ⟨x, by rw [kb.1]; exact hb⟩, by rw [kc.1]; exact hc⟩
theorem RCells.fill {W : World} {r : Nat} (h : RCells W r) (va vb vc : Value) :
  ((((W.setCell ⟨r, 0, none⟩ va).setCell ⟨r + 1, 0, none⟩ vb).setCell ⟨r + 2, 0, none⟩ vc).cell? ⟨r, 0, none⟩ = some va ∧ (((W.setCell ⟨r, 0, none⟩ va).setCell ⟨r + 1, 0, none⟩ vb).setCell ⟨r + 2, 0, none⟩ vc).cell? ⟨r + 1, 0, none⟩ = some vb ∧
   (((W.setCell ⟨r, 0, none⟩ va).setCell ⟨r + 1, 0, none⟩ vb).setCell ⟨r + 2, 0, none⟩ vc).cell? ⟨r + 2, 0, none⟩ = some vc) ∧
  Touch W (((W.setCell ⟨r, 0, none⟩ va).setCell ⟨r + 1, 0, none⟩ vb).setCell ⟨r + 2, 0, none⟩ vc) (fun k => k = r ∨ k = r + 1 ∨ k = r + 2) := by
 have t1 : Touch W (W.setCell ⟨r, 0, none⟩ va) (fun k => k = r) := (Touch.grown (grown_set r 0 va)).mono (fun k e => by simpa using e)
 have t2 : Touch (W.setCell ⟨r, 0, none⟩ va) ((W.setCell ⟨r, 0, none⟩ va).setCell ⟨r + 1, 0, none⟩ vb) (fun k => k = r + 1) := (Touch.grown (grown_set (r + 1) 0 vb)).mono (fun k e => by simpa using e)
 have t3 : Touch ((W.setCell ⟨r, 0, none⟩ va).setCell ⟨r + 1, 0, none⟩ vb) (((W.setCell ⟨r, 0, none⟩ va).setCell ⟨r + 1, 0, none⟩ vb).setCell ⟨r + 2, 0, none⟩ vc) (fun k => k = r + 2) := (Touch.grown (grown_set (r + 2) 0 vc)).mono (fun k e => by simpa using e)
 have a1 := World.cell?_setCell_same _ _ va h.a
 have b0 : (W.setCell ⟨r, 0, none⟩ va).cell? ⟨r + 1, 0, none⟩ = some (.int .i64 0) := by rw [(t1.cell (World.block_lt_of_cell? _ _ h.b) (by simp)).1]; exact h.b
 have c0 : (W.setCell ⟨r, 0, none⟩ va).cell? ⟨r + 2, 0, none⟩ = some (.bool false) := by rw [(t1.cell (World.block_lt_of_cell? _ _ h.c) (by simp)).1]; exact h.c
 have b1 := World.cell?_setCell_same _ _ vb b0
 have a2 : ((W.setCell ⟨r, 0, none⟩ va).setCell ⟨r + 1, 0, none⟩ vb).cell? ⟨r, 0, none⟩ = some va := by rw [(t2.cell (World.block_lt_of_cell? _ _ a1) (by simp)).1]; exact a1
 have c1 : ((W.setCell ⟨r, 0, none⟩ va).setCell ⟨r + 1, 0, none⟩ vb).cell? ⟨r + 2, 0, none⟩ = some (.bool false) := by rw [(t2.cell (World.block_lt_of_cell? _ _ c0) (by simp)).1]; exact c0
 have c2 := World.cell?_setCell_same _ _ vc c1
 refine ⟨⟨?_, ?_, c2⟩, ((t1.mono (fun k e => .inl e)).trans (t2.mono (fun k e => .inr (.inl e)))).trans (t3.mono (fun k e => .inr (.inr e)))⟩
 ·rw [(t3.cell (World.block_lt_of_cell? _ _ a2) (by simp)).1]; exact a2
 ·rw [(t3.cell (World.block_lt_of_cell? _ _ b1) (by simp)).1]; exact b1
theorem results_unforced (tmps : Array Value) (W : World) (r : Nat) (h4 : tmps.getD 4 undef = .pointer (some ⟨r, 0, none⟩)) (h5 : tmps.getD 5 undef = .pointer (some ⟨r + 1, 0, none⟩)) (h6 : tmps.getD 6 undef = .pointer (some ⟨r + 2, 0, none⟩))
  {p : Option Addr} {n c : Nat} {x : Int} {y : Bool} (ha : W.cell? ⟨r, 0, none⟩ = some (.slice p n c)) (hb : W.cell? ⟨r + 1, 0, none⟩ = some (.int .i64 x)) (hc : W.cell? ⟨r + 2, 0, none⟩ = some (.bool y)) :
  (results Tryz.f67 tmps).run Tryz.prog W = .ok (.tuple #[.slice p n c, .int .i64 x, .bool y]) W := by
 have hr : Tryz.f67.results = #[.cell 4 24, .cell 5 2, .cell 6 4] := rfl
 unfold results
 rw [hr]
 rw [Array.getD_eq_getD_getElem?] at h4 h5 h6
 simp [go_sem, loadVar, h4, h5, h6, ha, hb, hc]
set_option maxRecDepth 20000 in
set_option maxHeartbeats 4000000 in
theorem unforced_any (b : List Nat) (hb : b.length ≤ 8) (hbm : Bnd b.length b) (hbm2 : ∀ x ∈ b, x < 2 ^ b.length) (t : Fm) (hw : t.wf) (hp : t.plain = true) (hN : t.enc.length ≤ 1000000) (pv v : Value) (w : World)
  (hpv : Ints w pv (zs b)) (hv : Nds w v t.enc) :
  Calls Tryz.prog 67 #[.agg #[.int .i64 b.length, pv], v] w fun e w' => (∃ p n c x, e = .returned (.tuple #[.slice p n c, .int .i64 x, .bool (!vldP b t)])) ∧ Keeps w w' := by
 have hvk := hv
 have hpk := hpv
 obtain ⟨pq, cq, rfl, _⟩ := hpv
 obtain ⟨pn, cn, rfl, _⟩ := hv
 rw [zs_length b] at *
 have HVI := hid (fun w2 (k : Keeps w w2) => variablesIn_any [t.enc] _ _ (NdsL.lit1 (hvk.keeps k)) (fun x hx => by rw [List.mem_singleton.1 hx]; exact List.all_eq_true.2 (okNd_enc hw)))
 rw [vmL_oneZ] at HVI
 have HVA := hid (fun vV w2 (k : Keeps w w2) (hvV : ∃ p n c, vV = Value.slice p n c) => valuations_any b _ vV w2 (hpk.keeps k) hb hbm2 hvV)
 have HFO := hid (fun vs vv w2 (k : Keeps w w2) (h1 : Bnd b.length vs) (h6 : vs.length = 6) (h3 : Ints w2 vv (zs vs)) => forced_any b vs hb hbm h1 h6 t hw hp hN _ vv _ w2 (hpk.keeps k) h3 (hvk.keeps k))
 have HAL := hid (fun w2 (k : Keeps w w2) => posetAll_any b _ w2 (hpk.keeps k) hb)
 refine (callsIn_wide (n := 9)).1 ?_
 refine callsIn_of_wp_marks Tryz.func67 rfl trivial ?_ rfl
 simp only [Tryz.ntmps67, List.size_toArray, List.length_cons, List.length_nil, Nat.reduceAdd, Nat.reduceSub, Array.replicate_succ, Array.replicate_zero, List.push_toArray, List.append_toArray, List.nil_append, List.cons_append]
 obtain ⟨w1, hw1⟩ : ∃ w1, w1 = w.alloc (.cells #[.int .i64 b.length, .slice pq b.length cq] 26) := ⟨_, rfl⟩
 obtain ⟨w2, hw2⟩ : ∃ w2, w2 = w1.alloc (.cells #[.slice pn t.enc.length cn] 31) := ⟨_, rfl⟩
 obtain ⟨w3, hw3⟩ : ∃ w3, w3 = w2.alloc (.cells #[.slice none 0 0] 24) := ⟨_, rfl⟩
 obtain ⟨w4, hw4⟩ : ∃ w4, w4 = w3.alloc (.cells #[.int .i64 0] 2) := ⟨_, rfl⟩
 obtain ⟨w5, hw5⟩ : ∃ w5, w5 = w4.alloc (.cells #[.bool false] 4) := ⟨_, rfl⟩
 have k1 : Keeps w w1 := by rw [hw1]; exact (Keeps.refl w).alloc _
 have k2 : Keeps w1 w2 := by rw [hw2]; exact (Keeps.refl w1).alloc _
 have k3 : Keeps w2 w3 := by rw [hw3]; exact (Keeps.refl w2).alloc _
 have k4 : Keeps w3 w4 := by rw [hw4]; exact (Keeps.refl w3).alloc _
 have k5 : Keeps w4 w5 := by rw [hw5]; exact (Keeps.refl w4).alloc _
 have s1 : w1.heap.size = w.heap.size + 1 := by rw [hw1]; simp
 have s2 : w2.heap.size = w.heap.size + 2 := by rw [hw2]; simp; omega
 have s3 : w3.heap.size = w.heap.size + 3 := by rw [hw3]; simp; omega
 have s4 : w4.heap.size = w.heap.size + 4 := by rw [hw4]; simp; omega
 have hb5 : UCells w w5 w.heap.size b.length (.slice pq b.length cq) (.slice pn t.enc.length cn) := by
  obtain ⟨x0, x1⟩ := BoxF.made w b.length (.slice pq b.length cq) 26
  have y2 : w2.cell? ⟨w.heap.size + 1, 0, none⟩ = some (.slice pn t.enc.length cn) := by rw [hw2, ← s1]; simp
  rw [← hw1] at x0 x1
  have kk := k2.trans (k3.trans (k4.trans k5))
  exact ⟨k1.trans kk, kk.cell x0, kk.cell x1, (k3.trans (k4.trans k5)).cell y2⟩
 have hr5 : RCells w5 (w.heap.size + 2) := by
  have a1 : w3.cell? ⟨w.heap.size + 2, 0, none⟩ = some (.slice none 0 0) := by rw [hw3, ← s2]; simp
  have a2 : w3.frozen? ⟨w.heap.size + 2, 0, none⟩ = false := by rw [hw3, ← s2]; simp
  have b1 : w4.cell? ⟨w.heap.size + 2 + 1, 0, none⟩ = some (.int .i64 0) := by rw [hw4, show w.heap.size + 2 + 1 = w3.heap.size by omega]; simp
  have b2 : w4.frozen? ⟨w.heap.size + 2 + 1, 0, none⟩ = false := by rw [hw4, show w.heap.size + 2 + 1 = w3.heap.size by omega]; simp
  have c1 : w5.cell? ⟨w.heap.size + 2 + 2, 0, none⟩ = some (.bool false) := by rw [hw5, show w.heap.size + 2 + 2 = w4.heap.size by omega]; simp
  have c2 : w5.frozen? ⟨w.heap.size + 2 + 2, 0, none⟩ = false := by rw [hw5, show w.heap.size + 2 + 2 = w4.heap.size by omega]; simp
  have k45 := k4.trans k5
  exact ⟨k45.cell a1, by rw [k45.both.2 _ 0 (World.block_lt_of_cell? _ _ a1)]; exact a2, k5.cell b1, by rw [k5.both.2 _ 0 (World.block_lt_of_cell? _ _ b1)]; exact b2, c1, c2⟩
 clear k1 k2 k3 k4 k5
 gi_wp2
 rw [← hw1, ← hw2, ← hw3, ← hw4, ← hw5]
 obtain ⟨wA, hwA⟩ : ∃ wA, wA = w5 := ⟨_, rfl⟩
 rw [← hwA] at hb5 hr5 ⊢
 clear hwA hw5 hw4 hw3 hw2 hw1 s1 s2 s3 s4
 refine wpIn_wide.2 ?_
 have hbd := hb5.touch (Touch.of_keeps (Keeps.refl wA).drew (fun _ => False)) (fun _ e => e.elim) (Nat.le_refl _)
 have hrd := hr5.touch (Touch.of_keeps (Keeps.refl wA).drew (fun _ => False)) (fun _ e => e.elim)
 have hbe : UCells w (wA.drew.alloc (.cells #[.slice pn t.enc.length cn] 31)) w.heap.size b.length (.slice pq b.length cq) (.slice pn t.enc.length cn) := hbd.touch (Touch.of_keeps ((Keeps.refl wA.drew).alloc _) (fun _ => False)) (fun _ e => e.elim) (Nat.le_refl _)
 have hre := hrd.touch (Touch.of_keeps ((Keeps.refl wA.drew).alloc (.cells #[.slice pn t.enc.length cn] 31)) (fun _ => False)) (fun _ e => e.elim)
 obtain ⟨ka, a0, a1, a2⟩ := hb5
 obtain ⟨kd, d0, d1, d2⟩ := hbd
 obtain ⟨ke, e0, e1, e2⟩ := hbe
 have HVI1 := hid (HVI.out _ kd)
 go_region_held3 (fun w' => w'.cell? ⟨w.heap.size, 0, none⟩ = some (.int .i64 b.length) ∧ w'.cell? ⟨w.heap.size, 1, none⟩ = some (.slice pq b.length cq) ∧ w'.cell? ⟨w.heap.size + 1, 0, none⟩ = some (.slice pn t.enc.length cn)) (first | exact ⟨a0, a1, a2⟩ | exact ⟨d0, d1, d2⟩ | exact ⟨e0, e1, e2⟩ | exact ⟨f0, f1, f2⟩ | exact ⟨g0, g1, g2⟩) (first
  | (go_at_call 66; refine HVI1.out.mono ?_; rintro e w6 ⟨vV, rfl, hvV, k6⟩; have f0 := k6.cell e0; have f1 := k6.cell e1; have f2 := k6.cell e2; have kf := ke.trans k6; obtain ⟨pvv, qvv, rfl, -, -, -⟩ := At.of_own hvV)
  | (go_at_call 131; refine (HVA.out _ _ kf ⟨_, _, _, rfl⟩).mono ?_; rintro e w7 ⟨bv, bu, vU, rfl, hbv, hbu, cv, cu, hvU, k7⟩; have g0 := k7.cell f0; have g1 := k7.cell f1; have g2 := k7.cell f2))
 have kA7 := kf.trans k7
 have hr7 : RCells w7 (w.heap.size + 2) := (hre.touch (Touch.of_keeps k6 (fun _ => False)) (fun _ e => e.elim)).touch (Touch.of_keeps k7 (fun _ => False)) (fun _ e => e.elim)
 have hvv7 := hvV.keeps k7
 have hlo : (wA.drew.alloc (.cells #[.slice pn t.enc.length cn] 31)).heap.size ≤ w6.heap.size := k6.size
 have hlA : w.heap.size + 5 ≤ (wA.drew.alloc (.cells #[.slice pn t.enc.length cn] 31)).heap.size := by
  have h := World.block_lt_of_cell? _ _ hre.c
  simp only at h
  omega
 generalize (wA.drew.alloc (.cells #[.slice pn t.enc.length cn] 31)) = wB at *
 gi_wp2
 have hbv7 := World.block_lt_of_cell? _ _ cv
 have hbu7 := World.block_lt_of_cell? _ _ cu
 have hvb := hvv7.len
 have hub := hvU.len
 have hs67 := k7.size
 simp only at hbv7 hbu7
 have hu7 : UCells w w7 w.heap.size b.length (.slice pq b.length cq) (.slice pn t.enc.length cn) := ⟨kA7, g0, g1, g2⟩
 refine wp_rangeFunc_st (gf := 167) (lb := #[.pointer (some ⟨bv, 0, none⟩), .pointer (some ⟨bu, 0, none⟩)]) rfl enters_val1 (fun x : (Option Addr × Nat × Nat) × List Nat => .slice x.1.1 x.1.2.1 x.1.2.2) rfl
  (fun x W => Ints W (.slice x.1.1 x.1.2.1 x.1.2.2) (zs x.2) ∧ x.2.length = 6 ∧ Bnd b.length x.2) (fun x A B l h hg hl => ⟨h.1.row hg hl, h.2⟩) (fun x => okF b t x.2) (vldP b t) (fun k => k = w.heap.size + 2 ∨ k = w.heap.size + 2 + 1 ∨ k = w.heap.size + 2 + 2) (fun k hk => by omega)
  (fun W => UCells w W w.heap.size b.length (.slice pq b.length cq) (.slice pn t.enc.length cn) ∧ RCells W (w.heap.size + 2)) (fun W => UCells w W w.heap.size b.length (.slice pq b.length cq) (.slice pn t.enc.length cn) ∧ XCells W (w.heap.size + 2))
  (fun A B h k => ⟨h.1.touch k (fun i hi => by omega) (Nat.le_refl _), h.2.touch k (fun i hi => by omega)⟩) (fun A B h k => ⟨h.1.touch k (fun i hi => by omega) (Nat.le_refl _), h.2.touch k (fun i hi => by omega)⟩) ⟨hu7, hr7⟩
  (fun x => { tmps := #[.agg #[.int .i64 b.length, .slice pq b.length cq], .slice pn t.enc.length cn, .pointer (some ⟨w.heap.size, 0, none⟩), .pointer (some ⟨w.heap.size + 1, 0, none⟩), .pointer (some ⟨w.heap.size + 1 + 1, 0, none⟩), .pointer (some ⟨w.heap.size + 1 + 1 + 1, 0, none⟩), .pointer (some ⟨w.heap.size + 1 + 1 + 1 + 1, 0, none⟩),
   .slice x.1.1 x.1.2.1 x.1.2.2, undef, .agg #[.int .i64 b.length, .slice pq b.length cq], .slice pn t.enc.length cn, .slice (some ⟨wA.heap.size, 0, none⟩) 1 1, .slice pvv (zs (varL t)).length qvv, .func (.func 167) #[] #[.pointer (some ⟨bv, 0, none⟩), .pointer (some ⟨bu, 0, none⟩)],
   .slice x.1.1 x.1.2.1 x.1.2.2, undef, undef, undef, undef, undef, undef, undef, undef, undef, undef, undef], defers := [] }) ?seq ?assign ?body ?done ?stop
 case seq =>
  intro J Jx W1 hs1 hk1 hJ hJx hY hj
  refine callsIn_wide.2 ?_
  refine valuations_1_any (fun A => A.cell? ⟨bv, 0, none⟩ = some (.slice pvv (zs (varL t)).length qvv) ∧ A.cell? ⟨bu, 0, none⟩ = some vU ∧ OwnI A wB.heap.size (.slice pvv (zs (varL t)).length qvv) (zs (varL t)) ∧ OwnI A w6.heap.size vU (zs (upL b))) J Jx (fun k => k = w.heap.size + 2 ∨ k = w.heap.size + 2 + 1 ∨ k = w.heap.size + 2 + 2) (w7.heap.size + 1) bv bu b.length
   (.slice pvv (zs (varL t)).length qvv) vU (varL t) (upL b) (okF b t) W1 ?_ ?_ (fun A C h k => hJ A C h (k.mono (fun i hi => by omega))) ?_ (fun k hk => by omega) (by omega) (fun x hx => varL_lt hx) (fun x hx => upK_lt hx) ⟨hk1.cell cv, hk1.cell cu, hvv7.keeps hk1, hvU.keeps hk1⟩ hj
  ·rintro A ⟨x1, x2, x3, x4⟩
   have hvl : (zs (varL t)).length ≤ 2147483648 := by
    rw [zs_length]
    have := List.length_filter_le (fun j => (vm t.enc).testBit j) (List.range 6)
    unfold varL lowB
    simp at this ⊢; omega
   have hul : (zs (upL b)).length ≤ 2147483648 := by
    rw [zs_length]
    have h1 := upK_len b (2 ^ b.length)
    have h2 := two8 hb
    unfold upL; omega
   exact ⟨x1, x2, x3.ints hvl, x4.ints hul⟩
  ·rintro A C ⟨x1, x2, x3, x4⟩ k
   refine ⟨?_, ?_, x3.touch k (fun i hi e => by have := hvb i hi; omega), x4.touch k (fun i hi e => by have := hub i hi; omega)⟩
   ·rw [(k.cell (World.block_lt_of_cell? _ _ x1) (fun e => by simp only at e; omega)).1]; exact x1
   ·rw [(k.cell (World.block_lt_of_cell? _ _ x2) (fun e => by simp only at e; omega)).1]; exact x2
  ·intro vs vv W hJW hi h6 hbn
   obtain ⟨p, cap, rfl, _⟩ := id hi
   exact YieldAt.wideDepth 5 (hY ((p, (zs vs).length, cap), vs) W hJW ⟨hi, h6, hbn⟩)
 case assign =>
  intro l x W K hK
  gi_wp2
  exact hK
 case body =>
  rintro l x W ⟨hu, hr⟩ ⟨hi, h6, hbn⟩
  have d0 := hu.c0
  have d1 := hu.c1
  have d2 := hu.ca
  have HF1 := hid (HFO.out x.2 _ W hu.kp hbn h6 hi)
  have HOK : Hid (okF b t x.2 = (((frcP b x.2 t : Nat) : Int) == ((2 ^ b.length - 1 : Nat) : Int))) := hid (by unfold okF; rw [Bool.eq_iff_iff]; simp only [beq_iff_eq]; omega)
  generalize frcP b x.2 t = fr at *
  gi_wp2
  refine ⟨trivial, ?_⟩
  refine (CallsIn.inRound l (callsIn_wide.2 HF1.out)).mono ?_; rintro e wa ⟨rfl, ka⟩
  replace d0 := ka.cell d0
  replace d1 := ka.cell d1
  gi_wp2
  refine ⟨trivial, ?_⟩
  refine (CallsIn.inRound l (callsIn_wide.2 (HAL.out wa (hu.kp.trans ka)))).mono ?_; rintro e wb ⟨rfl, kb⟩
  have kab := ka.trans kb
  have hub2 := hu.touch (Touch.of_keeps kab (fun _ => False)) (fun _ e => e.elim) (Nat.le_refl _)
  have hrb := hr.touch (Touch.of_keeps kab (fun _ => False)) (fun _ e => e.elim)
  have htb : Touch W wb (fun k => k = w.heap.size + 2 ∨ k = w.heap.size + 2 + 1 ∨ k = w.heap.size + 2 + 2) := Touch.of_keeps kab _
  cases hc : (((fr : Nat) : Int) == ((2 ^ b.length - 1 : Nat) : Int))
  ·have hne : (((fr : Nat) : Int) != ((2 ^ b.length - 1 : Nat) : Int)) = true := by simp [bne, hc]
   have hok := HOK.out
   rw [hc] at hok
   have HCL := hid (cloneI_any (zs x.2) _ wb (hi.keeps kab))
   gi_wp2
   refine ⟨trivial, ?_⟩
   refine (CallsIn.inRound l (callsIn_wide.2 HCL.out)).mono ?_; rintro e wc ⟨v5, rfl, hv5, k5⟩
   obtain ⟨p5, q5, rfl, -, -, -⟩ := At.of_own hv5
   have hrc := hrb.touch (Touch.of_keeps k5 (fun _ => False)) (fun _ e => e.elim)
   have huc := hub2.touch (Touch.of_keeps k5 (fun _ => False)) (fun _ e => e.elim) (Nat.le_refl _)
   obtain ⟨⟨y1, y2, y3⟩, hft⟩ := hrc.fill (.slice p5 (zs x.2).length q5) (.int .i64 (fr : Int)) (.bool true)
   have hfin : bodyQ (okF b t x.2) (fun W => UCells w W w.heap.size b.length (.slice pq b.length cq) (.slice pn t.enc.length cn) ∧ RCells W (w.heap.size + 2)) (fun W => UCells w W w.heap.size b.length (.slice pq b.length cq) (.slice pn t.enc.length cn) ∧ XCells W (w.heap.size + 2)) (fun k => k = w.heap.size + 2 ∨ k = w.heap.size + 2 + 1 ∨ k = w.heap.size + 2 + 2) W .ret
     (((wc.setCell ⟨w.heap.size + 2, 0, none⟩ (.slice p5 (zs x.2).length q5)).setCell ⟨w.heap.size + 2 + 1, 0, none⟩ (.int .i64 (fr : Int))).setCell ⟨w.heap.size + 2 + 2, 0, none⟩ (.bool true)) :=
    ⟨hok, ⟨huc.touch hft (fun i hi => by omega) (Nat.le_refl _), ⟨_, _, _, y1⟩, ⟨_, y2⟩, y3⟩, (htb.trans (Touch.of_keeps k5 _)).trans hft⟩
   have z1 : wc.cell? ⟨w.heap.size + 1 + 1, 0, none⟩ = some (.slice none 0 0) := hrc.a
   have z2 : wc.frozen? ⟨w.heap.size + 1 + 1, 0, none⟩ = false := hrc.fa
   have z3 : wc.cell? ⟨w.heap.size + 1 + 1 + 1, 0, none⟩ = some (.int .i64 0) := hrc.b
   have z4 : wc.frozen? ⟨w.heap.size + 1 + 1 + 1, 0, none⟩ = false := hrc.fb
   have z5 : wc.cell? ⟨w.heap.size + 1 + 1 + 1 + 1, 0, none⟩ = some (.bool false) := hrc.c
   have z6 : wc.frozen? ⟨w.heap.size + 1 + 1 + 1 + 1, 0, none⟩ = false := hrc.fc
   have HFIN := hid hfin; clear hfin y1 y2 y3 hft
   generalize (zs x.2).length = xl at *
   gi_wp2
   exact HFIN.out
  ·have hne : (((fr : Nat) : Int) != ((2 ^ b.length - 1 : Nat) : Int)) = false := by simp [bne, hc]
   have hok := HOK.out
   rw [hc] at hok
   gi_wp2
   exact ⟨hok, ⟨hub2, hrb⟩, htb⟩
 case done =>
  rintro W hres ⟨hu, hr⟩ hD
  obtain ⟨⟨y1, y2, y3⟩, hft⟩ := hr.fill (.slice none 0 0) (.int .i64 0) (.bool false)
  have hul := hu.touch hft (fun i hi => by omega) (Nat.le_refl _)
  have hDl : (((W.setCell ⟨w.heap.size + 2, 0, none⟩ (.slice none 0 0)).setCell ⟨w.heap.size + 2 + 1, 0, none⟩ (.int .i64 0)).setCell ⟨w.heap.size + 2 + 2, 0, none⟩ (.bool false)).heap[w7.heap.size]? = some (.deferred (some [])) := by
   rw [hft.block _ (Array.getElem?_eq_some_iff.1 hD).1 (fun e => by omega)]; exact hD
  have z1 : W.cell? ⟨w.heap.size + 1 + 1, 0, none⟩ = some (.slice none 0 0) := hr.a
  have z2 : W.frozen? ⟨w.heap.size + 1 + 1, 0, none⟩ = false := hr.fa
  have z3 : W.cell? ⟨w.heap.size + 1 + 1 + 1, 0, none⟩ = some (.int .i64 0) := hr.b
  have z4 : W.frozen? ⟨w.heap.size + 1 + 1 + 1, 0, none⟩ = false := hr.fb
  have z5 : W.cell? ⟨w.heap.size + 1 + 1 + 1 + 1, 0, none⟩ = some (.bool false) := hr.c
  have z6 : W.frozen? ⟨w.heap.size + 1 + 1 + 1 + 1, 0, none⟩ = false := hr.fc
  gi_wp2
  refine ⟨by simp, .inl ⟨_, _, rfl, run_takeDeferred hDl, ?_⟩⟩
  obtain ⟨W2, hW2⟩ : ∃ W2, W2 = (((W.setCell ⟨w.heap.size + 2, 0, none⟩ (.slice none 0 0)).setCell ⟨w.heap.size + 2 + 1, 0, none⟩ (.int .i64 0)).setCell ⟨w.heap.size + 2 + 2, 0, none⟩ (.bool false)) := ⟨_, rfl⟩
  rw [← hW2] at y1 y2 y3 hul hDl ⊢
  have hput : Touch W2 (W2.putObj w7.heap.size (.deferred none)) (fun k => k = w7.heap.size) := (Touch.grown (grownBy_putObj' W2 w7.heap.size _)).mono (fun k e => by simpa using e)
  have q1 : (W2.putObj w7.heap.size (.deferred none)).cell? ⟨w.heap.size + 2, 0, none⟩ = some (.slice none 0 0) := by rw [(hput.cell (World.block_lt_of_cell? _ _ y1) (fun e => by simp only at e; omega)).1]; exact y1
  have q2 : (W2.putObj w7.heap.size (.deferred none)).cell? ⟨w.heap.size + 2 + 1, 0, none⟩ = some (.int .i64 0) := by rw [(hput.cell (World.block_lt_of_cell? _ _ y2) (fun e => by simp only at e; omega)).1]; exact y2
  have q3 : (W2.putObj w7.heap.size (.deferred none)).cell? ⟨w.heap.size + 2 + 2, 0, none⟩ = some (.bool false) := by rw [(hput.cell (World.block_lt_of_cell? _ _ y3) (fun e => by simp only at e; omega)).1]; exact y3
  have hU := hul.touch hput (fun i hi => by omega) (Nat.le_refl _)
  exact ⟨_, results_unforced _ _ (w.heap.size + 2) rfl rfl rfl q1 q2 q3, ⟨none, 0, 0, 0, by rw [hres]; rfl⟩, hU.kp⟩
 case stop =>
  rintro W hres ⟨hu, hx⟩ hD
  gi_wp2
  obtain ⟨⟨p, n, c, xa⟩, ⟨x, xb⟩, xc⟩ := hx
  refine ⟨by simp, .inl ⟨_, _, rfl, run_takeDeferred hD, ?_⟩⟩
  have hput : Touch W (W.putObj w7.heap.size (.deferred none)) (fun k => k = w7.heap.size) := (Touch.grown (grownBy_putObj' W w7.heap.size _)).mono (fun k e => by simpa using e)
  have hX : XCells (W.putObj w7.heap.size (.deferred none)) (w.heap.size + 2) := XCells.touch (W := W) ⟨⟨p, n, c, xa⟩, ⟨x, xb⟩, xc⟩ hput (fun i hi => by omega)
  have hU := hu.touch hput (fun i hi => by omega) (Nat.le_refl _)
  obtain ⟨⟨p, n, c, xa⟩, ⟨x, xb⟩, xc⟩ := hX
  exact ⟨_, results_unforced _ _ (w.heap.size + 2) rfl rfl rfl xa xb xc, ⟨p, n, c, x, by rw [hres]; rfl⟩, hU.kp⟩
set_option maxRecDepth 20000 in
theorem isValid_any (b : List Nat) (hb : b.length ≤ 8) (hbm : Bnd b.length b) (hbm2 : ∀ x ∈ b, x < 2 ^ b.length) (t : Fm) (hw : t.wf) (hp : t.plain = true) (hN : t.enc.length ≤ 1000000) (pv v : Value) (w : World)
  (hpv : Ints w pv (zs b)) (hv : Nds w v t.enc) :
  Calls Tryz.prog 21 #[.agg #[.int .i64 b.length, pv], v] w fun e w' => e = .returned (.bool (vldR b t)) ∧ Keeps w w' := by
 have kA := (Keeps.refl w).alloc (.cells #[.int .i64 b.length, pv] 26)
 obtain ⟨c0, c1⟩ := BoxF.made w b.length pv 26
 have HF := hid (fun wz (kz : Keeps w wz) => unforced_any b hb hbm hbm2 t hw hp hN pv v wz (hpv.keeps kz) (hv.keeps kz))
 rw [vldP_eq] at HF
 obtain ⟨pq, cq, rfl, _⟩ := hpv
 obtain ⟨pn, cn, rfl, _⟩ := hv
 rw [zs_length b] at *
 clear hbm hbm2 hw hp hN
 generalize vldR b t = res at *
 generalize b.length = n at *
 generalize t.enc.length = nn at *
 go_enter Tryz.func21, Tryz.ntmps21
 go_wp2_with fail
 refine (HF.out _ kA).mono ?_; rintro e w2 ⟨⟨p, m, c, x, rfl⟩, k2⟩
 go_wp2_with fail
 go_ret
 exact ⟨ret_bool (by simp), kA.trans k2⟩
end Go.Proofs.YtfmmajgkjkmghaaGreatDoor
namespace Go.Proofs.YtfmmajgkjkmghaaGreatDoor
open Go.RowKit
set_option maxRecDepth 20000 in
theorem fits_any (n k : Nat) (w : World) (h1 : 1 ≤ n) (hn : n ≤ 256) (hk : k ≤ 1000000) :
  Calls Tryz.prog 65 #[.int .i64 n, .int .i64 k] w fun e w' => e = .returned (.bool (decide (n ^ k ≤ 4096))) ∧ w = w' := by
 have HS : Hid (∀ i, n ^ (i + 1) = n ^ i * n) := hid fun i => Nat.pow_succ ..
 have HM : Hid (∀ i, i ≤ k → n ^ i ≤ n ^ k) := hid fun i hi => Nat.pow_le_pow_right h1 hi
 have H0 : Hid (n ^ 0 = 1) := hid rfl
 obtain ⟨PW, hPW⟩ : ∃ PW : Nat → Nat, ∀ i, PW i = n ^ i := ⟨_, fun _ => rfl⟩
 simp only [← hPW] at *
 clear hPW
 go_enter Tryz.func65, Tryz.ntmps65
 go_wp2_with fail
 go_loopw [5, 7] (fun s5 s7 wr => ∃ i : Nat, i ≤ k ∧ s7 = .int .i64 i ∧ s5 = .int .i64 (PW i : Nat) ∧ PW i ≤ 4096 ∧ wr = w) (fun _ s7 _ => k - (intOf s7).toNat)
 case atStart => exact ⟨0, by omega, rfl, by rw [H0.out]; rfl, by rw [H0.out]; omega, rfl⟩
 case round =>
  obtain ⟨i, hi, rfl, rfl, hle, rfl⟩ := hrel
  by_cases hlt : i < k
  ·have hlt' : (i : Int) < k := by omega
   have hst := HS.out i
   have hmb : PW i * n ≤ 4096 * 256 := Nat.mul_le_mul hle hn
   have hmc : PW i * n ≤ 1048576 := by omega
   have hm : ((PW i : Nat) : Int) * (n : Int) ≤ 1048576 := by rw [← Int.natCast_mul]; omega
   have hm0 : 0 ≤ ((PW i : Nat) : Int) * (n : Int) := Int.mul_nonneg (by omega) (by omega)
   by_cases h4 : PW (i + 1) ≤ 4096
   ·have h4' : ¬ (4096 : Int) < ((PW i : Nat) : Int) * (n : Int) := by rw [← Int.natCast_mul, ← hst]; omega
    have HST := hid hst; clear hst
    clear hmb hmc
    go_wp2_with fail
    go_roundw
    case rel => exact ⟨i + 1, by omega, by go_num, by rw [HST.out, Int.natCast_mul], h4, trivial⟩
    case measure => simp [intOf] <;> omega
   ·have h4' : (4096 : Int) < ((PW i : Nat) : Int) * (n : Int) := by rw [← Int.natCast_mul, ← hst]; omega
    have hk4 : ¬ PW k ≤ 4096 := by have := HM.out (i + 1) (by omega); omega
    have HD : Hid (decide (PW k ≤ 4096) = false) := hid (decide_eq_false hk4)
    clear hst hmb hmc
    go_wp2_with fail
    go_ret
    exact ⟨ret_bool HD.out.symm, rfl⟩
  ·have e : k = i := by omega
   subst e
   have hlt' : ¬ (k : Int) < (k : Int) := by omega
   have HD : Hid (decide (PW k ≤ 4096) = true) := hid (decide_eq_true hle)
   go_wp2_with fail
   go_ret
   exact ⟨ret_bool (by first | rfl | exact HD.out.symm), rfl⟩
end Go.Proofs.YtfmmajgkjkmghaaGreatDoor
namespace Go.Proofs.YtfmmajgkjkmghaaGreatDoor
open Go.RowKit
def capB (b : List Nat) (t : Fm) : Bool := decide ((upL b).length ^ (varL t).length ≤ 4096)
theorem Pos.isPos {b : List Nat} (hp : Pos b) : isPos b.length (zs b) = true := by
 obtain ⟨h8, hb, hr, ht, ha⟩ := hp
 refine (isPos_iff _ _).2 ⟨b, rfl, rfl, h8, hb, ?_⟩
 unfold posB
 rw [hr, ht, ha]; rfl
theorem allPlainX_1 (x : List Nd) (u : Value) (w : World) (hu : Nds w u x) : Calls Tryz.prog 127 #[u] w fun e w' => e = .returned (.bool (!plainL x)) ∧ Keeps w w' := by
 have HP := hid (isPlain_any x u w hu)
 obtain ⟨p, n, c, rfl⟩ := hu.shape
 go_enter Tryz.func127, Tryz.ntmps127
 go_wp2_with fail
 refine HP.out.mono ?_; rintro e w2 ⟨rfl, k2⟩
 go_wp2_with fail
 go_ret
 exact ⟨rfl, k2⟩
theorem enters_allPlainX : Enters 127 := fun _ _ => by kernel_rfl
theorem allPlainX (l : List (List Nd)) (v : Value) (w : World) (hv : NdsL w v l) : Calls Tryz.prog 64 #[v] w fun e w' => e = .returned (.bool (!(l.any fun x => !plainL x))) ∧ Keeps w w' := by
 have HC := hid (containsFuncL (fun x => !plainL x) 127 #[] l v w hv enters_allPlainX (fun x u w1 _ _ h => allPlainX_1 x u w1 h))
 obtain ⟨p, cap, rfl, _⟩ := hv
 go_enter Tryz.func64, Tryz.ntmps64
 go_wp2_with fail
 refine HC.out.mono ?_; rintro e w2 ⟨rfl, k2⟩
 go_wp2_with fail
 go_ret
 exact ⟨rfl, k2⟩
set_option maxRecDepth 20000 in
set_option maxHeartbeats 1000000 in
theorem posetSearchCode_any (b : List Nat) (hp : Pos b) (t : Fm) (hw : t.wf) (hf : isFm t.enc = true) (hpl : t.plain = true) (pv v : Value) (w : World) (hpv : Ints w pv (zs b)) (hv : NdsL w v [t.enc]) :
  Calls Tryz.prog 20 #[.agg #[.int .i64 b.length, pv], v] w fun e w' => e = .returned (.int .i64 (if capB b t then 0 else 3)) ∧ Keeps w w' := by
 have kA := (Keeps.refl w).alloc (.cells #[.int .i64 b.length, pv] 26)
 obtain ⟨c0, c1⟩ := BoxF.made w b.length pv 26
 have HP := hid (fun wz (kz : Keeps w wz) => isPoset_any b.length (zs b) pv wz (hpv.keeps kz))
 rw [hp.isPos] at HP
 have HF := hid (fun wz (kz : Keeps w wz) => areFormulas_any [t.enc] v wz (hv.keeps kz))
 rw [show allFm [t.enc] = true by unfold allFm; simp [hf]] at HF
 have HL := hid (fun wz (kz : Keeps w wz) => allPlainX [t.enc] v wz (hv.keeps kz))
 rw [show (!([t.enc].any fun x => !plainL x)) = true by simp [plainL_encP, hpl]] at HL
 have HU := hid (fun wz (kz : Keeps w wz) => upsets_any b pv wz (hpv.keeps kz) hp.1 (bnd_mem hp.2.1))
 have HV := hid (fun wz (kz : Keeps w wz) => variablesIn_any [t.enc] v wz (hv.keeps kz) (fun x hx => by rw [List.mem_singleton.1 hx]; exact List.all_eq_true.2 (okNd_enc hw)))
 rw [vmL_oneZ] at HV
 have hul : (upL b).length ≤ 256 := Nat.le_trans (upK_len b _) (two8 hp.1)
 have hvl : (varL t).length ≤ 6 := by
  have := List.length_filter_le (fun j => (vm t.enc).testBit j) (List.range 6)
  unfold varL lowB
  simpa using this
 have HT := hid (fun wz => fits_any (upL b).length (varL t).length wz (upL_pos b) hul (by omega))
 have HC : Hid (capB b t = decide ((upL b).length ^ (varL t).length ≤ 4096)) := hid rfl
 rw [← HC.out] at HT
 have hUL := zs_length (upL b)
 have hVL := zs_length (varL t)
 obtain ⟨pq, cq, rfl, _⟩ := hpv
 obtain ⟨pn, nn, cn, rfl⟩ : ∃ p n c, v = .slice p n c := by obtain ⟨_, _, e, _⟩ := hv; exact ⟨_, _, _, e⟩
 rw [zs_length b] at *
 clear hp hw hf hpl HC hv
 generalize capB b t = r at *
 generalize upL b = U at *
 generalize varL t = V at *
 generalize b.length = n at *
 go_enter Tryz.func20, Tryz.ntmps20
 go_wp2_with fail
 refine (HP.out _ kA).mono ?_; rintro e w2 ⟨rfl, k2⟩
 replace c0 := k2.cell c0
 replace c1 := k2.cell c1
 have KW2 := hid (kA.trans k2)
 go_wp2_with fail
 refine (HF.out _ KW2.out).mono ?_; rintro e w3 ⟨rfl, k3⟩
 replace c0 := k3.cell c0
 replace c1 := k3.cell c1
 have KW3 := hid (KW2.out.trans k3)
 go_wp2_with fail
 refine (HL.out _ KW3.out).mono ?_; rintro e w4 ⟨rfl, k4⟩
 replace c0 := k4.cell c0
 replace c1 := k4.cell c1
 have KW4 := hid (KW3.out.trans k4)
 go_wp2_with fail
 refine (HU.out _ KW4.out).mono ?_; rintro e w5 ⟨vu, rfl, hvu, k5⟩
 obtain ⟨pu, qu, rfl, -, -, -⟩ := At.of_own hvu
 rw [hUL] at *
 have KW5 := hid (KW4.out.trans k5)
 clear hvu c0 c1
 go_wp2_with fail
 refine (HV.out _ KW5.out).mono ?_; rintro e w6 ⟨vv, rfl, hvv, k6⟩
 obtain ⟨pw, qw, rfl, -, -, -⟩ := At.of_own hvv
 rw [hVL] at *
 have KW6 := hid (KW5.out.trans k6)
 clear hvv
 go_wp2_with fail
 refine (HT.out _).mono ?_; rintro e w' ⟨rfl, rfl⟩
 cases r
 ·go_wp2_with fail
  go_ret
  exact ⟨rfl, KW6.out⟩
 ·go_wp2_with fail
  go_ret
  exact ⟨rfl, KW6.out⟩
set_option maxRecDepth 20000 in
theorem implIsPosetValid_any (b : List Nat) (hp : Pos b) (t : Fm) (hw : t.wf) (hf : isFm t.enc = true) (hln : t.enc.length ≤ 40) (hpl : t.plain = true) (pv v : Value) (w : World) (hpv : Ints w pv (zs b)) (hv : Nds w v t.enc) :
  Calls Tryz.prog 9 #[.agg #[.int .i64 b.length, pv], v] w fun e w' => e = .returned (.tuple #[.bool (capB b t && vldR b t), .int .i64 (if capB b t then 0 else 3)]) ∧ Keeps w w' := by
 have kA := (Keeps.refl w).alloc (.cells #[.int .i64 b.length, pv] 26)
 obtain ⟨c0, c1⟩ := BoxF.made w b.length pv 26
 have hls : NdsL ((w.alloc (.cells #[.int .i64 b.length, pv] 26)).alloc (.cells #[v] 31)) (.slice (some ⟨w.heap.size + 1, 0, none⟩) 1 1) [t.enc] := by
  have h := NdsL.lit1 (hv.keeps kA)
  rwa [World.size_alloc] at h
 have HC := hid (posetSearchCode_any b hp t hw hf hpl pv _ _ ((hpv.keeps kA).keeps ((Keeps.refl _).alloc _)) hls)
 have HI := hid (fun wz (kz : Keeps w wz) => isValid_any b hp.1 hp.2.1 (bnd_mem hp.2.1) t hw hpl (by omega) pv v wz (hpv.keeps kz) (hv.keeps kz))
 obtain ⟨pq, cq, rfl, _⟩ := hpv
 obtain ⟨pn, cn, rfl, _⟩ := hv
 rw [zs_length b] at *
 clear hp hw hf hpl hln hls
 generalize capB b t = r at *
 generalize vldR b t = vl at *
 generalize b.length = n at *
 generalize t.enc.length = nn at *
 cases r
 ·go_enter Tryz.func9, Tryz.ntmps9
  go_wp2_with fail
  refine HC.out.mono ?_; rintro e w2 ⟨rfl, k2⟩
  go_wp2_with fail
  go_ret2
  exact ⟨rfl, (kA.alloc _).trans k2⟩
 ·go_enter Tryz.func9, Tryz.ntmps9
  go_wp2_with fail
  refine HC.out.mono ?_; rintro e w2 ⟨rfl, k2⟩
  have k3 := ((Keeps.refl (w.alloc (.cells #[.int .i64 n, .slice pq n cq] 26))).alloc (.cells #[.slice pn nn cn] 31)).trans k2
  replace c0 := k3.cell c0
  replace c1 := k3.cell c1
  go_wp2_with fail
  refine (HI.out _ (kA.trans k3)).mono ?_; rintro e w4 ⟨rfl, k4⟩
  go_wp2_with fail
  go_ret2
  exact ⟨by simp, (kA.trans k3).trans k4⟩
end Go.Proofs.YtfmmajgkjkmghaaGreatDoor
