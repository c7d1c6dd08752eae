import Derived.Test.YtfmmajgkjkmghaaGreatHKU
import Derived.Test.YtfmmajgkjkmghaaGreatHQN
import Derived.Test.YtfmmajgkjkmghaaGreatHK3
import Derived.Test.YtfmmajgkjkmghaaGreatHK8
/- Draws of models: l06Draw, DrawSkeletonOfModel. -/
namespace Go.Proofs.YtfmmajgkjkmghaaGreat
open Go.RowKit
structure MX (B : Nat) (w W : World) (g : Nat) (n : Int) (v : Value) (a : List Int) (u : Value) (vs : List Int) : Prop where
 box : BoxG W w.heap.size 37 [.int .i64 0, .slice none 0 0, .slice none 0 0]
 mb : BoxG W g 37 [.int .i64 n, v, u]
 own : OwnI W w.heap.size v a
 ou : OwnI W w.heap.size u vs
 sep : Sep v u
 lt : w.heap.size < g
 bl : B < w.heap.size
 D : Dr B w W
section
variable {B : Nat} {w W W' : World} {g : Nat} {n : Int} {v u : Value} {a vs : List Int}
theorem MX.dr (h : MX B w W g n v a u vs) (k : Dr B W W') : MX B w W' g n v a u vs :=
 ⟨h.box.dr k h.bl, h.mb.dr k (by have := h.bl; have := h.lt; omega), h.own.dr k h.bl, h.ou.dr k h.bl, h.sep, h.lt, h.bl, h.D.trans k⟩
theorem MX.keeps (h : MX B w W g n v a u vs) (k : Keeps W W') : MX B w W' g n v a u vs := h.dr (Dr.of h.D.2 k)
end
theorem results_m2 (tmps : Array Value) (W : World) (r : Nat) (h2 : tmps.getD 4 undef = .pointer (some ⟨r, 0, none⟩)) {u v : Value} {n : Int}
  (ha : W.cell? ⟨r, 0, none⟩ = some (.int .i64 n)) (hb : W.cell? ⟨r, 1, none⟩ = some v) (hc : W.cell? ⟨r, 2, none⟩ = some u) (hv : ∃ p m q, v = .slice p m q) (hu : ∃ p m q, u = .slice p m q) :
  (results Tryz.f48 tmps).run Tryz.prog W = .ok (.agg #[.int .i64 n, v, u]) W := by
 have hr : Tryz.f48.results = #[.cell 4 37] := rfl
 obtain ⟨p, m, q, rfl⟩ := hv
 obtain ⟨p2, m2, q2, rfl⟩ := hu
 unfold results
 rw [hr]
 rw [Array.getD_eq_getD_getElem?] at h2
 simp [go_sem, loadVar, h2, ha, hb, hc]
set_option maxRecDepth 20000 in
set_option maxHeartbeats 4000000 in
theorem l06Draw_any (B : Nat) (w : World) (hs : Src w B) : Calls Tryz.prog 48 #[.pointer (some ⟨B, 0, none⟩), .int .i64 6] w (DrawMQ B w) := by
 have hB := hs.lt
 obtain ⟨W0, hW0⟩ : ∃ W, W = w.alloc (.cells #[.int .i64 0, .slice none 0 0, .slice none 0 0] 37) := ⟨_, rfl⟩
 have hb0 : BoxG W0 w.heap.size 37 [.int .i64 0, .slice none 0 0, .slice none 0 0] := by rw [hW0]; exact BoxG.made w _ _ (by simp) (by simp)
 have D0 : Dr B w W0 := by rw [hW0]; exact Dr.of hs ((Keeps.refl w).alloc _)
 have hs0 : W0.heap.size = w.heap.size + 1 := by rw [hW0]; simp
 have HW0 := hid hW0
 clear hW0
 go_enter Tryz.func48, Tryz.ntmps48
 go_wp2_with fail
 rw [← HW0.out]
 refine (l06Some_any B W0 D0.2).mono ?_; rintro e w1 ⟨v1, a, u1, vs, rfl, hv1, hu1, hsep, hla, hba, hvl, d1⟩
 have hz1 := d1.size
 obtain ⟨p1, m1, c1, rfl⟩ := hv1.shape0
 obtain ⟨q1, cap1, rfl, hq1, hq1l, hcap1, hmx1⟩ := hu1.shape (by omega)
 rw [hvl] at hu1 hcap1 hsep ⊢
 obtain ⟨W1, hW1⟩ : ∃ W, W = w1.alloc (.cells #[.int .i64 a.length, .slice p1 m1 c1, .slice (some ⟨q1, 0, none⟩) 6 cap1] 37) := ⟨_, rfl⟩
 have kC : Keeps w1 W1 := by rw [hW1]; exact (Keeps.refl w1).alloc _
 have hmb : BoxG W1 w1.heap.size 37 [.int .i64 a.length, .slice p1 m1 c1, .slice (some ⟨q1, 0, none⟩) 6 cap1] := by rw [hW1]; exact BoxG.made w1 _ _ (by simp) (by simp)
 have HMX := hid (show MX B w W1 w1.heap.size a.length (.slice p1 m1 c1) (zs a) (.slice (some ⟨q1, 0, none⟩) 6 cap1) vs from
  ⟨(hb0.dr d1 hB).keeps kC, hmb, (hv1.keeps kC).mono (by omega), (hu1.keeps kC).mono (by omega), hsep, by omega, hB, (D0.trans d1).keeps kC⟩)
 have HW1 := hid hW1
 have hgW : w1.heap.size < W1.heap.size := hmb.lt
 have hqg : w.heap.size < q1 := by omega
 unfold maxLen at hmx1
 clear hb0 D0 hs0 HW0 hz1 hv1 hu1 d1 kC hmb hW1 hsep hba
 have HNX := hid (l01Next_any 50 B W1 HMX.out.D.2 (by omega))
 go_wp2_with fail
 rw [← HW1.out]
 clear HW1
 generalize w1.heap.size = g at *
 go_wp2_with fail
 refine HNX.out.mono ?_; rintro e w4 ⟨r4, rfl, hr4, d4⟩
 have HM := hid (HMX.out.dr d4)
 clear HMX HNX d4
 have x0 := HM.out.mb.cell 0 (by simp)
 have x1 := HM.out.mb.cell 1 (by simp)
 have x2 := HM.out.mb.cell 2 (by simp)
 have e0 := HM.out.mb.froz 0
 have e1 := HM.out.mb.froz 1
 have e2 := HM.out.mb.froz 2
 have y0 := HM.out.box.cell 0 (by simp)
 have y1 := HM.out.box.cell 1 (by simp)
 have y2 := HM.out.box.cell 2 (by simp)
 have f0 := HM.out.box.froz 0
 have f1 := HM.out.box.froz 1
 have f2 := HM.out.box.froz 2
 simp only [List.getElem_cons_zero, List.getElem_cons_succ] at x0 x1 x2 y0 y1 y2
 have hlg := HM.out.lt
 obtain rfl | rfl | rfl | h3 : r4 = 0 ∨ r4 = 1 ∨ r4 = 2 ∨ 2 < r4 := by omega
 ·have HLD := hid (l05Draw_any B 6 (by omega) w4 HM.out.D.2)
  clear x0 x1 x2 e0 e1 e2 y0 y1 y2 f0 f1 f2
  go_wp2_with fail
  refine HLD.out.mono ?_; rintro e w5 ⟨n5, v5, a5, rfl, hv5, hl5, hn5, d5⟩
  have HM5 := HM.out.dr d5
  obtain ⟨p5, m5, c5, rfl⟩ := hv5.shape0
  have hz4 := HM.out.D.size
  have b1 := HM5.mb.set 0 (.int .i64 n5)
  have r1 := HM5.box.apart (x := .int .i64 n5) (i := 0) HM5.mb (by omega)
  have r2 := r1.apart (x := .slice p5 m5 c5) (i := 1) b1 (by omega)
  have b2 := b1.set 1 (.slice p5 m5 c5)
  have o2 : OwnI ((w5.setCell ⟨g, 0, none⟩ (.int .i64 n5)).setCell ⟨g, 1, none⟩ (.slice p5 m5 c5)) w.heap.size (.slice p5 m5 c5) a5 := OwnI.mono (own_boxed (own_boxed hv5 HM5.mb tyneMd) b1 tyneMd) hz4
  have u2 : OwnI ((w5.setCell ⟨g, 0, none⟩ (.int .i64 n5)).setCell ⟨g, 1, none⟩ (.slice p5 m5 c5)) w.heap.size (.slice (some ⟨q1, 0, none⟩) 6 cap1) vs := own_boxed (own_boxed HM5.ou HM5.mb tyneMd) b1 tyneMd
  have D2 := (HM5.D.box (i := 0) (x := .int .i64 n5) HM5.mb (by omega) (by omega)).box (i := 1) (x := .slice p5 m5 c5) b1 (by omega) (by omega)
  have HE := hid (drawMQ_end (n := n5) r2 o2 (PullI.of u2 (by omega)) hl5 (by omega) hB D2)
  have x0 := HM5.mb.cell 0 (by simp)
  have x1 := HM5.mb.cell 1 (by simp)
  have e0 := HM5.mb.froz 0
  have e1 := HM5.mb.froz 1
  have z0 := b2.cell 0 (by simp)
  have z1 := b2.cell 1 (by simp)
  have z2 := b2.cell 2 (by simp)
  have y0 := r2.cell 0 (by simp)
  have y1 := r2.cell 1 (by simp)
  have y2 := r2.cell 2 (by simp)
  have f0 := r2.froz 0
  have f1 := r2.froz 1
  have f2 := r2.froz 2
  simp only [List.getElem_cons_zero, List.getElem_cons_succ, List.set_cons_zero, List.set_cons_succ] at x0 x1 y0 y1 y2 z0 z1 z2
  clear b1 b2 r1 r2 o2 u2 D2 HM5 hv5 d5 HM
  go_wp2_with fail
  exact bodyPost_ret (results_m2 _ _ w.heap.size rfl HE.out.2.1 HE.out.2.2.1 HE.out.2.2.2 ⟨_, _, _, rfl⟩ ⟨_, _, _, rfl⟩) rfl HE.out.1
 ·have hcap' : ¬ cap1 = 1 := by omega
  have b1 := HM.out.mb.set 2 (.slice (some ⟨q1, 1, none⟩) (6 - 1) (cap1 - 1))
  have r1 := HM.out.box.apart (x := .slice (some ⟨q1, 1, none⟩) (6 - 1) (cap1 - 1)) (i := 2) HM.out.mb (by omega)
  have o1 : OwnI (w4.setCell ⟨g, 2, none⟩ (.slice (some ⟨q1, 1, none⟩) (6 - 1) (cap1 - 1))) w.heap.size (.slice p1 m1 c1) (zs a) := own_boxed HM.out.own HM.out.mb tyneMd
  have u1 : OwnI (w4.setCell ⟨g, 2, none⟩ (.slice (some ⟨q1, 1, none⟩) (6 - 1) (cap1 - 1))) w.heap.size (.slice (some ⟨q1, 0, none⟩) 6 cap1) vs := own_boxed HM.out.ou HM.out.mb tyneMd
  have HE := hid (drawMQ_end (n := (a.length : Int)) r1 o1 (PullI.tail u1 (by omega) (by omega)) (by rw [zs_length]; omega) (by simp; omega) hB (HM.out.D.box (i := 2) (x := .slice (some ⟨q1, 1, none⟩) (6 - 1) (cap1 - 1)) HM.out.mb (by omega) (by omega)))
  have z0 := b1.cell 0 (by simp)
  have z1 := b1.cell 1 (by simp)
  have z2 := b1.cell 2 (by simp)
  have t0 := r1.cell 0 (by simp)
  have t1 := r1.cell 1 (by simp)
  have t2 := r1.cell 2 (by simp)
  have ft0 := r1.froz 0
  have ft1 := r1.froz 1
  have ft2 := r1.froz 2
  simp only [List.getElem_cons_zero, List.getElem_cons_succ, List.set_cons_zero, List.set_cons_succ] at z0 z1 z2 t0 t1 t2
  rw [show 6 - 1 = 5 from rfl] at *
  clear b1 r1 o1 u1 HM
  go_wp2_with fail
  exact bodyPost_ret (results_m2 _ _ w.heap.size rfl HE.out.2.1 HE.out.2.2.1 HE.out.2.2.2 ⟨_, _, _, rfl⟩ ⟨_, _, _, rfl⟩) rfl HE.out.1
 ·have HF := hid (fun wz => l01Full_any (a.length : Int) wz (by omega) (by omega))
  have hp8 : (2 : Nat) ^ a.length ≤ 2 ^ 8 := Nat.pow_le_pow_right (by omega) (by omega)
  have hpp := Nat.two_pow_pos a.length
  have hpc : (2 : Int) ^ a.length - 1 = ((2 ^ a.length - 1 : Nat) : Int) := by
   rw [show (2 : Int) ^ a.length = ((2 ^ a.length : Nat) : Int) by push_cast; rfl]
   omega
  simp only [Int.toNat_natCast, hpc] at HF
  clear hpc
  have hq : 2 ^ a.length - 1 ≤ 255 := by omega
  generalize 2 ^ a.length - 1 = q at *
  clear hp8 hpp
  have kd := (Keeps.refl w4).drew
  have HMd := HM.out.keeps kd
  have xd0 := kd.cell x0
  have xd2 := kd.cell x2
  have hqne : ∀ k, (Value.slice (some ⟨q1, 0, none⟩) 6 cap1).ownBlock = some k → k = q1 := fun k hk => by simpa [Value.ownBlock] using hk.symm
  go_wp2_with fail
  go_region_law (first
   | (go_simp; go_at_call 80; refine (HF.out _).mono ?_; rintro e w' ⟨rfl, rfl⟩)
   | (have hq7 := P7L.D.2; go_simp; go_at_call 106; refine (l01Pick_any B w7.heap.size _ _ _ hq7 hl7 (by have := P7.D.2.lt; omega) (by simp) (by simp)).mono ?_; rintro e w8 ⟨x8v, hx8, rfl, d8⟩; have P8 := P7L.dr d8; have hr8i : (r7 : Int) < 6 := hr7i; have hr8n : r7 < 6 := hr7'; have x82 : w8.cell? ⟨g, 2, none⟩ = some (.slice (some ⟨q1, 0, none⟩) 6 cap1) := P8.mb.cell 2 (by simp); have x80 : w8.cell? ⟨g, 0, none⟩ = some (.int .i64 (a.length : Int)) := P8.mb.cell 0 (by simp); obtain ⟨c8, f8⟩ := P8.ou.cell r7 (by omega))
   | (go_simp; go_at_call 50; refine (l01Next_any 6 B _ HMd.D.2 (by omega)).mono ?_; rintro e w7 ⟨r7, rfl, hr7, d7⟩; have P7 := HMd.dr d7; have x7 : w7.cell? ⟨g, 0, none⟩ = some (.int .i64 (a.length : Int)) := P7.mb.cell 0 (by simp); have x72 : w7.cell? ⟨g, 2, none⟩ = some (.slice (some ⟨q1, 0, none⟩) 6 cap1) := P7.mb.cell 2 (by simp); have hr7' : r7 < 6 := (by omega); have hr7i : (r7 : Int) < 6 := (by omega); have hl7 : OwnI (w7.alloc (.cells #[.int .i64 (-1), .int .i64 (IntKind.i64.wrap ((q : Int) + 1))] 2)) w7.heap.size (.slice (some ⟨w7.heap.size, 0, none⟩) 2 2) [-1, IntKind.i64.wrap ((q : Int) + 1)] := OwnI.lit w7 _ (by simp [maxLen]); have P7L := P7.keeps ((Keeps.refl w7).alloc (.cells #[.int .i64 (-1), .int .i64 (IntKind.i64.wrap ((q : Int) + 1))] 2)); have x72L : (w7.alloc (.cells #[.int .i64 (-1), .int .i64 (IntKind.i64.wrap ((q : Int) + 1))] 2)).cell? ⟨g, 2, none⟩ = some (.slice (some ⟨q1, 0, none⟩) 6 cap1) := P7L.mb.cell 2 (by simp)))
  all_goals
   have hst := OwnI.store P8.ou r7 (by omega) x8v
   have tS := (Touch.grown hst.2)
   have hb8 := P8.box.other P8.ou (by decide : (2 : TypeId) ≠ 37) hst.2
   have hm8 := P8.mb.other P8.ou (by decide : (2 : TypeId) ≠ 37) hst.2
   have ho8 := P8.own.touch tS (fun i hi e => P8.sep i hi e.symm)
   have D8 := P8.D.row hst.2 rfl (show B < q1 by omega) (by omega)
   have HE := hid (drawMQ_end (n := (a.length : Int)) hb8 ho8 (PullI.of hst.1 (by simp; omega)) (by rw [zs_length]; omega) (by simp; omega) hB D8)
   have z0 := hm8.cell 0 (by simp)
   have z1 := hm8.cell 1 (by simp)
   have z2 := hm8.cell 2 (by simp)
   have t0 := hb8.cell 0 (by simp)
   have t1 := hb8.cell 1 (by simp)
   have t2 := hb8.cell 2 (by simp)
   have ft0 := hb8.froz 0
   have ft1 := hb8.froz 1
   have ft2 := hb8.froz 2
   simp only [List.getElem_cons_zero, List.getElem_cons_succ] at z0 z1 z2 t0 t1 t2
   clear hst tS hb8 hm8 ho8 D8 P8 P7 P7L hl7 d7 d8 hq7 HMd HM hx8
   go_wp2_with fail
   exact bodyPost_ret (results_m2 _ _ w.heap.size rfl HE.out.2.1 HE.out.2.2.1 HE.out.2.2.2 ⟨_, _, _, rfl⟩ ⟨_, _, _, rfl⟩) rfl HE.out.1
 ·have n0 : ((r4 : Nat) : Int) ≠ 0 := by omega
  have n1 : ((r4 : Nat) : Int) ≠ 1 := by omega
  have n2 : ((r4 : Nat) : Int) ≠ 2 := by omega
  have HE := hid (drawMQ_end (n := (a.length : Int)) HM.out.box HM.out.own (PullI.of HM.out.ou (by omega)) (by rw [zs_length]; omega) (by omega) hB HM.out.D)
  clear HM
  go_wp2_with fail
  exact bodyPost_ret (results_m2 _ _ w.heap.size rfl HE.out.2.1 HE.out.2.2.1 HE.out.2.2.2 ⟨_, _, _, rfl⟩ ⟨_, _, _, rfl⟩) rfl HE.out.1
end Go.Proofs.YtfmmajgkjkmghaaGreat
namespace Go.Proofs.YtfmmajgkjkmghaaGreat
open Go.RowKit
theorem results_m3 (tmps : Array Value) (W : World) (r : Nat) (h2 : tmps.getD 2 undef = .pointer (some ⟨r, 0, none⟩)) {u v : Value} {n : Int}
  (ha : W.cell? ⟨r, 0, none⟩ = some (.int .i64 n)) (hb : W.cell? ⟨r, 1, none⟩ = some v) (hc : W.cell? ⟨r, 2, none⟩ = some u) (hv : ∃ p m q, v = .slice p m q) (hu : ∃ p m q, u = .slice p m q) :
  (results Tryz.f14 tmps).run Tryz.prog W = .ok (.agg #[.int .i64 n, v, u]) W := by
 have hr : Tryz.f14.results = #[.cell 2 37] := rfl
 obtain ⟨p, m, q, rfl⟩ := hv
 obtain ⟨p2, m2, q2, rfl⟩ := hu
 unfold results
 rw [hr]
 rw [Array.getD_eq_getD_getElem?] at h2
 simp [go_sem, loadVar, h2, ha, hb, hc]
def DrawnM (w : World) (e : Ending) (w' : World) : Prop := ∃ (n : Int) (v : Value) (a : List Int) (u : Value) (vs : List Int), e = .returned (.agg #[.int .i64 n, v, u]) ∧ Ints w' v a ∧ Ints w' u vs ∧ Keeps w w'
structure MD (B : Nat) (w w0 W : World) (g : Nat) (n : Int) (v : Value) (a : List Int) (u : Value) (vs : List Int) : Prop where
 box : BoxG W w.heap.size 37 [.int .i64 0, .slice none 0 0, .slice none 0 0]
 mb : BoxG W g 37 [.int .i64 n, v, u]
 own : OwnI W w0.heap.size v a
 pu : PullI w0.heap.size W u vs
 len : a.length ≤ 1000
 lt : w.heap.size < g
 g0 : w0.heap.size ≤ g
 bl : w.heap.size < B
 bg : B < g
 wl : w.heap.size < w0.heap.size
 b0 : B < w0.heap.size
 D : Dr B w0 W
section
variable {B : Nat} {w w0 W W' : World} {g : Nat} {n : Int} {v u : Value} {a vs : List Int}
theorem MD.dr (h : MD B w w0 W g n v a u vs) (k : Dr B W W') : MD B w w0 W' g n v a u vs :=
 ⟨h.box.drN k (by have := h.bl; omega), h.mb.drN k (by have := h.bg; omega), h.own.dr k h.b0, h.pu.dr k h.b0, h.len, h.lt, h.g0, h.bl, h.bg, h.wl, h.b0, h.D.trans k⟩
theorem MD.keeps (h : MD B w w0 W g n v a u vs) (k : Keeps W W') : MD B w w0 W' g n v a u vs := h.dr (Dr.of h.D.2 k)
theorem MD.last (h : MD B w w0 W g n v a u vs) (k0 : Keeps w w0) (hB : w.heap.size ≤ B) : DrawnM w (.returned (.agg #[.int .i64 n, v, u])) (((W.setCell ⟨w.heap.size, 0, none⟩ (.int .i64 n)).setCell ⟨w.heap.size, 1, none⟩ v).setCell ⟨w.heap.size, 2, none⟩ u) ∧ (((W.setCell ⟨w.heap.size, 0, none⟩ (.int .i64 n)).setCell ⟨w.heap.size, 1, none⟩ v).setCell ⟨w.heap.size, 2, none⟩ u).cell? ⟨w.heap.size, 0, none⟩ = some (.int .i64 n) ∧ (((W.setCell ⟨w.heap.size, 0, none⟩ (.int .i64 n)).setCell ⟨w.heap.size, 1, none⟩ v).setCell ⟨w.heap.size, 2, none⟩ u).cell? ⟨w.heap.size, 1, none⟩ = some v ∧ (((W.setCell ⟨w.heap.size, 0, none⟩ (.int .i64 n)).setCell ⟨w.heap.size, 1, none⟩ v).setCell ⟨w.heap.size, 2, none⟩ u).cell? ⟨w.heap.size, 2, none⟩ = some u := by
 have b1 := h.box.set 0 (.int .i64 n)
 have b2 := b1.set 1 v
 have hK := k0.touch h.D.1 (fun i hi => by omega)
 exact ⟨⟨n, v, a, u, vs, rfl, OwnI.ints (B := w0.heap.size) (own_boxed (own_boxed (own_boxed h.own h.box tyneMd) b1 tyneMd) b2 tyneMd) (by have := h.len; omega), (((h.pu.boxed h.box tyneMd _).boxed b1 tyneMd _).boxed b2 tyneMd _).ints, ((hK.setCell (Nat.le_refl _) _).setCell (Nat.le_refl _) _).setCell (Nat.le_refl _) _⟩, box_three h.box⟩
end
set_option maxRecDepth 20000 in
set_option maxHeartbeats 4000000 in
theorem drawSkeletonOfModel_any (v : Value) (k : Nat) (w : World) (hv : Bts w v k) (hk : k ≤ 4096) : Calls Tryz.prog 14 #[v] w (DrawnM w) := by
 have kA := (Keeps.refl w).alloc (.cells #[.int .i64 0, .slice none 0 0, .slice none 0 0] 37)
 have hb0 : BoxG (w.alloc (.cells #[.int .i64 0, .slice none 0 0, .slice none 0 0] 37)) w.heap.size 37 [.int .i64 0, .slice none 0 0, .slice none 0 0] := BoxG.made w _ _ (by simp) (by simp)
 have hsz : (w.alloc (.cells #[.int .i64 0, .slice none 0 0, .slice none 0 0] 37)).heap.size = w.heap.size + 1 := by simp
 have HF := hid (l01From_any v k _ (hv.keeps kA) hk)
 obtain ⟨p, c, rfl, _⟩ := hv
 go_enter Tryz.func14, Tryz.ntmps14
 go_wp2_with fail
 refine HF.out.mono ?_; rintro e w0 ⟨B, rfl, hB, hs, k0⟩
 have hz0 := k0.size
 have K0 := kA.trans k0
 have hb1 := hb0.keeps k0
 rw [hsz] at hB hz0
 have hBl := hs.lt
 clear hb0 kA HF k0
 go_wp2_with fail
 refine (l06Draw_any B w0 hs).mono ?_; rintro e w1 ⟨n, v1, a, u1, vs, rfl, hv1, hu1, hla, h6, d1⟩
 have hz1 := d1.size
 obtain ⟨p1, m1, c1, rfl⟩ := hv1.shape0
 obtain ⟨p2, c2, rfl⟩ := hu1.shape
 obtain ⟨W1, hW1⟩ : ∃ W, W = w1.alloc (.cells #[.int .i64 n, .slice p1 m1 c1, .slice p2 vs.length c2] 37) := ⟨_, rfl⟩
 have kC : Keeps w1 W1 := by rw [hW1]; exact (Keeps.refl w1).alloc _
 have hmb : BoxG W1 w1.heap.size 37 [.int .i64 n, .slice p1 m1 c1, .slice p2 vs.length c2] := by rw [hW1]; exact BoxG.made w1 _ _ (by simp) (by simp)
 have HMD := hid (show MD B w w0 W1 w1.heap.size n (.slice p1 m1 c1) a (.slice p2 vs.length c2) vs from
  ⟨(hb1.drN d1 (by omega)).keeps kC, hmb, hv1.keeps kC, hu1.keeps kC, by omega, by omega, hz1, by omega, by omega, by omega, hBl, d1.keeps kC⟩)
 have HLAST := hid (fun (W : World) (g : Nat) (n : Int) (v : Value) (a : List Int) (u : Value) (vs : List Int) (h : MD B w w0 W g n v a u vs) => h.last K0 (by omega))
 have HW1 := hid hW1
 clear hb1 hv1 hu1 d1 kC hmb hW1 hs hz1
 have HIS := hid (l05Is_any n a _ W1 (HMD.out.own.ints (by omega)))
 go_wp2_with fail
 rw [← HW1.out]
 clear HW1
 generalize w1.heap.size = g at *
 have x0 := HMD.out.mb.cell 0 (by simp)
 have x1 := HMD.out.mb.cell 1 (by simp)
 have x2 := HMD.out.mb.cell 2 (by simp)
 simp only [List.getElem_cons_zero, List.getElem_cons_succ] at x0 x1 x2
 go_wp2_with fail
 refine HIS.out.mono ?_; rintro e w2 ⟨rfl, k2⟩
 have HM2 := hid (HMD.out.keeps k2)
 clear HMD HIS x0 x1 x2 k2
 cases hfr : isFra n a
 ·clear hfr
  have x0 := HM2.out.mb.cell 0 (by simp)
  have x1 := HM2.out.mb.cell 1 (by simp)
  have x2 := HM2.out.mb.cell 2 (by simp)
  have y0 := HM2.out.box.cell 0 (by simp)
  have y1 := HM2.out.box.cell 1 (by simp)
  have y2 := HM2.out.box.cell 2 (by simp)
  have f0 := HM2.out.box.froz 0
  have f1 := HM2.out.box.froz 1
  have f2 := HM2.out.box.froz 2
  simp only [List.getElem_cons_zero, List.getElem_cons_succ] at x0 x1 x2 y0 y1 y2
  have HE := hid (HLAST.out _ _ _ _ _ _ _ HM2.out)
  clear HM2 HLAST
  go_wp2_with fail
  exact bodyPost_ret (results_m3 _ _ w.heap.size rfl HE.out.2.1 HE.out.2.2.1 HE.out.2.2.2 ⟨_, _, _, rfl⟩ ⟨_, _, _, rfl⟩) rfl HE.out.1
 ·obtain ⟨b, rfl, rfl, h8, hbm⟩ := (isFra_iff n a).1 hfr
  clear hfr
  go_wp2_with fail
  refine (l01Next_any 8 B w2 HM2.out.D.2 (by omega)).mono ?_; rintro e w3 ⟨r3, rfl, hr3, d3⟩
  have HM3 := hid (HM2.out.dr d3)
  clear HM2 d3
  have x0 := HM3.out.mb.cell 0 (by simp)
  have x1 := HM3.out.mb.cell 1 (by simp)
  have x2 := HM3.out.mb.cell 2 (by simp)
  have e0 := HM3.out.mb.froz 0
  have e1 := HM3.out.mb.froz 1
  simp only [List.getElem_cons_zero, List.getElem_cons_succ] at x0 x1 x2
  by_cases hr : 0 < r3
  ·have hr' : (0 : Int) < (r3 : Int) := by omega
   have HCL := hid (l01Closure_any b _ w3 (HM3.out.own.ints (by rw [zs_length]; omega)) h8 hbm)
   have hlr : (wAll b b.length b.length).length = b.length := wAll_len _ _ _
   have hbr : Bnd b.length (wAll b b.length b.length) := wAll_bnd hbm _ _
   generalize wAll b b.length b.length = d at *
   go_wp2_with fail
   refine HCL.out.mono ?_; rintro e w4 ⟨v4, rfl, hv4, k4⟩
   have HM4 := hid (HM3.out.keeps k4)
   have HRF := hid (l01Reflexive_any d v4 w4 (hv4.ints (by rw [zs_length]; omega)) (by omega) (hbr.mono (by omega)))
   have hlr2 : (rfL d d.length).length = b.length := by rw [rfL_len]; exact hlr
   generalize rfL d d.length = f at *
   obtain ⟨p4, m4, c4, rfl⟩ := hv4.shape0
   clear hv4 HCL HM3 k4 hbr x0 x1 x2 e0 e1
   go_wp2_with fail
   refine HRF.out.mono ?_; rintro e w5 ⟨v5, rfl, hv5, k5⟩
   have HM5 := hid (HM4.out.keeps k5)
   have HMK := hid (l05Make_any (zs f) v5 w5 (hv5.ints (by rw [zs_length]; omega)))
   obtain ⟨p5, m5, c5, rfl⟩ := hv5.shape0
   clear hv5 HRF HM4 k5
   go_wp2_with fail
   refine HMK.out.mono ?_; rintro e w6 ⟨v6, rfl, hv6, k6⟩
   have HM6 := HM5.out.keeps k6
   have hz6 := HM5.out.D.size
   obtain ⟨p6, m6, c6, rfl⟩ := hv6.shape0
   have b1 := HM6.mb.set 0 (.int .i64 ((zs f).length : Int))
   have b2 := b1.set 1 (.slice p6 m6 c6)
   have r1 := HM6.box.apart (x := .int .i64 ((zs f).length : Int)) (i := 0) HM6.mb (by have := HM6.lt; omega)
   have r2 := r1.apart (x := .slice p6 m6 c6) (i := 1) b1 (by have := HM6.lt; omega)
   have HM7 := hid (show MD B w w0 ((w6.setCell ⟨g, 0, none⟩ (.int .i64 ((zs f).length : Int))).setCell ⟨g, 1, none⟩ (.slice p6 m6 c6)) g ((zs f).length : Int) (.slice p6 m6 c6) (zs f) (.slice p2 vs.length c2) vs from
    ⟨r2, b2, OwnI.mono (own_boxed (own_boxed hv6 HM6.mb tyneMd) b1 tyneMd) hz6, (HM6.pu.boxed HM6.mb tyneMd _).boxed b1 tyneMd _, by rw [zs_length]; omega, HM6.lt, HM6.g0, HM6.bl, HM6.bg, HM6.wl, HM6.b0, (HM6.D.box (i := 0) (x := .int .i64 ((zs f).length : Int)) HM6.mb HM6.bg HM6.g0).box (i := 1) (x := .slice p6 m6 c6) b1 HM6.bg HM6.g0⟩)
   have x0 := HM6.mb.cell 0 (by simp)
   have x1 := HM6.mb.cell 1 (by simp)
   have e0 := HM6.mb.froz 0
   have e1 := HM6.mb.froz 1
   have z0 := HM7.out.mb.cell 0 (by simp)
   have z1 := HM7.out.mb.cell 1 (by simp)
   have z2 := HM7.out.mb.cell 2 (by simp)
   have y0 := HM7.out.box.cell 0 (by simp)
   have y1 := HM7.out.box.cell 1 (by simp)
   have y2 := HM7.out.box.cell 2 (by simp)
   have f0 := HM7.out.box.froz 0
   have f1 := HM7.out.box.froz 1
   have f2 := HM7.out.box.froz 2
   simp only [List.getElem_cons_zero, List.getElem_cons_succ] at x0 x1 z0 z1 z2 y0 y1 y2
   have HE := hid (HLAST.out _ _ _ _ _ _ _ HM7.out)
   generalize ((zs f).length : Int) = nf at *
   clear b1 b2 r1 r2 HM6 HM7 HM5 hv6 k6 HLAST
   go_wp2_with fail
   exact bodyPost_ret (results_m3 _ _ w.heap.size rfl HE.out.2.1 HE.out.2.2.1 HE.out.2.2.2 ⟨_, _, _, rfl⟩ ⟨_, _, _, rfl⟩) rfl HE.out.1
  ·have hr' : ¬ (0 : Int) < (r3 : Int) := by omega
   have y0 := HM3.out.box.cell 0 (by simp)
   have y1 := HM3.out.box.cell 1 (by simp)
   have y2 := HM3.out.box.cell 2 (by simp)
   have f0 := HM3.out.box.froz 0
   have f1 := HM3.out.box.froz 1
   have f2 := HM3.out.box.froz 2
   simp only [List.getElem_cons_zero, List.getElem_cons_succ] at y0 y1 y2
   have HE := hid (HLAST.out _ _ _ _ _ _ _ HM3.out)
   clear HM3 HLAST hbm
   go_wp2_with fail
   exact bodyPost_ret (results_m3 _ _ w.heap.size rfl HE.out.2.1 HE.out.2.2.1 HE.out.2.2.2 ⟨_, _, _, rfl⟩ ⟨_, _, _, rfl⟩) rfl HE.out.1
end Go.Proofs.YtfmmajgkjkmghaaGreat
namespace Go.Proofs.YtfmmajgkjkmghaaGreat
open Go.RowKit
def BothBoxTranslation (a r : List Nd) (c : Int) : Prop :=
 (∀ v w, Nds w v a → Calls Tryz.prog 8 #[v] w fun e w' => ∃ u, e = .returned (.tuple #[u, .int .i64 c]) ∧ Nds w' u r ∧ Keeps w w') ∧
 (∀ v w, Nds w v a → Calls Tryz.prog 7 #[v] w fun e w' => ∃ u, e = .returned (.tuple #[u, .int .i64 c]) ∧ OwnN w' w.heap.size u r ∧ Keeps w w')
set_option maxRecDepth 20000 in
set_option maxHeartbeats 400000 in
theorem transBoxTranslation_ok (t : Fm) (hp : t.plain = true) (hl : t.enc.length ≤ 1048576) (h : plainErr t.enc = 0) (v : Value) (w : World) (hv : Nds w v t.enc) :
  Calls Tryz.prog 36 #[.agg #[.func (.func 33) #[] #[], .func (.func 34) #[] #[]], v] w fun e w' => ∃ u, e = .returned (.tuple #[u, .int .i64 (madeL (bxt t).enc).2]) ∧ OwnN w' w.heap.size u (madeL (bxt t).enc).1 ∧ Keeps w w' := by
 obtain ⟨p, n, cap, rfl⟩ := hv.shape
 have kA := (Keeps.refl w).alloc (.cells #[.func (.func 33) #[] #[], .func (.func 34) #[] #[]] 58)
 have hsz : (w.alloc (.cells #[.func (.func 33) #[] #[], .func (.func 34) #[] #[]] 58)).heap.size = w.heap.size + 1 := by simp
 have hne := plainCode_any [t.enc] _ _ (NdsL.lit1 (hv.keeps kA))
 rw [plainErrs_one, h, hsz] at hne
 have HN := hid hne; clear hne h hsz
 have k1 := kA.alloc (.cells #[.slice p n cap] 24)
 have bx := bxt_len t
 go_enter Tryz.func36, Tryz.ntmps36
 go_wp2_with fail
 refine HN.out.mono ?_; rintro e w2 ⟨rfl, k2⟩
 have k2' := k1.trans k2
 have kB : Keeps (w.alloc (.cells #[.func (.func 33) #[] #[], .func (.func 34) #[] #[]] 58)) ((w.alloc (.cells #[.func (.func 33) #[] #[], .func (.func 34) #[] #[]] 58)).alloc (.cells #[.slice p n cap] 24)) := (Keeps.refl _).alloc _
 have f0 : w2.cell? ⟨w.heap.size, 0, none⟩ = some (.func (.func 33) #[] #[]) := k2.cell ((kB).cell (by simp))
 have f1 : w2.cell? ⟨w.heap.size, 1, none⟩ = some (.func (.func 34) #[] #[]) := k2.cell ((kB).cell (by simp))
 clear kB
 go_wp2_with fail
 refine (ofBoxTranslation_any t hp _ _ (hv.keeps k2') hl).mono ?_; rintro e w3 ⟨v3, rfl, hv3, k3⟩
 go_wp2_with fail
 refine (limited_own (bxt t).enc _ _ _ hv3 (by omega)).mono ?_; rintro e w' ⟨u, rfl, hu, rfl⟩
 go_wp2_with fail
 go_ret2
 exact ⟨_, rfl, hu.mono k2'.size, k2'.trans k3⟩
set_option maxRecDepth 20000 in
set_option maxHeartbeats 400000 in
theorem transBoxTranslation_err (a : List Nd) (h : plainErr a ≠ 0) (v : Value) (w : World) (hv : Nds w v a) :
  Calls Tryz.prog 36 #[.agg #[.func (.func 33) #[] #[], .func (.func 34) #[] #[]], v] w fun e w' => ∃ u, e = .returned (.tuple #[u, .int .i64 (plainErr a)]) ∧ OwnN w' w.heap.size u [] ∧ Keeps w w' := by
 obtain ⟨p, n, cap, rfl⟩ := hv.shape
 have kA := (Keeps.refl w).alloc (.cells #[.func (.func 33) #[] #[], .func (.func 34) #[] #[]] 58)
 have hsz : (w.alloc (.cells #[.func (.func 33) #[] #[], .func (.func 34) #[] #[]] 58)).heap.size = w.heap.size + 1 := by simp
 have hne := plainCode_any [a] _ _ (NdsL.lit1 (hv.keeps kA))
 rw [plainErrs_one, hsz] at hne
 have h' : (plainErr a != 0) = true := by simp [h]
 have H := hid h; clear h
 have HN := hid hne; clear hne hsz
 have k1 := kA.alloc (.cells #[.slice p n cap] 24)
 go_enter Tryz.func36, Tryz.ntmps36
 go_wp2_with (go_at_call 72; refine HN.out.mono ?_; rintro e w2 ⟨rfl, k2⟩)
 go_ret2
 exact ⟨_, rfl, OwnN.nil _ _, k1.trans k2⟩
set_option maxHeartbeats 1000000 in
theorem factsBoxTranslation (a : List Nd) : ∃ r c, BothBoxTranslation a r c ∧ r.length ≤ 40 ∧ TrIs bxt a r c := by
 by_cases h : plainErr a = 0
 ·obtain ⟨t, hw, rfl, hp, hl⟩ := plain_tree h
  have HT := hid (transBoxTranslation_ok t hp (by omega) h)
  have H := hid h; clear h
  have bx := bxt_len t
  refine ⟨(madeL (bxt t).enc).1, (madeL (bxt t).enc).2, ⟨fun v w hv => ?_, fun v w hv => ?_⟩, madeL_len _, .inl ⟨t, hw, rfl, hp, hl, H.out, rfl, rfl⟩⟩
  ·go_enter Tryz.func8, Tryz.ntmps8
   go_wp2_with fail
   refine (l29Code_any _ _ _ hv).mono ?_; rintro e w' ⟨rfl, rfl⟩; rw [H.out]
   go_wp2_with fail
   refine (l29Box_any t hp _ _ hv (by omega)).mono ?_; rintro e w1 ⟨v1, rfl, hv1, k1⟩
   go_wp2_with fail
   refine (l02Made_own (bxt t).enc _ _ _ hv1 (by omega)).mono ?_; rintro e w' ⟨u, rfl, hu, rfl⟩
   go_wp2_with fail
   go_ret2
   exact ⟨_, rfl, hu.nds (by have := madeL_len (bxt t).enc; omega), k1⟩
  ·go_enter Tryz.func7, Tryz.ntmps7
   go_wp2_with fail
   refine (HT.out _ _ hv).mono ?_; rintro e w1 ⟨u, rfl, hu, k1⟩
   go_wp2_with fail
   go_ret2
   exact ⟨_, rfl, hu, k1⟩
 ·have HT := hid (transBoxTranslation_err a h)
  have h' : (plainErr a != 0) = true := by simp [h]
  have H := hid h; clear h
  refine ⟨[], plainErr a, ⟨fun v w hv => ?_, fun v w hv => ?_⟩, by simp, .inr ⟨H.out, rfl, rfl⟩⟩
  ·go_enter Tryz.func8, Tryz.ntmps8
   go_wp2_with (go_at_call 37; refine (l29Code_any _ _ _ hv).mono ?_; rintro e w' ⟨rfl, rfl⟩)
   go_ret2
   exact ⟨_, rfl, (OwnN.nil w 0).nds (by simp), Keeps.refl _⟩
  ·go_enter Tryz.func7, Tryz.ntmps7
   go_wp2_with fail
   refine (HT.out _ _ hv).mono ?_; rintro e w1 ⟨u, rfl, hu, k1⟩
   go_wp2_with fail
   go_ret2
   exact ⟨_, rfl, hu, k1⟩
end Go.Proofs.YtfmmajgkjkmghaaGreat
