import Derived.Test.YtfmmajgkjkmghaaGreatEKP
import Derived.Test.YtfmmajgkjkmghaaGreatEK3
/- Draws of valuations: l17Draw, DrawBoxValuesOf, DrawIsValuation. -/
namespace Go.Proofs.YtfmmajgkjkmghaaGreat
open Go.RowKit
structure LV (B : Nat) (w W : World) (g : Nat) (n : Int) (v : Value) (a : List Int) : Prop where
 box : BoxG W w.heap.size 31 [.int .i64 0, .slice none 0 0]
 pb : BoxG W g 31 [.int .i64 n, v]
 own : OwnI W w.heap.size v a
 vb : ∀ k, v.ownBlock = some k → k < g
 lt : w.heap.size < g
 bl : B < w.heap.size
 D : Dr B w W
theorem LV.dr {B : Nat} {w W W' : World} {g : Nat} {n : Int} {v : Value} {a : List Int} (h : LV B w W g n v a) (k : Dr B W W') : LV B w W' g n v a :=
 ⟨h.box.dr k h.bl, h.pb.dr k (by have := h.bl; have := h.lt; omega), h.own.dr k h.bl, h.vb, h.lt, h.bl, h.D.trans k⟩
theorem LV.keeps {B : Nat} {w W W' : World} {g : Nat} {n : Int} {v : Value} {a : List Int} (h : LV B w W g n v a) (k : Keeps W W') : LV B w W' g n v a := h.dr (Dr.of h.D.2 k)
theorem LV.touch {B : Nat} {w W W' : World} {g b : Nat} {n : Int} {v : Value} {a : List Int} (h : LV B w W g n v a) (t : Touch W W' (fun i => i = b)) (hb : g < b) : LV B w W' g n v a := by
 have hl := h.lt
 have hB := h.bl
 refine ⟨own_touch h.box t (fun i hi e => ?_), own_touch h.pb t (fun i hi e => ?_), h.own.touch t (fun i hi e => by have := h.vb i hi; omega), h.vb, h.lt, h.bl, h.D.besideX t (by omega) (by omega)⟩
 ·have : w.heap.size = i := by simpa [Value.ownBlock] using hi
  omega
 ·have : g = i := by simpa [Value.ownBlock] using hi
  omega
theorem results_pv1 (tmps : Array Value) (W : World) (r : Nat) (u : Value) (h2 : tmps.getD 4 undef = .pointer (some ⟨r, 0, none⟩)) (h3 : tmps.getD 5 undef = u) (hu : ∃ p m q, u = .slice p m q) {v : Value} {n : Int}
  (ha : W.cell? ⟨r, 0, none⟩ = some (.int .i64 n)) (hb : W.cell? ⟨r, 1, none⟩ = some v) (hv : ∃ p m q, v = .slice p m q) :
  (results Tryz.f40 tmps).run Tryz.prog W = .ok (.tuple #[.agg #[.int .i64 n, v], u]) W := by
 have hr : Tryz.f40.results = #[.cell 4 31, .tmp 5] := rfl
 obtain ⟨p, m, q, rfl⟩ := hv
 obtain ⟨p2, m2, q2, rfl⟩ := hu
 unfold results
 rw [hr]
 rw [Array.getD_eq_getD_getElem?] at h2 h3
 simp [go_sem, loadVar, h2, h3, ha, hb]
theorem l17_end {B : Nat} {w W : World} {g : Nat} {n : Int} {v : Value} {a : List Int} (h : LV B w W g n v a) (hn : -100 ≤ n ∧ n ≤ 100) (hl : a.length ≤ 9) {u : Value} {vs : List Int} (hu : PullI w.heap.size W u vs) (h5 : 5 ≤ vs.length) (h6 : vs.length ≤ 6) :
  DrawPV B w (.returned (.tuple #[.agg #[.int .i64 n, v], u])) ((W.setCell ⟨w.heap.size, 0, none⟩ (.int .i64 n)).setCell ⟨w.heap.size, 1, none⟩ v) ∧ ((W.setCell ⟨w.heap.size, 0, none⟩ (.int .i64 n)).setCell ⟨w.heap.size, 1, none⟩ v).cell? ⟨w.heap.size, 0, none⟩ = some (.int .i64 n) ∧ ((W.setCell ⟨w.heap.size, 0, none⟩ (.int .i64 n)).setCell ⟨w.heap.size, 1, none⟩ v).cell? ⟨w.heap.size, 1, none⟩ = some v := by
 obtain ⟨e0, e1⟩ := box_two (x := .int .i64 n) (y := v) h.box
 exact ⟨drawPV_end h.bl h.box h.own hu h5 h6 hl hn h.D _ _, e0, e1⟩
theorem DrawPV.keeps {B : Nat} {w W W' : World} {e : Ending} (h : DrawPV B w e W) (k : Keeps W W') : DrawPV B w e W' := by
 obtain ⟨n, v, a, u, vs, he, hv, hu, h5, h6, hl, hn, D⟩ := h
 exact ⟨n, v, a, u, vs, he, hv.keeps k, hu.keeps k, h5, h6, hl, hn, D.keeps k⟩
set_option maxRecDepth 20000 in
set_option maxHeartbeats 4000000 in
theorem l17Draw_any (B : Nat) (w : World) (hs : Src w B) : Calls Tryz.prog 40 #[.pointer (some ⟨B, 0, none⟩), .int .i64 6] w (DrawPV B w) := by
 have hB := hs.lt
 obtain ⟨W0, hW0⟩ : ∃ W, W = w.alloc (.cells #[.int .i64 0, .slice none 0 0] 31) := ⟨_, rfl⟩
 have hb0 : BoxG W0 w.heap.size 31 [.int .i64 0, .slice none 0 0] := by rw [hW0]; exact BoxG.made w _ _ (by simp) (by simp)
 have D0 : Dr B w W0 := by rw [hW0]; exact Dr.of hs ((Keeps.refl w).alloc _)
 have hs0 : W0.heap.size = w.heap.size + 1 := by rw [hW0]; simp
 have HW0 := hid hW0
 clear hW0
 go_enter Tryz.func40, Tryz.ntmps40
 go_wp2_with fail
 rw [← HW0.out]
 refine (l16Draw_any B 6 (by omega) (by omega) W0 D0.2).mono ?_; rintro e w1 ⟨n, v1, a, rfl, hv1, hla, hn, d1⟩
 have hz1 := d1.size
 obtain ⟨p1, m1, c1, rfl⟩ := hv1.shape0
 have kC := (Keeps.refl w1).alloc (.cells #[.int .i64 n, .slice p1 m1 c1] 31)
 have HLV := hid (show LV B w (w1.alloc (.cells #[.int .i64 n, .slice p1 m1 c1] 31)) w1.heap.size n (.slice p1 m1 c1) a from
  ⟨(hb0.dr d1 hB).keeps kC, BoxG.made w1 _ _ (by simp) (by simp), (hv1.keeps kC).mono (by omega), fun k hk => (hv1.len k hk).2, by omega, hB, (D0.trans d1).keeps kC⟩)
 clear hb0 D0 hs0 HW0 hz1 hv1 d1 kC
 have hlt0 := HLV.out.lt
 have HIS := hid (l16Is_any n a _ _ (HLV.out.own.ints (by omega)))
 go_wp2_with fail
 generalize w1.alloc (.cells #[.int .i64 n, .slice p1 m1 c1] 31) = W1 at *
 generalize w1.heap.size = g at *
 have c0 := HLV.out.pb.cell 0 (by simp)
 have c1' := HLV.out.pb.cell 1 (by simp)
 simp only [List.getElem_cons_zero, List.getElem_cons_succ] at c0 c1'
 go_wp2_with fail
 refine HIS.out.mono ?_; rintro e w2 ⟨rfl, k2⟩
 have HV2 := hid (HLV.out.keeps k2)
 have hgl : g < w2.heap.size := by have := HV2.out.pb.lt; exact this
 replace c0 := k2.cell c0
 replace c1' := k2.cell c1'
 clear HLV HIS k2
 cases hpos : isPos n a
 ·clear hpos
  have x0 := HV2.out.box.cell 0 (by simp)
  have x1 := HV2.out.box.cell 1 (by simp)
  have y0 := HV2.out.box.froz 0
  have y1 := HV2.out.box.froz 1
  simp only [List.getElem_cons_zero, List.getElem_cons_succ] at x0 x1
  obtain ⟨W4, r4, o4, k4⟩ := run_makeI w2.drew 6 (by decide)
  rw [show ((6 : Nat) : Int) = 6 from rfl, show w2.drew.heap.size = w2.heap.size from rfl] at r4
  rw [show w2.drew.heap.size = w2.heap.size from rfl] at o4
  have K4 := (Keeps.refl w2).drew.trans k4
  have HV4 := hid (HV2.out.keeps K4)
  have HP4 := hid (PullI.of (B0 := w.heap.size) (o4.mono (show w.heap.size ≤ w2.heap.size from Nat.le_of_lt (by have := HV2.out.box.lt; exact this))) (by simp))
  have zc0 := K4.cell c0
  have zc1 := K4.cell c1'
  have HE4 := hid (l17_end HV4.out hn hla HP4.out (by simp) (by simp))
  have z0 := K4.cell x0
  have z1 := K4.cell x1
  have f0 := HV4.out.box.froz 0
  have f1 := HV4.out.box.froz 1
  clear o4 k4 K4
  obtain ⟨B1, p1b, o1b, D1⟩ := And.intro ((HV2.out.box.set 0 (.int .i64 n)).set 1 (.slice p1 m1 c1)) (And.intro HV2.out.pb (And.intro (own_boxed (own_boxed HV2.out.own HV2.out.box tynePz) (HV2.out.box.set 0 (.int .i64 n)) tynePz : OwnI ((w2.setCell ⟨w.heap.size, 0, none⟩ (.int .i64 n)).setCell ⟨w.heap.size, 1, none⟩ (.slice p1 m1 c1)) w.heap.size (.slice p1 m1 c1) a) ((HV2.out.D.box (i := 0) (x := .int .i64 n) HV2.out.box hB (Nat.le_refl _)).box (i := 1) (x := .slice p1 m1 c1) (HV2.out.box.set 0 (.int .i64 n)) hB (Nat.le_refl _))))
  have hrz : w.heap.size < ((w2.setCell ⟨w.heap.size, 0, none⟩ (.int .i64 n)).setCell ⟨w.heap.size, 1, none⟩ (.slice p1 m1 c1)).drew.heap.size := B1.lt
  obtain ⟨W5, r5, o5, k5⟩ := run_makeI ((w2.setCell ⟨w.heap.size, 0, none⟩ (.int .i64 n)).setCell ⟨w.heap.size, 1, none⟩ (.slice p1 m1 c1)).drew 6 (by decide)
  have hsz5 : ((w2.setCell ⟨w.heap.size, 0, none⟩ (.int .i64 n)).setCell ⟨w.heap.size, 1, none⟩ (.slice p1 m1 c1)).drew.heap.size = w2.heap.size := by simp [World.drew]
  rw [show ((6 : Nat) : Int) = 6 from rfl, hsz5] at r5
  rw [hsz5] at o5 hrz
  clear hsz5
  have K5 := (Keeps.refl ((w2.setCell ⟨w.heap.size, 0, none⟩ (.int .i64 n)).setCell ⟨w.heap.size, 1, none⟩ (.slice p1 m1 c1))).drew.trans k5
  have HE := hid (show DrawPV B w (.returned (.tuple #[.agg #[.int .i64 n, .slice p1 m1 c1], .slice (some ⟨_, 0, none⟩) 6 6])) W5 from
   ⟨n, _, a, _, _, rfl, OwnI.keeps o1b K5, PullI.of (o5.mono (Nat.le_of_lt hrz)) (by simp), by simp, by simp, hla, hn, D1.keeps K5⟩)
  have q0 := (B1.keeps K5).cell 0 (by simp)
  have q1 := (B1.keeps K5).cell 1 (by simp)
  simp only [List.set_cons_zero, List.set_cons_succ, List.getElem_cons_zero, List.getElem_cons_succ] at q0 q1
  clear B1 p1b o1b D1 hrz o5 k5 K5 HV2
  go_wp2_with fail
  go_region
  all_goals
   go_wp2_with fail
   first
    | exact bodyPost_ret (results_pv1 _ _ w.heap.size _ rfl rfl ⟨_, _, _, rfl⟩ q0 q1 ⟨_, _, _, rfl⟩) rfl HE.out
    | exact bodyPost_ret (results_pv1 _ _ w.heap.size _ rfl rfl ⟨_, _, _, rfl⟩ HE4.out.2.1 HE4.out.2.2 ⟨_, _, _, rfl⟩) rfl HE4.out.1
 ·obtain ⟨b, rfl, rfl, h8, hbm, -⟩ := (isPos_iff n a).1 hpos
  clear hpos
  have HSM := hid (l17Some_any B b h8 (bnd_mem hbm) _ w2 HV2.out.D.2 (HV2.out.own.ints (by rw [zs_length]; omega)))
  go_wp2_with fail
  refine HSM.out.mono ?_; rintro e w3 ⟨u3, vs, rfl, hu3, hvl, d3⟩
  have HV3 := hid (HV2.out.dr d3)
  have hg3 : g < w2.heap.size := hgl
  clear HV2 HSM c0 hbm
  have HNX := hid (l01Next_any 40 B w3 HV3.out.D.2 (by omega))
  obtain ⟨q3, cap3, rfl, hq3, hq3l, hcap3, hmx3⟩ := hu3.shape (by rw [zs_length]; omega)
  rw [zs_length vs, hvl] at hu3 hcap3 ⊢
  have hqg : g < q3 := by omega
  unfold maxLen at hmx3
  go_wp2_with fail
  refine HNX.out.mono ?_; rintro e w4 ⟨r4, rfl, hr4, d4⟩
  have HV4 := hid (HV3.out.dr d4)
  have hu4 := hu3.dr d4 (by omega)
  have hz4 := d4.size
  clear HV3 hu3 d4 d3 HNX
  have c0 := HV4.out.pb.cell 0 (by simp)
  have c1' := HV4.out.pb.cell 1 (by simp)
  have x0 := HV4.out.box.cell 0 (by simp)
  have x1 := HV4.out.box.cell 1 (by simp)
  have y0 := HV4.out.box.froz 0
  have y1 := HV4.out.box.froz 1
  simp only [List.getElem_cons_zero, List.getElem_cons_succ] at c0 c1' x0 x1
  have kd := (Keeps.refl w4).drew
  have HVd := hid (HV4.out.keeps kd)
  have hud := hu4.keeps kd
  have cd0 := kd.cell c0
  have cd1 := kd.cell c1'
  have xd0 := kd.cell x0
  have xd1 := kd.cell x1
  have yd0 := HVd.out.box.froz 0
  have yd1 := HVd.out.box.froz 1
  obtain rfl | rfl | h2 : r4 = 0 ∨ r4 = 1 ∨ 1 < r4 := by omega
  ·have HEd := hid (l17_end HVd.out hn hla ((PullI.tail hud (by rw [zs_length]; omega) (by rw [zs_length]; omega)).mono (by omega)) (by simp [zs, hvl]) (by simp [zs, hvl]))
   have HE0 := hid (l17_end HV4.out hn hla ((PullI.tail hu4 (by rw [zs_length]; omega) (by rw [zs_length]; omega)).mono (by omega)) (by simp [zs, hvl]) (by simp [zs, hvl]))
   go_wp2_with fail
   go_region
   all_goals
    have kE := (Keeps.refl ((w4.setCell ⟨w.heap.size, 0, none⟩ (.int .i64 b.length)).setCell ⟨w.heap.size, 1, none⟩ (.slice p1 m1 c1))).drew
    have HEx := hid (And.intro (HE0.out.1.keeps kE) (And.intro (kE.cell HE0.out.2.1) (kE.cell HE0.out.2.2)))
    go_wp2_with fail
    exact bodyPost_ret (results_pv1 _ _ w.heap.size _ rfl rfl ⟨_, _, _, rfl⟩ HEx.out.2.1 HEx.out.2.2 ⟨_, _, _, rfl⟩) rfl HEx.out.1
  ·have HF := hid (fun wz => l01Full_any (b.length : Int) wz (by omega) (by omega))
   have hp8 : (2 : Nat) ^ b.length ≤ 2 ^ 8 := Nat.pow_le_pow_right (by omega) (by omega)
   have hpp := Nat.two_pow_pos b.length
   have hpc : (2 : Int) ^ b.length - 1 = ((2 ^ b.length - 1 : Nat) : Int) := by
    rw [show (2 : Int) ^ b.length = ((2 ^ b.length : Nat) : Int) by push_cast; rfl]
    omega
   simp only [Int.toNat_natCast, hpc] at HF
   clear hpc
   have hq : 2 ^ b.length - 1 ≤ 255 := by omega
   generalize 2 ^ b.length - 1 = q at *
   clear hp8 hpp
   have HWQ := hid (show IntKind.i64.wrap ((q : Int) + 3) = ((q + 3 : Nat) : Int) by rw [show (q : Int) + 3 = ((q + 3 : Nat) : Int) by push_cast; rfl]; exact wrapN _ (by omega))
   have hbq : B < q3 := by have := HV4.out.lt; omega
   have HEND := hid (fun (w8 : World) (P8 : LV B w w8 g (b.length : Int) (.slice p1 m1 c1) (zs b)) (u8 : OwnI w8 w2.heap.size (.slice (some ⟨q3, 0, none⟩) 6 cap3) (zs vs)) (i : Nat) (hi : i < 6) (x : Int) => by
    have hst := OwnI.store u8 i (by rw [zs_length]; omega) x
    exact l17_end (P8.touch ((Touch.grown hst.2).mono (fun k e => by simpa using e)) hqg) hn hla ((PullI.of (hst.1) (by simp [zs]; omega)).mono (show w.heap.size ≤ w2.heap.size by omega)) (by simp [zs, hvl]) (by simp [zs, hvl]))
   go_wp2_with fail
   go_region_law (first
    | (go_simp; go_at_call 80; refine (HF.out _).mono ?_; rintro e w' ⟨rfl, rfl⟩)
    | (have hq7 := P7.D.2; go_simp; go_at_call 50; refine (l01Next_any (IntKind.i64.wrap ((q : Int) + 3)) B _ hq7 (by rw [HWQ.out]; omega)).mono ?_; rintro e w8 ⟨r8, rfl, hr8, d8⟩; have P8 := P7.dr d8; have x8 : w8.cell? ⟨g, 0, none⟩ = some (.int .i64 (b.length : Int)) := P8.pb.cell 0 (by simp); have hr8i : (r7 : Int) < 6 := hr7i; have hr8n : r7 < 6 := hr7'; have u8 := u7.dr d8 (by omega); have hrr : r7 < 6 := hr7'; obtain ⟨c8, f8⟩ := u8.zcell r7 (by omega))
    | (go_simp; go_at_call 50; refine (l01Next_any 6 B _ HVd.out.D.2 (by omega)).mono ?_; rintro e w7 ⟨r7, rfl, hr7, d7⟩; have P7 := HVd.out.dr d7; have u7 := hud.dr d7 (by omega); have x7 : w7.cell? ⟨g, 0, none⟩ = some (.int .i64 (b.length : Int)) := P7.pb.cell 0 (by simp); have hr7' : r7 < 6 := (by omega); have hr7i : (r7 : Int) < 6 := (by omega)))
   all_goals
    have hst := fun x : Int => OwnI.store u8 r7 (by rw [zs_length]; omega) x
    have HL := fun x : Int => P8.touch ((Touch.grown (hst x).2).mono (fun k e => by simpa using e)) hqg
    have HEX := hid (fun x : Int => HEND.out w8 P8 u8 r7 hr8n x)
    have z0 : ∀ x : Int, (w8.setCell ⟨q3, r7, none⟩ (.int .i64 x)).cell? ⟨g, 0, none⟩ = some (.int .i64 (b.length : Int)) := fun x => (HL x).pb.cell 0 (by simp)
    have z1 : ∀ x : Int, (w8.setCell ⟨q3, r7, none⟩ (.int .i64 x)).cell? ⟨g, 1, none⟩ = some (.slice p1 m1 c1) := fun x => (HL x).pb.cell 1 (by simp)
    have t0 : ∀ x : Int, (w8.setCell ⟨q3, r7, none⟩ (.int .i64 x)).cell? ⟨w.heap.size, 0, none⟩ = some (.int .i64 0) := fun x => (HL x).box.cell 0 (by simp)
    have t1 : ∀ x : Int, (w8.setCell ⟨q3, r7, none⟩ (.int .i64 x)).cell? ⟨w.heap.size, 1, none⟩ = some (.slice none 0 0) := fun x => (HL x).box.cell 1 (by simp)
    have e0 := fun x => (HL x).box.froz 0
    have e1 := fun x => (HL x).box.froz 1
    clear HL hst P8 P7 u7 u8 d7 d8 HEND HVd HV4 hud hu4
    go_wp2_with fail
    exact bodyPost_ret (results_pv1 _ _ w.heap.size _ rfl rfl ⟨_, _, _, rfl⟩ (HEX.out _).2.1 (HEX.out _).2.2 ⟨_, _, _, rfl⟩) rfl (HEX.out _).1
  ·have n0 : ((r4 : Nat) : Int) ≠ 0 := by omega
   have n1 : ((r4 : Nat) : Int) ≠ 1 := by omega
   have HE0 := hid (l17_end HV4.out hn hla ((PullI.of hu4 (by rw [zs_length]; omega)).mono (by omega)) (by rw [zs_length]; omega) (by rw [zs_length]; omega))
   go_wp2_with fail
   exact bodyPost_ret (results_pv1 _ _ w.heap.size _ rfl rfl ⟨_, _, _, rfl⟩ HE0.out.2.1 HE0.out.2.2 ⟨_, _, _, rfl⟩) rfl HE0.out.1
def DrawnPV (w : World) (e : Ending) (w' : World) : Prop := ∃ (n : Int) (v : Value) (a : List Int) (u : Value) (vs : List Int), e = .returned (.tuple #[.agg #[.int .i64 n, v], u]) ∧ Ints w' v a ∧ Ints w' u vs ∧ Keeps w w'
theorem results_pv3 (tmps : Array Value) (W : World) (r : Nat) (u : Value) (h2 : tmps.getD 2 undef = .pointer (some ⟨r, 0, none⟩)) (h3 : tmps.getD 3 undef = u) (hu : ∃ p m q, u = .slice p m q) {v : Value} {n : Int}
  (ha : W.cell? ⟨r, 0, none⟩ = some (.int .i64 n)) (hb : W.cell? ⟨r, 1, none⟩ = some v) (hv : ∃ p m q, v = .slice p m q) :
  (results Tryz.f29 tmps).run Tryz.prog W = .ok (.tuple #[.agg #[.int .i64 n, v], u]) W := by
 have hr : Tryz.f29.results = #[.cell 2 31, .tmp 3] := rfl
 obtain ⟨p, m, q, rfl⟩ := hv
 obtain ⟨p2, m2, q2, rfl⟩ := hu
 unfold results
 rw [hr]
 rw [Array.getD_eq_getD_getElem?] at h2 h3
 simp [go_sem, loadVar, h2, h3, ha, hb]
theorem Ints.tail1 {w : World} {b o m cap : Nat} {a : List Int} (h : Ints w (.slice (some ⟨b, o, none⟩) m cap) a) (h1 : 1 ≤ a.length) : Ints w (.slice (some ⟨b, o + 1, none⟩) (m - 1) (cap - 1)) (a.drop 1) := by
 obtain ⟨_, _, e, hc, hm, hat, hl⟩ := h
 injection e with e1 e2 e3
 subst e1 e2 e3
 refine ⟨some ⟨b, o + 1, none⟩, cap - 1, by simp, by simp; omega, by omega, ?_, by simp; omega⟩
 intro j hj
 have hj' : j < (a.drop 1).length := by simpa [intCells] using hj
 obtain ⟨b', o', e1, hc⟩ := hat.int (j + 1) (by simp at hj'; omega)
 cases e1
 refine ⟨b, o + 1, rfl, ?_⟩
 rw [show o + 1 + j = o + (j + 1) by omega, hc]
 simp [intCells]
set_option maxRecDepth 20000 in
set_option maxHeartbeats 2000000 in
theorem drawIsValuation_any (v : Value) (k : Nat) (w : World) (hv : Bts w v k) (hk : k ≤ 4096) : Calls Tryz.prog 29 #[v] w (DrawnPV w) := by
 have kA := (Keeps.refl w).alloc (.cells #[.int .i64 0, .slice none 0 0] 31)
 have hb0 : BoxG (w.alloc (.cells #[.int .i64 0, .slice none 0 0] 31)) w.heap.size 31 [.int .i64 0, .slice none 0 0] := BoxG.made w _ _ (by simp) (by simp)
 have hsz : (w.alloc (.cells #[.int .i64 0, .slice none 0 0] 31)).heap.size = w.heap.size + 1 := by simp
 have HF := hid (l01From_any v k _ (hv.keeps kA) hk)
 obtain ⟨p, c, rfl, _⟩ := hv
 go_enter Tryz.func29, Tryz.ntmps29
 go_wp2_with fail
 refine HF.out.mono ?_; rintro e w0 ⟨B, rfl, hB, hs, k0⟩
 have hz0 := k0.size
 have K0 := kA.trans k0
 have hb1 := hb0.keeps k0
 rw [hsz] at hB
 clear hb0 kA HF k0
 go_wp2_with fail
 refine (l17Draw_any B w0 hs).mono ?_; rintro e w1 ⟨n, v1, a, u1, vs, rfl, hv1, hu1, h5, h6, hla, hn, d1⟩
 have hz1 := d1.size
 obtain ⟨p1, m1, c1, rfl⟩ := hv1.shape0
 have hb2 := hb1.drN d1 (by omega)
 have hBl := hs.lt
 have kC := (Keeps.refl w1).alloc (.cells #[.int .i64 n, .slice p1 m1 c1] 31)
 obtain ⟨W1, hW1⟩ : ∃ W, W = w1.alloc (.cells #[.int .i64 n, .slice p1 m1 c1] 31) := ⟨_, rfl⟩
 rw [← hW1] at kC
 have hb3 := hid (hb2.keeps kC)
 have hp3 := hid (show BoxG W1 w1.heap.size 31 [.int .i64 n, .slice p1 m1 c1] by rw [hW1]; exact BoxG.made w1 _ _ (by simp) (by simp))
 have hv3 := hid (hv1.keeps kC)
 have hu3 := hid (hu1.keeps kC)
 have d3 := hid (d1.keeps kC)
 have HW1 := hid hW1
 clear hW1 kC hb2 hv1 hu1 d1 hb1
 obtain ⟨p2, c2, rfl⟩ := hu3.out.shape
 have HNX := hid (l01Next_any 3 B W1 d3.out.2 (by omega))
 go_wp2_with fail
 rw [← HW1.out]
 clear HW1
 go_wp2_with fail
 refine HNX.out.mono ?_; rintro e w4 ⟨r4, rfl, hr4, d4⟩
 have hg1 : w.heap.size < w1.heap.size := by omega
 generalize w1.heap.size = g at *
 have hb4 := hb3.out.drN d4 (by omega)
 have hp4 := hp3.out.drN d4 (by omega)
 have hv4 := hv3.out.dr d4 hBl
 have hu4 := hu3.out.dr d4 hBl
 have D4 := d3.out.trans d4
 clear hb3 hp3 hv3 hu3 d3 d4 HNX
 have hEND := fun (W : World) (hb : BoxG W w.heap.size 31 [.int .i64 0, .slice none 0 0]) (hv : OwnI W w0.heap.size (.slice p1 m1 c1) a) (u : Value) (us : List Int) (hu : PullI w0.heap.size W u us) (D : Dr B w0 W) => (show DrawnPV w (.returned (.tuple #[.agg #[.int .i64 n, .slice p1 m1 c1], u])) ((W.setCell ⟨w.heap.size, 0, none⟩ (.int .i64 n)).setCell ⟨w.heap.size, 1, none⟩ (.slice p1 m1 c1)) from
  ⟨n, _, a, _, us, rfl, OwnI.ints (B := w0.heap.size) (own_boxed (own_boxed hv hb tynePz) (hb.set 0 _) tynePz) (by omega), ((hu.boxed hb tynePz _).boxed (hb.set 0 _) tynePz _).ints, ((Dr.keepsOf K0 (by omega) D).setCell (Nat.le_refl _) _).setCell (Nat.le_refl _) _⟩)
 have HEND := hid hEND; clear hEND K0
 by_cases hr : r4 = 0
 ·subst hr
  have kd := (Keeps.refl w4).drew
  have x0 := hp4.cell 0 (by simp)
  have x1 := hp4.cell 1 (by simp)
  simp only [List.getElem_cons_zero, List.getElem_cons_succ] at x0 x1
  have xd0 := kd.cell x0
  have hl1 : 1 ≤ vs.length := by omega
  have hud := hu4.keeps kd
  obtain ⟨_, _, e9, hc2, hmx2, hat2, hln2⟩ := hu4.ints
  injection e9 with e91 _ e93
  subst e91 e93
  obtain ⟨b2, o2, rfl, -⟩ := hat2.int 0 (by omega)
  clear hat2
  obtain ⟨q, hq, HF⟩ : ∃ q : Nat, q ≤ 255 ∧ ∀ wz, Calls Tryz.prog 80 #[.int .i64 (if 0 < if 8 < n then 8 else n then if 8 < n then 8 else n else 0)] wz fun e w' => e = .returned (.int .i64 (q : Int)) ∧ wz = w' := by
   have hE : 0 ≤ (if 0 < if 8 < n then 8 else n then if 8 < n then 8 else n else 0) ∧ (if 0 < if 8 < n then 8 else n then if 8 < n then 8 else n else 0) ≤ 8 := by
    by_cases h8 : 8 < n
    ·simp [h8]
    ·by_cases h0 : 0 < n
     ·simp [h8, h0]; omega
     ·simp [h8, h0]
   generalize (if 0 < if 8 < n then 8 else n then if 8 < n then 8 else n else 0) = E at *
   have hp8 : (2 : Nat) ^ E.toNat ≤ 2 ^ 8 := Nat.pow_le_pow_right (by omega) (by omega)
   have hpp := Nat.two_pow_pos E.toNat
   refine ⟨2 ^ E.toNat - 1, by omega, fun wz => ?_⟩
   have h := l01Full_any E wz hE.1 (by omega)
   rw [show (2 : Int) ^ E.toNat - 1 = ((2 ^ E.toNat - 1 : Nat) : Int) by rw [show (2 : Int) ^ E.toNat = ((2 ^ E.toNat : Nat) : Int) by push_cast; rfl]; omega] at h
   exact h
  have HFG : Hid (∀ wz, Calls Tryz.prog 80 #[.int .i64 (max 0 (min n 8))] wz fun e w' => e = .returned (.int .i64 (q : Int)) ∧ wz = w') := hid (fun wz => by
   have h := HF wz
   rw [show (if 0 < if 8 < n then 8 else n then if 8 < n then 8 else n else 0) = max 0 (min n 8) by (repeat' split) <;> omega] at h
   exact h)
  have HFF := hid HF; clear HF
  have HWQ := hid (show IntKind.i64.wrap ((q : Int) + 1) = ((q + 1 : Nat) : Int) by rw [show (q : Int) + 1 = ((q + 1 : Nat) : Int) by push_cast; rfl]; exact wrapN _ (by omega))
  have Dd := D4.keeps kd
  have hbd := hb4.keeps kd
  have hvd := hv4.keeps kd
  have hsl1 : (1 : Int) ≤ vs.length := by omega
  have hc2' : ¬ c2 = 1 := by omega
  unfold maxLen at hmx2
  go_wp2_with fail
  go_region_law (first
   | (go_simp; go_at_call 80; (first | refine (HFF.out _).mono ?_ | refine (HFG.out _).mono ?_); rintro e w' ⟨rfl, rfl⟩)
   | (go_simp; go_at_call 50; refine (l01Next_any (IntKind.i64.wrap ((q : Int) + 1)) B _ Dd.2 (by rw [HWQ.out]; omega)).mono ?_; rintro e w8 ⟨r8, rfl, hr8, d8⟩; have D8 := Dd.trans d8; have hb8 := hbd.drN d8 (by omega); have hv8 := hvd.dr d8 hBl; have hu8 := hud.dr d8 hBl; have kA8 := (Keeps.refl w8).alloc (.cells #[.int .i64 (r8 : Int)] 2); have hl8 : OwnI (w8.alloc (.cells #[.int .i64 (r8 : Int)] 2)) w8.heap.size (.slice (some ⟨w8.heap.size, 0, none⟩) 1 1) [(r8 : Int)] := OwnI.lit w8 _ (by simp [maxLen]); have hz8 := d8.size)
   | (refine stepI rfl (.tmp 25) (.tmp 27) rfl w8.heap.size _ [(r8 : Int)] rfl hl8 _ (vs.drop 1) rfl ((hu8.keeps kA8).ints.tail1 hl1) (by simp) (by simp; omega) ?_; intro v9 w9 hv9 hg9 hr9))
  all_goals
   have k9 : Keeps w8 w9 := kA8.grown hg9 hr9
   have hb9 := hb8.keeps k9
   have hw8 := Dd.size
   have HE1 := hid (HEND.out w9 hb9 (hv8.keeps k9) v9 _ (PullI.of (hv9.mono (Nat.le_trans hw8 hz8)) (by simp; omega)) (D8.keeps k9))
   have HE2 := hid (box_two (x := .int .i64 n) (y := .slice p1 m1 c1) hb9)
   have hp9 := (hp4.keeps kd).drN d8 (by omega)
   have z0 := (hp9.keeps k9).cell 0 (by simp)
   have z1 := (hp9.keeps k9).cell 1 (by simp)
   have y0 := hb9.cell 0 (by simp)
   have y1 := hb9.cell 1 (by simp)
   have f0 := hb9.froz 0
   have f1 := hb9.froz 1
   simp only [List.getElem_cons_zero, List.getElem_cons_succ] at z0 z1 y0 y1
   obtain ⟨p9, m9, c9, rfl⟩ := hv9.shape0
   clear hp9 hb9 k9 hv9 hg9 hr9 hb8 hv8 hu8 D8 d8 hl8 kA8 HFF HFG HWQ Dd hbd hvd hud hp4 hb4 hv4 hu4 D4 HEND xd0 x0 x1
   generalize (max 0 (min n 8)) = E3 at *
   generalize (min n 8) = E4 at *
   generalize (if 0 < if 8 < n then 8 else n then if 8 < n then 8 else n else 0) = E1 at *
   generalize (if 8 < n then 8 else n) = E2 at *
   go_wp2_with fail
   exact bodyPost_ret (results_pv3 _ _ w.heap.size _ rfl rfl ⟨_, _, _, rfl⟩ HE2.out.1 HE2.out.2 ⟨_, _, _, rfl⟩) rfl HE1.out
 ·have hr' : ((r4 : Nat) : Int) ≠ 0 := by omega
  have HE1 := hid (HEND.out w4 hb4 hv4 _ vs hu4 D4)
  have HE2 := hid (box_two (x := .int .i64 n) (y := .slice p1 m1 c1) hb4)
  have x0 := hp4.cell 0 (by simp)
  have x1 := hp4.cell 1 (by simp)
  have y0 := hb4.cell 0 (by simp)
  have y1 := hb4.cell 1 (by simp)
  have f0 := hb4.froz 0
  have f1 := hb4.froz 1
  simp only [List.getElem_cons_zero, List.getElem_cons_succ] at x0 x1 y0 y1
  clear hb4 hp4 hv4 hu4 D4 HEND
  go_wp2_with fail
  exact bodyPost_ret (results_pv3 _ _ w.heap.size _ rfl rfl ⟨_, _, _, rfl⟩ HE2.out.1 HE2.out.2 ⟨_, _, _, rfl⟩) rfl HE1.out
end Go.Proofs.YtfmmajgkjkmghaaGreat
