import Derived.Test.YtfmmajgkjkmghaaGreatHK1
import Derived.Test.YtfmmajgkjkmghaaGreatHW7
/- Walks: the box translation on both sides. -/
namespace Go.Proofs.YtfmmajgkjkmghaaGreat
open Go.RowKit
theorem boxed_any (a : List Nd) (va : Value) (w : World) (hva : Nds w va a) (hl : 1 + a.length ≤ 2147483648) :
  Calls Tryz.prog 33 #[va] w (RetN w (⟨5, 0⟩ :: a)) := by
 go_enter Tryz.func33, Tryz.ntmps33
 go_wp2_with (go_at_call 66; refine (prefix_any 5 a _ _ hva hl).mono ?_; rintro e w1 ⟨v1, rfl, hv1, k1⟩)
 go_ret
 exact ⟨_, rfl, hv1, k1⟩
def bxt : Fm → Fm
 | .var v => .box (.var v)
 | .fls => .fls
 | .and a b => .and (bxt a) (bxt b)
 | .or a b => .or (bxt a) (bxt b)
 | .imp a b => .box (.imp (bxt a) (bxt b))
 | .box _ => .fls
 | .dia _ => .fls
theorem bxt_len (t : Fm) : (bxt t).enc.length ≤ 9 * t.enc.length := by
 induction t <;> simp [bxt, Fm.enc] at * <;> omega
set_option maxRecDepth 20000 in
set_option maxHeartbeats 1000000 in
theorem l29Box_any (t : Fm) (hp : t.plain = true) : ∀ (v : Value) (w : World), Nds w v t.enc → t.enc.length ≤ 1048576 → Calls Tryz.prog 39 #[v] w (RetN w (bxt t).enc) := by
 induction t with
 | var i =>
  intro v w hv hl
  have hv0 := hv
  obtain ⟨b, off, n, cap, rfl, h0, h1, h2, h3, hc, _⟩ := hv.head
  clear hv
  go_enter Tryz.func39, Tryz.ntmps39
  go_wp2_with (go_at_call 87; refine (l02Pre_any 5 _ _ _ hv0 (by simp [Fm.enc])).mono ?_; rintro e w1 ⟨v1, rfl, hv1, k1⟩)
  go_ret
  exact ⟨_, rfl, hv1, k1⟩
 | fls =>
  intro v w hv hl
  obtain ⟨b, off, n, cap, rfl, h0, h1, h2, h3, hc, _⟩ := hv.head
  clear hv
  go_enter Tryz.func39, Tryz.ntmps39
  go_wp2_with (go_at_call 88; refine (l02False_any _).mono ?_; rintro e w1 ⟨v1, rfl, hv1, k1⟩)
  go_ret
  exact ⟨_, rfl, hv1, k1⟩
 | box x ih => simp [Fm.plain] at hp
 | dia x ih => simp [Fm.plain] at hp
 | and x y ihx ihy =>
  simp [Fm.plain] at hp
  intro v w hv hl
  have hls : 1 + x.enc.length + y.enc.length ≤ 1048576 := by simp [Fm.enc] at hl; omega
  have HX := hid (ihx hp.1)
  have HY := hid (ihy hp.2)
  clear ihx ihy hl
  have bx := bxt_len x
  have by' := bxt_len y
  have hv0 := hv
  obtain ⟨b, off, n, cap, rfl, h0, h1, h2, h3, hc, _⟩ := hv.head
  clear hv
  go_enter Tryz.func39, Tryz.ntmps39
  go_wp2_with fail
  go_region_held3 (fun w' => w'.cell? ⟨b, off, none⟩ = some (.int .i64 2)) (first | exact hc | exact c2 | exact c4 | exact c5) (first
   | (go_at_call 90; refine (l02Left_any _ _ x y.enc _ _ (hv0.keeps (Keeps.refl w).drew) rfl).mono ?_; rintro e w' ⟨v1, rfl, hv1, rfl⟩)
   | (go_at_call 91; refine (l02Right_any _ _ x y _ _ ((hv0.keeps (Keeps.refl w).drew).keeps k2) rfl).mono ?_; rintro e w' ⟨v3, rfl, hv3, rfl⟩)
   | (go_at_call 39; first
     | ((with_reducible refine (HX.out v1 _ hv1 (by omega)).mono ?_); rintro e w2 ⟨v2, rfl, hv2, k2⟩; have c2 := k2.cell (show (World.drew w).cell? _ = _ from hc))
     | ((with_reducible refine (HY.out v3 _ hv3 (by omega)).mono ?_); rintro e w4 ⟨v4, rfl, hv4, k4⟩; have c4 := k4.cell c2))
   | (go_at_call 89; refine (l02Pair_any _ _ _ _ _ _ ((hv2.nds (by omega)).keeps k4) (hv4.nds (by omega)) (by omega)).mono ?_; rintro e w5 ⟨v5, rfl, hv5, k5⟩; have c5 := k5.cell c4))
  go_wp2
  go_ret
  have kk := ((Keeps.refl w).drew).trans (k2.trans k4)
  exact ⟨_, rfl, hv5.mono kk.size, kk.trans k5⟩
 | or x y ihx ihy =>
  simp [Fm.plain] at hp
  intro v w hv hl
  have hls : 1 + x.enc.length + y.enc.length ≤ 1048576 := by simp [Fm.enc] at hl; omega
  have HX := hid (ihx hp.1)
  have HY := hid (ihy hp.2)
  clear ihx ihy hl
  have bx := bxt_len x
  have by' := bxt_len y
  have hv0 := hv
  obtain ⟨b, off, n, cap, rfl, h0, h1, h2, h3, hc, _⟩ := hv.head
  clear hv
  go_enter Tryz.func39, Tryz.ntmps39
  go_wp2_with fail
  go_region_held3 (fun w' => w'.cell? ⟨b, off, none⟩ = some (.int .i64 3)) (first | exact hc | exact c2 | exact c4 | exact c5) (first
   | (go_at_call 90; refine (l02Left_any _ _ x y.enc _ _ (hv0.keeps (Keeps.refl w).drew) rfl).mono ?_; rintro e w' ⟨v1, rfl, hv1, rfl⟩)
   | (go_at_call 91; refine (l02Right_any _ _ x y _ _ ((hv0.keeps (Keeps.refl w).drew).keeps k2) rfl).mono ?_; rintro e w' ⟨v3, rfl, hv3, rfl⟩)
   | (go_at_call 39; first
     | ((with_reducible refine (HX.out v1 _ hv1 (by omega)).mono ?_); rintro e w2 ⟨v2, rfl, hv2, k2⟩; have c2 := k2.cell (show (World.drew w).cell? _ = _ from hc))
     | ((with_reducible refine (HY.out v3 _ hv3 (by omega)).mono ?_); rintro e w4 ⟨v4, rfl, hv4, k4⟩; have c4 := k4.cell c2))
   | (go_at_call 89; refine (l02Pair_any _ _ _ _ _ _ ((hv2.nds (by omega)).keeps k4) (hv4.nds (by omega)) (by omega)).mono ?_; rintro e w5 ⟨v5, rfl, hv5, k5⟩; have c5 := k5.cell c4))
  go_wp2
  go_ret
  have kk := ((Keeps.refl w).drew).trans (k2.trans k4)
  exact ⟨_, rfl, hv5.mono kk.size, kk.trans k5⟩
 | imp x y ihx ihy =>
  simp [Fm.plain] at hp
  intro v w hv hl
  have hls : 1 + x.enc.length + y.enc.length ≤ 1048576 := by simp [Fm.enc] at hl; omega
  have HX := hid (ihx hp.1)
  have HY := hid (ihy hp.2)
  clear ihx ihy hl
  have bx := bxt_len x
  have by' := bxt_len y
  have hv0 := hv
  obtain ⟨b, off, n, cap, rfl, h0, h1, h2, h3, hc, _⟩ := hv.head
  clear hv
  go_enter Tryz.func39, Tryz.ntmps39
  go_wp2_with fail
  go_region_held3 (fun w' => w'.cell? ⟨b, off, none⟩ = some (.int .i64 4)) (first | exact hc | exact c2 | exact c4 | exact c5) (first
   | (go_at_call 90; refine (l02Left_any _ _ x y.enc _ _ (hv0.keeps (Keeps.refl w).drew) rfl).mono ?_; rintro e w' ⟨v1, rfl, hv1, rfl⟩)
   | (go_at_call 91; refine (l02Right_any _ _ x y _ _ ((hv0.keeps (Keeps.refl w).drew).keeps k2) rfl).mono ?_; rintro e w' ⟨v3, rfl, hv3, rfl⟩)
   | (go_at_call 39; first
     | ((with_reducible refine (HX.out v1 _ hv1 (by omega)).mono ?_); rintro e w2 ⟨v2, rfl, hv2, k2⟩; have c2 := k2.cell (show (World.drew w).cell? _ = _ from hc))
     | ((with_reducible refine (HY.out v3 _ hv3 (by omega)).mono ?_); rintro e w4 ⟨v4, rfl, hv4, k4⟩; have c4 := k4.cell c2))
   | (go_at_call 89; refine (l02Pair_any _ _ _ _ _ _ ((hv2.nds (by omega)).keeps k4) (hv4.nds (by omega)) (by omega)).mono ?_; rintro e w5 ⟨v5, rfl, hv5, k5⟩; have c5 := k5.cell c4))
  go_wp2_with (go_at_call 87; refine (l02Pre_any 5 _ _ _ (hv5.nds (by simp; omega)) (by simp; omega)).mono ?_; rintro e w6 ⟨v6, rfl, hv6, k6⟩)
  go_ret
  have kk := ((Keeps.refl w).drew).trans ((k2.trans k4).trans k5)
  exact ⟨_, rfl, hv6.mono kk.size, kk.trans k6⟩
set_option maxHeartbeats 400000 in
theorem bxtJ_and_any (x y : Fm) (va vb : Value) (w : World) (hva : Nds w va x.enc) (hvb : Nds w vb y.enc) (hl : x.enc.length + y.enc.length ≤ 100000000) :
  Calls Tryz.prog 34 #[.int .i64 2, va, vb] w (RetN w (Fm.and x y).enc) := by
 go_enter Tryz.func34, Tryz.ntmps34
 go_wp2_with (first
  | (go_at_call 35; refine (join_any _ _ _ _ _ _ hva hvb (by omega)).mono ?_; rintro e w1 ⟨v1, rfl, hv1, k1⟩)
  | (go_at_call 33; refine (boxed_any _ v1 _ (hv1.nds (by simp; omega)) (by simp; omega)).mono ?_; rintro e w2 ⟨v2, rfl, hv2, k2⟩))
 go_ret
 exact ⟨_, rfl, hv1, k1⟩
set_option maxHeartbeats 400000 in
theorem bxtJ_or_any (x y : Fm) (va vb : Value) (w : World) (hva : Nds w va x.enc) (hvb : Nds w vb y.enc) (hl : x.enc.length + y.enc.length ≤ 100000000) :
  Calls Tryz.prog 34 #[.int .i64 3, va, vb] w (RetN w (Fm.or x y).enc) := by
 go_enter Tryz.func34, Tryz.ntmps34
 go_wp2_with (first
  | (go_at_call 35; refine (join_any _ _ _ _ _ _ hva hvb (by omega)).mono ?_; rintro e w1 ⟨v1, rfl, hv1, k1⟩)
  | (go_at_call 33; refine (boxed_any _ v1 _ (hv1.nds (by simp; omega)) (by simp; omega)).mono ?_; rintro e w2 ⟨v2, rfl, hv2, k2⟩))
 go_ret
 exact ⟨_, rfl, hv1, k1⟩
set_option maxHeartbeats 400000 in
theorem bxtJ_imp_any (x y : Fm) (va vb : Value) (w : World) (hva : Nds w va x.enc) (hvb : Nds w vb y.enc) (hl : x.enc.length + y.enc.length ≤ 100000000) :
  Calls Tryz.prog 34 #[.int .i64 4, va, vb] w (RetN w (Fm.box (Fm.imp x y)).enc) := by
 go_enter Tryz.func34, Tryz.ntmps34
 go_wp2_with (first
  | (go_at_call 35; refine (join_any _ _ _ _ _ _ hva hvb (by omega)).mono ?_; rintro e w1 ⟨v1, rfl, hv1, k1⟩)
  | (go_at_call 33; refine (boxed_any _ v1 _ (hv1.nds (by simp; omega)) (by simp; omega)).mono ?_; rintro e w2 ⟨v2, rfl, hv2, k2⟩))
 go_ret
 exact ⟨_, rfl, hv2.mono k1.size, k1.trans k2⟩
set_option maxRecDepth 20000 in
set_option maxHeartbeats 1000000 in
theorem ofBoxTranslation_any (t : Fm) (hp : t.plain = true) : ∀ (v : Value) (w : World), Nds w v t.enc → t.enc.length ≤ 1048576 → Calls Tryz.prog 84 #[.agg #[.func (.func 33) #[] #[], .func (.func 34) #[] #[]], v] w (RetN w (bxt t).enc) := by
 induction t with
 | var i =>
  intro v w hv hl
  have hv0 := hv
  obtain ⟨b, off, n, cap, rfl, h0, h1, h2, h3, hc, _⟩ := hv.head
  clear hv
  have kA := (Keeps.refl w).alloc (.cells #[.func (.func 33) #[] #[], .func (.func 34) #[] #[]] 58)
  have hcA := kA.cell hc
  go_enter Tryz.func84, Tryz.ntmps84
  go_wp2_with (go_at_call 33; refine (boxed_any _ _ _ (hv0.keeps kA) (by simp [Fm.enc])).mono ?_; rintro e w1 ⟨v1, rfl, hv1, k1⟩)
  go_ret
  exact ⟨_, rfl, hv1.mono kA.size, kA.trans k1⟩
 | fls =>
  intro v w hv hl
  obtain ⟨b, off, n, cap, rfl, h0, h1, h2, h3, hc, _⟩ := hv.head
  clear hv
  have kA := (Keeps.refl w).alloc (.cells #[.func (.func 33) #[] #[], .func (.func 34) #[] #[]] 58)
  have hcA := kA.cell hc
  go_enter Tryz.func84, Tryz.ntmps84
  go_wp2_with (go_at_call 141; refine (falsum_any _).mono ?_; rintro e w1 ⟨v1, rfl, hv1, k1⟩)
  go_ret
  exact ⟨_, rfl, hv1.mono kA.size, kA.trans k1⟩
 | box x ih => simp [Fm.plain] at hp
 | dia x ih => simp [Fm.plain] at hp
 | and x y ihx ihy =>
  simp [Fm.plain] at hp
  intro v w hv hl
  have hls : 1 + x.enc.length + y.enc.length ≤ 1048576 := by simp [Fm.enc] at hl; omega
  have HX := hid (ihx hp.1)
  have HY := hid (ihy hp.2)
  clear ihx ihy hl
  have bx := bxt_len x
  have by' := bxt_len y
  have hv0 := hv
  obtain ⟨b, off, n, cap, rfl, h0, h1, h2, h3, hc, _⟩ := hv.head
  clear hv
  have kA := (Keeps.refl w).alloc (.cells #[.func (.func 33) #[] #[], .func (.func 34) #[] #[]] 58)
  have hcA := kA.cell hc
  have f0 : (w.alloc (.cells #[.func (.func 33) #[] #[], .func (.func 34) #[] #[]] 58)).cell? ⟨w.heap.size, 0, none⟩ = some (.func (.func 33) #[] #[]) := by simp
  have f1 : (w.alloc (.cells #[.func (.func 33) #[] #[], .func (.func 34) #[] #[]] 58)).cell? ⟨w.heap.size, 1, none⟩ = some (.func (.func 34) #[] #[]) := by simp
  have HF0 := hid f0; clear f0
  have HF1 := hid f1; clear f1
  have HCA := hid hcA
  have kD := kA.drew
  go_enter Tryz.func84, Tryz.ntmps84
  go_wp2_with fail
  go_region_held3 (fun w' => w'.cell? ⟨b, off, none⟩ = some (.int .i64 2) ∧ w'.cell? ⟨w.heap.size, 0, none⟩ = some (.func (.func 33) #[] #[]) ∧ w'.cell? ⟨w.heap.size, 1, none⟩ = some (.func (.func 34) #[] #[])) (first | exact ⟨HCA.out, HF0.out, HF1.out⟩ | exact ⟨c2, d2, e2⟩ | exact ⟨c4, d4, e4⟩ | exact ⟨c5, d5, e5⟩) (first
   | (go_at_call 155; refine (first_any _ _ x y.enc _ _ (hv0.keeps kD) rfl).mono ?_; rintro e w' ⟨v1, rfl, hv1, rfl⟩)
   | (go_at_call 157; refine (second_any _ _ x y _ _ ((hv0.keeps kD).keeps k2) rfl).mono ?_; rintro e w' ⟨v3, rfl, hv3, rfl⟩)
   | (go_at_call 84; first
     | ((with_reducible refine (HX.out v1 _ hv1 (by omega)).mono ?_); rintro e w2 ⟨v2, rfl, hv2, k2⟩; have c2 := k2.cell (show (World.drew _).cell? _ = _ from HCA.out); have d2 := k2.cell (show (World.drew _).cell? _ = _ from HF0.out); have e2 := k2.cell (show (World.drew _).cell? _ = _ from HF1.out))
     | ((with_reducible refine (HY.out v3 _ hv3 (by omega)).mono ?_); rintro e w4 ⟨v4, rfl, hv4, k4⟩; have c4 := k4.cell c2; have d4 := k4.cell d2; have e4 := k4.cell e2))
   | (go_at_call 34; refine (bxtJ_and_any _ _ _ _ _ ((hv2.nds (by omega)).keeps k4) (hv4.nds (by omega)) (by omega)).mono ?_; rintro e w5 ⟨v5, rfl, hv5, k5⟩; have c5 := k5.cell c4; have d5 := k5.cell d4; have e5 := k5.cell e4))
  go_wp2
  go_ret
  have kk := kD.trans (k2.trans k4)
  exact ⟨_, rfl, hv5.mono kk.size, kk.trans k5⟩
 | or x y ihx ihy =>
  simp [Fm.plain] at hp
  intro v w hv hl
  have hls : 1 + x.enc.length + y.enc.length ≤ 1048576 := by simp [Fm.enc] at hl; omega
  have HX := hid (ihx hp.1)
  have HY := hid (ihy hp.2)
  clear ihx ihy hl
  have bx := bxt_len x
  have by' := bxt_len y
  have hv0 := hv
  obtain ⟨b, off, n, cap, rfl, h0, h1, h2, h3, hc, _⟩ := hv.head
  clear hv
  have kA := (Keeps.refl w).alloc (.cells #[.func (.func 33) #[] #[], .func (.func 34) #[] #[]] 58)
  have hcA := kA.cell hc
  have f0 : (w.alloc (.cells #[.func (.func 33) #[] #[], .func (.func 34) #[] #[]] 58)).cell? ⟨w.heap.size, 0, none⟩ = some (.func (.func 33) #[] #[]) := by simp
  have f1 : (w.alloc (.cells #[.func (.func 33) #[] #[], .func (.func 34) #[] #[]] 58)).cell? ⟨w.heap.size, 1, none⟩ = some (.func (.func 34) #[] #[]) := by simp
  have HF0 := hid f0; clear f0
  have HF1 := hid f1; clear f1
  have HCA := hid hcA
  have kD := kA.drew
  go_enter Tryz.func84, Tryz.ntmps84
  go_wp2_with fail
  go_region_held3 (fun w' => w'.cell? ⟨b, off, none⟩ = some (.int .i64 3) ∧ w'.cell? ⟨w.heap.size, 0, none⟩ = some (.func (.func 33) #[] #[]) ∧ w'.cell? ⟨w.heap.size, 1, none⟩ = some (.func (.func 34) #[] #[])) (first | exact ⟨HCA.out, HF0.out, HF1.out⟩ | exact ⟨c2, d2, e2⟩ | exact ⟨c4, d4, e4⟩ | exact ⟨c5, d5, e5⟩) (first
   | (go_at_call 155; refine (first_any _ _ x y.enc _ _ (hv0.keeps kD) rfl).mono ?_; rintro e w' ⟨v1, rfl, hv1, rfl⟩)
   | (go_at_call 157; refine (second_any _ _ x y _ _ ((hv0.keeps kD).keeps k2) rfl).mono ?_; rintro e w' ⟨v3, rfl, hv3, rfl⟩)
   | (go_at_call 84; first
     | ((with_reducible refine (HX.out v1 _ hv1 (by omega)).mono ?_); rintro e w2 ⟨v2, rfl, hv2, k2⟩; have c2 := k2.cell (show (World.drew _).cell? _ = _ from HCA.out); have d2 := k2.cell (show (World.drew _).cell? _ = _ from HF0.out); have e2 := k2.cell (show (World.drew _).cell? _ = _ from HF1.out))
     | ((with_reducible refine (HY.out v3 _ hv3 (by omega)).mono ?_); rintro e w4 ⟨v4, rfl, hv4, k4⟩; have c4 := k4.cell c2; have d4 := k4.cell d2; have e4 := k4.cell e2))
   | (go_at_call 34; refine (bxtJ_or_any _ _ _ _ _ ((hv2.nds (by omega)).keeps k4) (hv4.nds (by omega)) (by omega)).mono ?_; rintro e w5 ⟨v5, rfl, hv5, k5⟩; have c5 := k5.cell c4; have d5 := k5.cell d4; have e5 := k5.cell e4))
  go_wp2
  go_ret
  have kk := kD.trans (k2.trans k4)
  exact ⟨_, rfl, hv5.mono kk.size, kk.trans k5⟩
 | imp x y ihx ihy =>
  simp [Fm.plain] at hp
  intro v w hv hl
  have hls : 1 + x.enc.length + y.enc.length ≤ 1048576 := by simp [Fm.enc] at hl; omega
  have HX := hid (ihx hp.1)
  have HY := hid (ihy hp.2)
  clear ihx ihy hl
  have bx := bxt_len x
  have by' := bxt_len y
  have hv0 := hv
  obtain ⟨b, off, n, cap, rfl, h0, h1, h2, h3, hc, _⟩ := hv.head
  clear hv
  have kA := (Keeps.refl w).alloc (.cells #[.func (.func 33) #[] #[], .func (.func 34) #[] #[]] 58)
  have hcA := kA.cell hc
  have f0 : (w.alloc (.cells #[.func (.func 33) #[] #[], .func (.func 34) #[] #[]] 58)).cell? ⟨w.heap.size, 0, none⟩ = some (.func (.func 33) #[] #[]) := by simp
  have f1 : (w.alloc (.cells #[.func (.func 33) #[] #[], .func (.func 34) #[] #[]] 58)).cell? ⟨w.heap.size, 1, none⟩ = some (.func (.func 34) #[] #[]) := by simp
  have HF0 := hid f0; clear f0
  have HF1 := hid f1; clear f1
  have HCA := hid hcA
  have kD := kA.drew
  go_enter Tryz.func84, Tryz.ntmps84
  go_wp2_with fail
  go_region_held3 (fun w' => w'.cell? ⟨b, off, none⟩ = some (.int .i64 4) ∧ w'.cell? ⟨w.heap.size, 0, none⟩ = some (.func (.func 33) #[] #[]) ∧ w'.cell? ⟨w.heap.size, 1, none⟩ = some (.func (.func 34) #[] #[])) (first | exact ⟨HCA.out, HF0.out, HF1.out⟩ | exact ⟨c2, d2, e2⟩ | exact ⟨c4, d4, e4⟩ | exact ⟨c5, d5, e5⟩) (first
   | (go_at_call 155; refine (first_any _ _ x y.enc _ _ (hv0.keeps kD) rfl).mono ?_; rintro e w' ⟨v1, rfl, hv1, rfl⟩)
   | (go_at_call 157; refine (second_any _ _ x y _ _ ((hv0.keeps kD).keeps k2) rfl).mono ?_; rintro e w' ⟨v3, rfl, hv3, rfl⟩)
   | (go_at_call 84; first
     | ((with_reducible refine (HX.out v1 _ hv1 (by omega)).mono ?_); rintro e w2 ⟨v2, rfl, hv2, k2⟩; have c2 := k2.cell (show (World.drew _).cell? _ = _ from HCA.out); have d2 := k2.cell (show (World.drew _).cell? _ = _ from HF0.out); have e2 := k2.cell (show (World.drew _).cell? _ = _ from HF1.out))
     | ((with_reducible refine (HY.out v3 _ hv3 (by omega)).mono ?_); rintro e w4 ⟨v4, rfl, hv4, k4⟩; have c4 := k4.cell c2; have d4 := k4.cell d2; have e4 := k4.cell e2))
   | (go_at_call 34; refine (bxtJ_imp_any _ _ _ _ _ ((hv2.nds (by omega)).keeps k4) (hv4.nds (by omega)) (by omega)).mono ?_; rintro e w5 ⟨v5, rfl, hv5, k5⟩; have c5 := k5.cell c4; have d5 := k5.cell d4; have e5 := k5.cell e4))
  go_wp2
  go_ret
  have kk := kD.trans (k2.trans k4)
  exact ⟨_, rfl, hv5.mono kk.size, kk.trans k5⟩
end Go.Proofs.YtfmmajgkjkmghaaGreat
namespace Go.Proofs.YtfmmajgkjkmghaaGreat
open Go.RowKit
set_option maxRecDepth 20000 in
theorem l02Own_any (a : List Nd) (v : Value) (w : World) (hv : Nds w v a) (hl : a.length ≤ 1073741824) : Calls Tryz.prog 215 #[v] w (RetN w a) := by
 have h1 := OwnN.empty w
 have k1 := (Keeps.refl w).alloc (.cells #[] 61)
 have hv1 := hv.keeps k1
 go_enter Tryz.func215, Tryz.ntmps215
 go_wp2_with (at_builtin; refine appN rfl _ _ rfl w.heap.size _ [] rfl h1 _ a rfl hv1 (by simp) (by simp; omega) ?_; intro v1 w1 hv1 hg1 hr1; have k2 : Keeps w w1 := k1.grown hg1 hr1)
 go_ret
 exact ⟨_, rfl, by simpa using hv1, k2⟩
set_option maxRecDepth 20000 in
theorem cloneN_any (a : List Nd) (v : Value) (w : World) (hv : Nds w v a) (hp : 0 < a.length) (_hl : a.length ≤ 1073741824) : Calls Tryz.prog 136 #[v] w (RetN w a) := by
 have h1 := OwnN.empty w
 have k1 := (Keeps.refl w).alloc (.cells #[] 61)
 have hv1 := hv.keeps k1
 obtain ⟨p, cap, rfl, _, _, hat, _⟩ := hv
 obtain ⟨b, off, rfl⟩ := hat.ptrN hp
 clear hat
 have he : (binOp .eql 24 (.slice (some ⟨b, off, none⟩) a.length cap) (.slice none 0 0)).run Tryz.prog w = .ok (.bool false) w := by kernel_rfl
 go_enter Tryz.func136, Tryz.ntmps136
 go_wp2_with (at_builtin; refine appN rfl _ _ rfl w.heap.size _ [] rfl h1 _ a rfl hv1 (by simp) (by simp; omega) ?_; intro v1 w1 hv1 hg1 hr1; have k2 : Keeps w w1 := k1.grown hg1 hr1)
 go_ret
 exact ⟨_, rfl, by simpa using hv1, k2⟩
theorem clone_any (a : List Nd) (v : Value) (w : World) (hv : Nds w v a) (hp : 0 < a.length) (hl : a.length ≤ 1073741824) : Calls Tryz.prog 61 #[v] w (RetN w a) := by
 go_enter Tryz.func61, Tryz.ntmps61
 go_wp2_with (go_at_call 136; refine (cloneN_any a _ _ hv hp hl).mono ?_; rintro e w1 ⟨v1, rfl, hv1, k1⟩)
 go_ret
 exact ⟨_, rfl, hv1, k1⟩
def outr : Fm → Fm
 | .var v => .var v
 | .fls => .fls
 | .and a b => .and (outr a) (outr b)
 | .or a b => .or (.box (outr a)) (.box (outr b))
 | .imp a b => .imp (.box (outr a)) (outr b)
 | .box _ => .fls
 | .dia _ => .fls
theorem outr_len (t : Fm) : (outr t).enc.length ≤ 9 * t.enc.length := by
 induction t <;> simp [outr, Fm.enc] at * <;> omega
set_option maxHeartbeats 400000 in
theorem outrJ_and_any (x y : Fm) (va vb : Value) (w : World) (hva : Nds w va x.enc) (hvb : Nds w vb y.enc) (hl : x.enc.length + y.enc.length ≤ 100000000) :
  Calls Tryz.prog 62 #[.int .i64 2, va, vb] w (RetN w (Fm.and x y).enc) := by
 go_enter Tryz.func62, Tryz.ntmps62
 go_wp2_with (go_at_call 35; refine (join_any _ _ _ _ _ _ hva hvb (by omega)).mono ?_; rintro e w1 ⟨v1, rfl, hv1, k1⟩)
 go_ret
 exact ⟨_, rfl, hv1, k1⟩
set_option maxHeartbeats 400000 in
theorem outrJ_or_any (x y : Fm) (va vb : Value) (w : World) (hva : Nds w va x.enc) (hvb : Nds w vb y.enc) (hl : x.enc.length + y.enc.length ≤ 100000000) :
  Calls Tryz.prog 62 #[.int .i64 3, va, vb] w (RetN w (Fm.or (.box x) (.box y)).enc) := by
 go_enter Tryz.func62, Tryz.ntmps62
 go_wp2_with (first
  | (go_at_call 33; first
    | ((with_reducible refine (boxed_any _ va w hva (by omega)).mono ?_); rintro e w1 ⟨v1, rfl, hv1, k1⟩)
    | ((with_reducible refine (boxed_any _ vb w1 (hvb.keeps k1) (by omega)).mono ?_); rintro e w2 ⟨v2, rfl, hv2, k2⟩))
  | (go_at_call 35; refine (join_any _ _ _ _ _ _ ((hv1.nds (by simp; omega)).keeps k2) (hv2.nds (by simp; omega)) (by simp; omega)).mono ?_; rintro e w3 ⟨v3, rfl, hv3, k3⟩))
 go_ret
 have kk := k1.trans k2
 exact ⟨_, rfl, hv3.mono kk.size, kk.trans k3⟩
set_option maxHeartbeats 400000 in
theorem outrJ_imp_any (x y : Fm) (va vb : Value) (w : World) (hva : Nds w va x.enc) (hvb : Nds w vb y.enc) (hl : x.enc.length + y.enc.length ≤ 100000000) :
  Calls Tryz.prog 62 #[.int .i64 4, va, vb] w (RetN w (Fm.imp (.box x) y).enc) := by
 go_enter Tryz.func62, Tryz.ntmps62
 go_wp2_with (first
  | (go_at_call 33; refine (boxed_any _ va w hva (by omega)).mono ?_; rintro e w1 ⟨v1, rfl, hv1, k1⟩)
  | (go_at_call 35; refine (join_any _ _ _ _ _ _ (hv1.nds (by simp; omega)) (hvb.keeps k1) (by simp; omega)).mono ?_; rintro e w3 ⟨v3, rfl, hv3, k3⟩))
 go_ret
 exact ⟨_, rfl, hv3.mono k1.size, k1.trans k3⟩
set_option maxRecDepth 20000 in
set_option maxHeartbeats 1000000 in
theorem ofOuterBox_any (t : Fm) (hp : t.plain = true) : ∀ (v : Value) (w : World), Nds w v t.enc → t.enc.length ≤ 1048576 → Calls Tryz.prog 84 #[.agg #[.func (.func 61) #[] #[], .func (.func 62) #[] #[]], v] w (RetN w (outr t).enc) := by
 induction t with
 | var i =>
  intro v w hv hl
  have hv0 := hv
  obtain ⟨b, off, n, cap, rfl, h0, h1, h2, h3, hc, _⟩ := hv.head
  clear hv
  have kA := (Keeps.refl w).alloc (.cells #[.func (.func 61) #[] #[], .func (.func 62) #[] #[]] 58)
  have hcA := kA.cell hc
  go_enter Tryz.func84, Tryz.ntmps84
  go_wp2_with (go_at_call 61; refine (clone_any _ _ _ (hv0.keeps kA) (by simp [Fm.enc]) (by simp [Fm.enc])).mono ?_; rintro e w1 ⟨v1, rfl, hv1, k1⟩)
  go_ret
  exact ⟨_, rfl, hv1.mono kA.size, kA.trans k1⟩
 | fls =>
  intro v w hv hl
  obtain ⟨b, off, n, cap, rfl, h0, h1, h2, h3, hc, _⟩ := hv.head
  clear hv
  have kA := (Keeps.refl w).alloc (.cells #[.func (.func 61) #[] #[], .func (.func 62) #[] #[]] 58)
  have hcA := kA.cell hc
  go_enter Tryz.func84, Tryz.ntmps84
  go_wp2_with (go_at_call 141; refine (falsum_any _).mono ?_; rintro e w1 ⟨v1, rfl, hv1, k1⟩)
  go_ret
  exact ⟨_, rfl, hv1.mono kA.size, kA.trans k1⟩
 | box x ih => simp [Fm.plain] at hp
 | dia x ih => simp [Fm.plain] at hp
 | and x y ihx ihy =>
  simp [Fm.plain] at hp
  intro v w hv hl
  have hls : 1 + x.enc.length + y.enc.length ≤ 1048576 := by simp [Fm.enc] at hl; omega
  have HX := hid (ihx hp.1)
  have HY := hid (ihy hp.2)
  clear ihx ihy hl
  have bx := outr_len x
  have by' := outr_len y
  have hv0 := hv
  obtain ⟨b, off, n, cap, rfl, h0, h1, h2, h3, hc, _⟩ := hv.head
  clear hv
  have kA := (Keeps.refl w).alloc (.cells #[.func (.func 61) #[] #[], .func (.func 62) #[] #[]] 58)
  have hcA := kA.cell hc
  have f0 : (w.alloc (.cells #[.func (.func 61) #[] #[], .func (.func 62) #[] #[]] 58)).cell? ⟨w.heap.size, 0, none⟩ = some (.func (.func 61) #[] #[]) := by simp
  have f1 : (w.alloc (.cells #[.func (.func 61) #[] #[], .func (.func 62) #[] #[]] 58)).cell? ⟨w.heap.size, 1, none⟩ = some (.func (.func 62) #[] #[]) := by simp
  have HF0 := hid f0; clear f0
  have HF1 := hid f1; clear f1
  have HCA := hid hcA
  have kD := kA.drew
  go_enter Tryz.func84, Tryz.ntmps84
  go_wp2_with fail
  go_region_held3 (fun w' => w'.cell? ⟨b, off, none⟩ = some (.int .i64 2) ∧ w'.cell? ⟨w.heap.size, 0, none⟩ = some (.func (.func 61) #[] #[]) ∧ w'.cell? ⟨w.heap.size, 1, none⟩ = some (.func (.func 62) #[] #[])) (first | exact ⟨HCA.out, HF0.out, HF1.out⟩ | exact ⟨c2, d2, e2⟩ | exact ⟨c4, d4, e4⟩ | exact ⟨c5, d5, e5⟩) (first
   | (go_at_call 155; refine (first_any _ _ x y.enc _ _ (hv0.keeps kD) rfl).mono ?_; rintro e w' ⟨v1, rfl, hv1, rfl⟩)
   | (go_at_call 157; refine (second_any _ _ x y _ _ ((hv0.keeps kD).keeps k2) rfl).mono ?_; rintro e w' ⟨v3, rfl, hv3, rfl⟩)
   | (go_at_call 84; first
     | ((with_reducible refine (HX.out v1 _ hv1 (by omega)).mono ?_); rintro e w2 ⟨v2, rfl, hv2, k2⟩; have c2 := k2.cell (show (World.drew _).cell? _ = _ from HCA.out); have d2 := k2.cell (show (World.drew _).cell? _ = _ from HF0.out); have e2 := k2.cell (show (World.drew _).cell? _ = _ from HF1.out))
     | ((with_reducible refine (HY.out v3 _ hv3 (by omega)).mono ?_); rintro e w4 ⟨v4, rfl, hv4, k4⟩; have c4 := k4.cell c2; have d4 := k4.cell d2; have e4 := k4.cell e2))
   | (go_at_call 62; refine (outrJ_and_any _ _ _ _ _ ((hv2.nds (by omega)).keeps k4) (hv4.nds (by omega)) (by omega)).mono ?_; rintro e w5 ⟨v5, rfl, hv5, k5⟩; have c5 := k5.cell c4; have d5 := k5.cell d4; have e5 := k5.cell e4))
  go_wp2
  go_ret
  have kk := kD.trans (k2.trans k4)
  exact ⟨_, rfl, hv5.mono kk.size, kk.trans k5⟩
 | or x y ihx ihy =>
  simp [Fm.plain] at hp
  intro v w hv hl
  have hls : 1 + x.enc.length + y.enc.length ≤ 1048576 := by simp [Fm.enc] at hl; omega
  have HX := hid (ihx hp.1)
  have HY := hid (ihy hp.2)
  clear ihx ihy hl
  have bx := outr_len x
  have by' := outr_len y
  have hv0 := hv
  obtain ⟨b, off, n, cap, rfl, h0, h1, h2, h3, hc, _⟩ := hv.head
  clear hv
  have kA := (Keeps.refl w).alloc (.cells #[.func (.func 61) #[] #[], .func (.func 62) #[] #[]] 58)
  have hcA := kA.cell hc
  have f0 : (w.alloc (.cells #[.func (.func 61) #[] #[], .func (.func 62) #[] #[]] 58)).cell? ⟨w.heap.size, 0, none⟩ = some (.func (.func 61) #[] #[]) := by simp
  have f1 : (w.alloc (.cells #[.func (.func 61) #[] #[], .func (.func 62) #[] #[]] 58)).cell? ⟨w.heap.size, 1, none⟩ = some (.func (.func 62) #[] #[]) := by simp
  have HF0 := hid f0; clear f0
  have HF1 := hid f1; clear f1
  have HCA := hid hcA
  have kD := kA.drew
  go_enter Tryz.func84, Tryz.ntmps84
  go_wp2_with fail
  go_region_held3 (fun w' => w'.cell? ⟨b, off, none⟩ = some (.int .i64 3) ∧ w'.cell? ⟨w.heap.size, 0, none⟩ = some (.func (.func 61) #[] #[]) ∧ w'.cell? ⟨w.heap.size, 1, none⟩ = some (.func (.func 62) #[] #[])) (first | exact ⟨HCA.out, HF0.out, HF1.out⟩ | exact ⟨c2, d2, e2⟩ | exact ⟨c4, d4, e4⟩ | exact ⟨c5, d5, e5⟩) (first
   | (go_at_call 155; refine (first_any _ _ x y.enc _ _ (hv0.keeps kD) rfl).mono ?_; rintro e w' ⟨v1, rfl, hv1, rfl⟩)
   | (go_at_call 157; refine (second_any _ _ x y _ _ ((hv0.keeps kD).keeps k2) rfl).mono ?_; rintro e w' ⟨v3, rfl, hv3, rfl⟩)
   | (go_at_call 84; first
     | ((with_reducible refine (HX.out v1 _ hv1 (by omega)).mono ?_); rintro e w2 ⟨v2, rfl, hv2, k2⟩; have c2 := k2.cell (show (World.drew _).cell? _ = _ from HCA.out); have d2 := k2.cell (show (World.drew _).cell? _ = _ from HF0.out); have e2 := k2.cell (show (World.drew _).cell? _ = _ from HF1.out))
     | ((with_reducible refine (HY.out v3 _ hv3 (by omega)).mono ?_); rintro e w4 ⟨v4, rfl, hv4, k4⟩; have c4 := k4.cell c2; have d4 := k4.cell d2; have e4 := k4.cell e2))
   | (go_at_call 62; refine (outrJ_or_any _ _ _ _ _ ((hv2.nds (by omega)).keeps k4) (hv4.nds (by omega)) (by omega)).mono ?_; rintro e w5 ⟨v5, rfl, hv5, k5⟩; have c5 := k5.cell c4; have d5 := k5.cell d4; have e5 := k5.cell e4))
  go_wp2
  go_ret
  have kk := kD.trans (k2.trans k4)
  exact ⟨_, rfl, hv5.mono kk.size, kk.trans k5⟩
 | imp x y ihx ihy =>
  simp [Fm.plain] at hp
  intro v w hv hl
  have hls : 1 + x.enc.length + y.enc.length ≤ 1048576 := by simp [Fm.enc] at hl; omega
  have HX := hid (ihx hp.1)
  have HY := hid (ihy hp.2)
  clear ihx ihy hl
  have bx := outr_len x
  have by' := outr_len y
  have hv0 := hv
  obtain ⟨b, off, n, cap, rfl, h0, h1, h2, h3, hc, _⟩ := hv.head
  clear hv
  have kA := (Keeps.refl w).alloc (.cells #[.func (.func 61) #[] #[], .func (.func 62) #[] #[]] 58)
  have hcA := kA.cell hc
  have f0 : (w.alloc (.cells #[.func (.func 61) #[] #[], .func (.func 62) #[] #[]] 58)).cell? ⟨w.heap.size, 0, none⟩ = some (.func (.func 61) #[] #[]) := by simp
  have f1 : (w.alloc (.cells #[.func (.func 61) #[] #[], .func (.func 62) #[] #[]] 58)).cell? ⟨w.heap.size, 1, none⟩ = some (.func (.func 62) #[] #[]) := by simp
  have HF0 := hid f0; clear f0
  have HF1 := hid f1; clear f1
  have HCA := hid hcA
  have kD := kA.drew
  go_enter Tryz.func84, Tryz.ntmps84
  go_wp2_with fail
  go_region_held3 (fun w' => w'.cell? ⟨b, off, none⟩ = some (.int .i64 4) ∧ w'.cell? ⟨w.heap.size, 0, none⟩ = some (.func (.func 61) #[] #[]) ∧ w'.cell? ⟨w.heap.size, 1, none⟩ = some (.func (.func 62) #[] #[])) (first | exact ⟨HCA.out, HF0.out, HF1.out⟩ | exact ⟨c2, d2, e2⟩ | exact ⟨c4, d4, e4⟩ | exact ⟨c5, d5, e5⟩) (first
   | (go_at_call 155; refine (first_any _ _ x y.enc _ _ (hv0.keeps kD) rfl).mono ?_; rintro e w' ⟨v1, rfl, hv1, rfl⟩)
   | (go_at_call 157; refine (second_any _ _ x y _ _ ((hv0.keeps kD).keeps k2) rfl).mono ?_; rintro e w' ⟨v3, rfl, hv3, rfl⟩)
   | (go_at_call 84; first
     | ((with_reducible refine (HX.out v1 _ hv1 (by omega)).mono ?_); rintro e w2 ⟨v2, rfl, hv2, k2⟩; have c2 := k2.cell (show (World.drew _).cell? _ = _ from HCA.out); have d2 := k2.cell (show (World.drew _).cell? _ = _ from HF0.out); have e2 := k2.cell (show (World.drew _).cell? _ = _ from HF1.out))
     | ((with_reducible refine (HY.out v3 _ hv3 (by omega)).mono ?_); rintro e w4 ⟨v4, rfl, hv4, k4⟩; have c4 := k4.cell c2; have d4 := k4.cell d2; have e4 := k4.cell e2))
   | (go_at_call 62; refine (outrJ_imp_any _ _ _ _ _ ((hv2.nds (by omega)).keeps k4) (hv4.nds (by omega)) (by omega)).mono ?_; rintro e w5 ⟨v5, rfl, hv5, k5⟩; have c5 := k5.cell c4; have d5 := k5.cell d4; have e5 := k5.cell e4))
  go_wp2
  go_ret
  have kk := kD.trans (k2.trans k4)
  exact ⟨_, rfl, hv5.mono kk.size, kk.trans k5⟩
end Go.Proofs.YtfmmajgkjkmghaaGreat
