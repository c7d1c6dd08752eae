import Derived.Test.YtfmmajgkjkmghaaGreatEK1
import Derived.Test.YtfmmajgkjkmghaaGreatEKY0
import Derived.Test.YtfmmajgkjkmghaaGreatEOQ
import Derived.Test.YtfmmajgkjkmghaaGreatEKS
import Derived.Test.YtfmmajgkjkmghaaGreatEK3
import Derived.Deep.CutBlock
import Derived.Deep.DeepCutAuto
/- Walks: the Goedel-Gentzen translation on both sides. -/
namespace Go.Proofs.YtfmmajgkjkmghaaGreat
open Go.RowKit
set_option maxHeartbeats 1000000 in
theorem l29Gentzen_any (t : Fm) (hp : t.plain = true) : ∀ (v : Value) (w : World), Nds w v t.enc → t.enc.length ≤ 1048576 → Calls Tryz.prog 70 #[v] w (RetN w (gen t).enc) := by
 induction t with
 | var i =>
  intro v w hv hl
  have hv0 := hv
  obtain ⟨b, off, n, cap, rfl, h0, h1, h2, h3, hc, _⟩ := hv.head
  clear hv
  go_enter Tryz.func70, Tryz.ntmps70
  go_wp2_with (go_at_call 142; first | ((with_reducible refine (l02Not_any (.var i) _ _ hv0 (by simp [Fm.enc])).mono ?_); rintro e w1 ⟨v1, rfl, hv1, k1⟩) | ((with_reducible refine (l02Not_any (Fm.var i).not v1 _ (hv1.nds (by simp [Fm.not, Fm.enc])) (by simp [Fm.not, Fm.enc])).mono ?_); rintro e w2 ⟨v2, rfl, hv2, k2⟩))
  go_ret
  exact ⟨_, rfl, hv2.mono k1.size, k1.trans k2⟩
 | fls =>
  intro v w hv hl
  obtain ⟨b, off, n, cap, rfl, h0, h1, h2, h3, hc, _⟩ := hv.head
  clear hv
  go_enter Tryz.func70, Tryz.ntmps70
  go_wp2_with (go_at_call 88; refine (l02False_any _).mono ?_; rintro e w1 ⟨v1, rfl, hv1, k1⟩)
  go_ret
  exact ⟨_, rfl, hv1, k1⟩
 | box x ih => simp [Fm.plain] at hp
 | dia x ih => simp [Fm.plain] at hp
 | and x y ihx ihy =>
  simp [Fm.plain] at hp
  intro v w hv hl
  have hls : 1 + x.enc.length + y.enc.length ≤ 1048576 := by simp [Fm.enc] at hl; omega
  have HX := hid (ihx hp.1)
  have HY := hid (ihy hp.2)
  clear ihx ihy hl
  have bx := gen_len x
  have by' := gen_len y
  have hv0 := hv
  obtain ⟨b, off, n, cap, rfl, h0, h1, h2, h3, hc, _⟩ := hv.head
  clear hv
  go_enter Tryz.func70, Tryz.ntmps70
  go_wp2_with (first
   | (go_at_call 90; refine (l02Left_any _ _ x y.enc _ _ hv0 rfl).mono ?_; rintro e w' ⟨v1, rfl, hv1, rfl⟩)
   | (go_at_call 91; refine (l02Right_any _ _ x y _ _ (hv0.keeps k2) rfl).mono ?_; rintro e w' ⟨v3, rfl, hv3, rfl⟩)
   | (go_at_call 70; first
     | ((with_reducible refine (HX.out v1 _ hv1 (by omega)).mono ?_); rintro e w2 ⟨v2, rfl, hv2, k2⟩; have c2 := k2.cell hc)
     | ((with_reducible refine (HY.out v3 _ hv3 (by omega)).mono ?_); rintro e w4 ⟨v4, rfl, hv4, k4⟩; have c4 := k4.cell c2))
   | (go_at_call 89; refine (l02Pair_any _ _ _ _ _ _ ((hv2.nds (by omega)).keeps k4) (hv4.nds (by omega)) (by omega)).mono ?_; rintro e w5 ⟨v5, rfl, hv5, k5⟩))
  go_ret
  have kk := k2.trans k4
  exact ⟨_, rfl, hv5.mono kk.size, kk.trans k5⟩
 | or x y ihx ihy =>
  simp [Fm.plain] at hp
  intro v w hv hl
  have hls : 1 + x.enc.length + y.enc.length ≤ 1048576 := by simp [Fm.enc] at hl; omega
  have HX := hid (ihx hp.1)
  have HY := hid (ihy hp.2)
  clear ihx ihy hl
  have bx := gen_len x
  have by' := gen_len y
  have hv0 := hv
  obtain ⟨b, off, n, cap, rfl, h0, h1, h2, h3, hc, _⟩ := hv.head
  clear hv
  go_enter Tryz.func70, Tryz.ntmps70
  go_wp2_with (first
   | (go_at_call 90; refine (l02Left_any _ _ x y.enc _ _ hv0 rfl).mono ?_; rintro e w' ⟨v1, rfl, hv1, rfl⟩)
   | (go_at_call 91; refine (l02Right_any _ _ x y _ _ (hv0.keeps k2) rfl).mono ?_; rintro e w' ⟨v3, rfl, hv3, rfl⟩)
   | (go_at_call 70; first
     | ((with_reducible refine (HX.out v1 _ hv1 (by omega)).mono ?_); rintro e w2 ⟨v2, rfl, hv2, k2⟩; have c2 := k2.cell hc)
     | ((with_reducible refine (HY.out v3 _ hv3 (by omega)).mono ?_); rintro e w4 ⟨v4, rfl, hv4, k4⟩; have c4 := k4.cell c2))
   | (go_at_call 142; first
     | ((with_reducible refine (l02Not_any (gen x) v2 w4 ((hv2.nds (by omega)).keeps k4) (by omega)).mono ?_); rintro e w5 ⟨v5, rfl, hv5, k5⟩)
     | ((with_reducible refine (l02Not_any (gen y) v4 w5 ((hv4.nds (by omega)).keeps k5) (by omega)).mono ?_); rintro e w6 ⟨v6, rfl, hv6, k6⟩)
     | ((refine (l02Not_any (.and (gen x).not (gen y).not) v7 w7 (hv7.nds (by simp [Fm.not, Fm.enc]; omega)) (by simp [Fm.not, Fm.enc]; omega)).mono ?_); rintro e w8 ⟨v8, rfl, hv8, k8⟩))
   | (go_at_call 89; refine (l02Pair_any _ _ _ _ _ _ ((hv5.nds (by simp [Fm.not, Fm.enc]; omega)).keeps k6) (hv6.nds (by simp [Fm.not, Fm.enc]; omega)) (by simp [Fm.not, Fm.enc]; omega)).mono ?_; rintro e w7 ⟨v7, rfl, hv7, k7⟩))
  go_ret
  have kk := ((k2.trans k4).trans (k5.trans k6)).trans k7
  exact ⟨_, rfl, hv8.mono kk.size, kk.trans k8⟩
 | imp x y ihx ihy =>
  simp [Fm.plain] at hp
  intro v w hv hl
  have hls : 1 + x.enc.length + y.enc.length ≤ 1048576 := by simp [Fm.enc] at hl; omega
  have HX := hid (ihx hp.1)
  have HY := hid (ihy hp.2)
  clear ihx ihy hl
  have bx := gen_len x
  have by' := gen_len y
  have hv0 := hv
  obtain ⟨b, off, n, cap, rfl, h0, h1, h2, h3, hc, _⟩ := hv.head
  clear hv
  go_enter Tryz.func70, Tryz.ntmps70
  go_wp2_with (first
   | (go_at_call 90; refine (l02Left_any _ _ x y.enc _ _ hv0 rfl).mono ?_; rintro e w' ⟨v1, rfl, hv1, rfl⟩)
   | (go_at_call 91; refine (l02Right_any _ _ x y _ _ (hv0.keeps k2) rfl).mono ?_; rintro e w' ⟨v3, rfl, hv3, rfl⟩)
   | (go_at_call 70; first
     | ((with_reducible refine (HX.out v1 _ hv1 (by omega)).mono ?_); rintro e w2 ⟨v2, rfl, hv2, k2⟩; have c2 := k2.cell hc)
     | ((with_reducible refine (HY.out v3 _ hv3 (by omega)).mono ?_); rintro e w4 ⟨v4, rfl, hv4, k4⟩; have c4 := k4.cell c2))
   | (go_at_call 89; refine (l02Pair_any _ _ _ _ _ _ ((hv2.nds (by omega)).keeps k4) (hv4.nds (by omega)) (by omega)).mono ?_; rintro e w5 ⟨v5, rfl, hv5, k5⟩))
  go_ret
  have kk := k2.trans k4
  exact ⟨_, rfl, hv5.mono kk.size, kk.trans k5⟩
set_option maxHeartbeats 400000 in
theorem genJ_and_any (x y : Fm) (va vb : Value) (w : World) (hva : Nds w va x.enc) (hvb : Nds w vb y.enc) (hl : x.enc.length + y.enc.length ≤ 100000000) :
  Calls Tryz.prog 68 #[.int .i64 2, va, vb] w (RetN w (Fm.and x y).enc) := by
 go_enter Tryz.func68, Tryz.ntmps68
 go_wp2_with (go_at_call 35; refine (join_any _ _ _ _ _ _ hva hvb (by omega)).mono ?_; rintro e w1 ⟨v1, rfl, hv1, k1⟩)
 go_ret
 exact ⟨_, rfl, hv1, k1⟩
set_option maxHeartbeats 400000 in
theorem genJ_or_any (x y : Fm) (va vb : Value) (w : World) (hva : Nds w va x.enc) (hvb : Nds w vb y.enc) (hl : x.enc.length + y.enc.length ≤ 100000000) :
  Calls Tryz.prog 68 #[.int .i64 3, va, vb] w (RetN w (Fm.and x.not y.not).not.enc) := by
 go_enter Tryz.func68, Tryz.ntmps68
 go_wp2_with (first
  | (go_at_call 69; first
    | ((with_reducible refine (negation_any x va w hva (by omega)).mono ?_); rintro e w1 ⟨v1, rfl, hv1, k1⟩)
    | ((with_reducible refine (negation_any y vb w1 (hvb.keeps k1) (by omega)).mono ?_); rintro e w2 ⟨v2, rfl, hv2, k2⟩)
    | ((refine (negation_any (.and x.not y.not) v3 w3 (hv3.nds (by simp [Fm.not, Fm.enc]; omega)) (by simp [Fm.not, Fm.enc]; omega)).mono ?_); rintro e w4 ⟨v4, rfl, hv4, k4⟩))
  | (go_at_call 35; refine (join_any _ _ _ _ _ _ ((hv1.nds (by simp [Fm.not, Fm.enc]; omega)).keeps k2) (hv2.nds (by simp [Fm.not, Fm.enc]; omega)) (by simp [Fm.not, Fm.enc]; omega)).mono ?_; rintro e w3 ⟨v3, rfl, hv3, k3⟩))
 go_ret
 have kk := (k1.trans k2).trans k3
 exact ⟨_, rfl, hv4.mono kk.size, kk.trans k4⟩
set_option maxHeartbeats 400000 in
theorem genJ_imp_any (x y : Fm) (va vb : Value) (w : World) (hva : Nds w va x.enc) (hvb : Nds w vb y.enc) (hl : x.enc.length + y.enc.length ≤ 100000000) :
  Calls Tryz.prog 68 #[.int .i64 4, va, vb] w (RetN w (Fm.imp x y).enc) := by
 go_enter Tryz.func68, Tryz.ntmps68
 go_wp2_with (go_at_call 35; refine (join_any _ _ _ _ _ _ hva hvb (by omega)).mono ?_; rintro e w1 ⟨v1, rfl, hv1, k1⟩)
 go_ret
 exact ⟨_, rfl, hv1, k1⟩
set_option maxRecDepth 20000 in
set_option maxHeartbeats 1000000 in
theorem ofGoedelGentzen_any (t : Fm) (hp : t.plain = true) : ∀ (v : Value) (w : World), Nds w v t.enc → t.enc.length ≤ 1048576 → Calls Tryz.prog 84 #[.agg #[.func (.func 67) #[] #[], .func (.func 68) #[] #[]], v] w (RetN w (gen t).enc) := by
 induction t with
 | var i =>
  intro v w hv hl
  have hv0 := hv
  obtain ⟨b, off, n, cap, rfl, h0, h1, h2, h3, hc, _⟩ := hv.head
  clear hv
  have kA := (Keeps.refl w).alloc (.cells #[.func (.func 67) #[] #[], .func (.func 68) #[] #[]] 58)
  have hcA := kA.cell hc
  go_enter Tryz.func84, Tryz.ntmps84
  go_wp2_with (go_at_call 67; refine (doubleNegation_any (.var i) _ _ (hv0.keeps kA) (by simp [Fm.enc])).mono ?_; rintro e w1 ⟨v1, rfl, hv1, k1⟩)
  go_ret
  exact ⟨_, rfl, hv1.mono kA.size, kA.trans k1⟩
 | fls =>
  intro v w hv hl
  obtain ⟨b, off, n, cap, rfl, h0, h1, h2, h3, hc, _⟩ := hv.head
  clear hv
  have kA := (Keeps.refl w).alloc (.cells #[.func (.func 67) #[] #[], .func (.func 68) #[] #[]] 58)
  have hcA := kA.cell hc
  go_enter Tryz.func84, Tryz.ntmps84
  go_wp2_with (go_at_call 141; refine (falsum_any _).mono ?_; rintro e w1 ⟨v1, rfl, hv1, k1⟩)
  go_ret
  exact ⟨_, rfl, hv1.mono kA.size, kA.trans k1⟩
 | box x ih => simp [Fm.plain] at hp
 | dia x ih => simp [Fm.plain] at hp
 | and x y ihx ihy =>
  simp [Fm.plain] at hp
  intro v w hv hl
  have hls : 1 + x.enc.length + y.enc.length ≤ 1048576 := by simp [Fm.enc] at hl; omega
  have HX := hid (ihx hp.1)
  have HY := hid (ihy hp.2)
  clear ihx ihy hl
  have bx := gen_len x
  have by' := gen_len y
  have hv0 := hv
  obtain ⟨b, off, n, cap, rfl, h0, h1, h2, h3, hc, _⟩ := hv.head
  clear hv
  have kA := (Keeps.refl w).alloc (.cells #[.func (.func 67) #[] #[], .func (.func 68) #[] #[]] 58)
  have hcA := kA.cell hc
  have f0 : (w.alloc (.cells #[.func (.func 67) #[] #[], .func (.func 68) #[] #[]] 58)).cell? ⟨w.heap.size, 0, none⟩ = some (.func (.func 67) #[] #[]) := by simp
  have f1 : (w.alloc (.cells #[.func (.func 67) #[] #[], .func (.func 68) #[] #[]] 58)).cell? ⟨w.heap.size, 1, none⟩ = some (.func (.func 68) #[] #[]) := by simp
  have HF0 := hid f0; clear f0
  have HF1 := hid f1; clear f1
  have HCA := hid hcA
  have kD := kA.drew
  go_enter Tryz.func84, Tryz.ntmps84
  go_wp2_with fail
  go_region_held3 (fun w' => w'.cell? ⟨b, off, none⟩ = some (.int .i64 2) ∧ w'.cell? ⟨w.heap.size, 0, none⟩ = some (.func (.func 67) #[] #[]) ∧ w'.cell? ⟨w.heap.size, 1, none⟩ = some (.func (.func 68) #[] #[])) (first | exact ⟨HCA.out, HF0.out, HF1.out⟩ | exact ⟨c2, d2, e2⟩ | exact ⟨c4, d4, e4⟩ | exact ⟨c5, d5, e5⟩) (first
   | (go_at_call 155; refine (first_any _ _ x y.enc _ _ (hv0.keeps kD) rfl).mono ?_; rintro e w' ⟨v1, rfl, hv1, rfl⟩)
   | (go_at_call 157; refine (second_any _ _ x y _ _ ((hv0.keeps kD).keeps k2) rfl).mono ?_; rintro e w' ⟨v3, rfl, hv3, rfl⟩)
   | (go_at_call 84; first
     | ((with_reducible refine (HX.out v1 _ hv1 (by omega)).mono ?_); rintro e w2 ⟨v2, rfl, hv2, k2⟩; have c2 := k2.cell (show (World.drew _).cell? _ = _ from HCA.out); have d2 := k2.cell (show (World.drew _).cell? _ = _ from HF0.out); have e2 := k2.cell (show (World.drew _).cell? _ = _ from HF1.out))
     | ((with_reducible refine (HY.out v3 _ hv3 (by omega)).mono ?_); rintro e w4 ⟨v4, rfl, hv4, k4⟩; have c4 := k4.cell c2; have d4 := k4.cell d2; have e4 := k4.cell e2))
   | (go_at_call 68; refine (genJ_and_any _ _ _ _ _ ((hv2.nds (by omega)).keeps k4) (hv4.nds (by omega)) (by omega)).mono ?_; rintro e w5 ⟨v5, rfl, hv5, k5⟩; have c5 := k5.cell c4; have d5 := k5.cell d4; have e5 := k5.cell e4))
  go_wp2
  go_ret
  have kk := kD.trans (k2.trans k4)
  exact ⟨_, rfl, hv5.mono kk.size, kk.trans k5⟩
 | or x y ihx ihy =>
  simp [Fm.plain] at hp
  intro v w hv hl
  have hls : 1 + x.enc.length + y.enc.length ≤ 1048576 := by simp [Fm.enc] at hl; omega
  have HX := hid (ihx hp.1)
  have HY := hid (ihy hp.2)
  clear ihx ihy hl
  have bx := gen_len x
  have by' := gen_len y
  have hv0 := hv
  obtain ⟨b, off, n, cap, rfl, h0, h1, h2, h3, hc, _⟩ := hv.head
  clear hv
  have kA := (Keeps.refl w).alloc (.cells #[.func (.func 67) #[] #[], .func (.func 68) #[] #[]] 58)
  have hcA := kA.cell hc
  have f0 : (w.alloc (.cells #[.func (.func 67) #[] #[], .func (.func 68) #[] #[]] 58)).cell? ⟨w.heap.size, 0, none⟩ = some (.func (.func 67) #[] #[]) := by simp
  have f1 : (w.alloc (.cells #[.func (.func 67) #[] #[], .func (.func 68) #[] #[]] 58)).cell? ⟨w.heap.size, 1, none⟩ = some (.func (.func 68) #[] #[]) := by simp
  have HF0 := hid f0; clear f0
  have HF1 := hid f1; clear f1
  have HCA := hid hcA
  have kD := kA.drew
  go_enter Tryz.func84, Tryz.ntmps84
  go_wp2_with fail
  go_region_held3 (fun w' => w'.cell? ⟨b, off, none⟩ = some (.int .i64 3) ∧ w'.cell? ⟨w.heap.size, 0, none⟩ = some (.func (.func 67) #[] #[]) ∧ w'.cell? ⟨w.heap.size, 1, none⟩ = some (.func (.func 68) #[] #[])) (first | exact ⟨HCA.out, HF0.out, HF1.out⟩ | exact ⟨c2, d2, e2⟩ | exact ⟨c4, d4, e4⟩ | exact ⟨c5, d5, e5⟩) (first
   | (go_at_call 155; refine (first_any _ _ x y.enc _ _ (hv0.keeps kD) rfl).mono ?_; rintro e w' ⟨v1, rfl, hv1, rfl⟩)
   | (go_at_call 157; refine (second_any _ _ x y _ _ ((hv0.keeps kD).keeps k2) rfl).mono ?_; rintro e w' ⟨v3, rfl, hv3, rfl⟩)
   | (go_at_call 84; first
     | ((with_reducible refine (HX.out v1 _ hv1 (by omega)).mono ?_); rintro e w2 ⟨v2, rfl, hv2, k2⟩; have c2 := k2.cell (show (World.drew _).cell? _ = _ from HCA.out); have d2 := k2.cell (show (World.drew _).cell? _ = _ from HF0.out); have e2 := k2.cell (show (World.drew _).cell? _ = _ from HF1.out))
     | ((with_reducible refine (HY.out v3 _ hv3 (by omega)).mono ?_); rintro e w4 ⟨v4, rfl, hv4, k4⟩; have c4 := k4.cell c2; have d4 := k4.cell d2; have e4 := k4.cell e2))
   | (go_at_call 68; refine (genJ_or_any _ _ _ _ _ ((hv2.nds (by omega)).keeps k4) (hv4.nds (by omega)) (by omega)).mono ?_; rintro e w5 ⟨v5, rfl, hv5, k5⟩; have c5 := k5.cell c4; have d5 := k5.cell d4; have e5 := k5.cell e4))
  go_wp2
  go_ret
  have kk := kD.trans (k2.trans k4)
  exact ⟨_, rfl, hv5.mono kk.size, kk.trans k5⟩
 | imp x y ihx ihy =>
  simp [Fm.plain] at hp
  intro v w hv hl
  have hls : 1 + x.enc.length + y.enc.length ≤ 1048576 := by simp [Fm.enc] at hl; omega
  have HX := hid (ihx hp.1)
  have HY := hid (ihy hp.2)
  clear ihx ihy hl
  have bx := gen_len x
  have by' := gen_len y
  have hv0 := hv
  obtain ⟨b, off, n, cap, rfl, h0, h1, h2, h3, hc, _⟩ := hv.head
  clear hv
  have kA := (Keeps.refl w).alloc (.cells #[.func (.func 67) #[] #[], .func (.func 68) #[] #[]] 58)
  have hcA := kA.cell hc
  have f0 : (w.alloc (.cells #[.func (.func 67) #[] #[], .func (.func 68) #[] #[]] 58)).cell? ⟨w.heap.size, 0, none⟩ = some (.func (.func 67) #[] #[]) := by simp
  have f1 : (w.alloc (.cells #[.func (.func 67) #[] #[], .func (.func 68) #[] #[]] 58)).cell? ⟨w.heap.size, 1, none⟩ = some (.func (.func 68) #[] #[]) := by simp
  have HF0 := hid f0; clear f0
  have HF1 := hid f1; clear f1
  have HCA := hid hcA
  have kD := kA.drew
  go_enter Tryz.func84, Tryz.ntmps84
  go_wp2_with fail
  go_region_held3 (fun w' => w'.cell? ⟨b, off, none⟩ = some (.int .i64 4) ∧ w'.cell? ⟨w.heap.size, 0, none⟩ = some (.func (.func 67) #[] #[]) ∧ w'.cell? ⟨w.heap.size, 1, none⟩ = some (.func (.func 68) #[] #[])) (first | exact ⟨HCA.out, HF0.out, HF1.out⟩ | exact ⟨c2, d2, e2⟩ | exact ⟨c4, d4, e4⟩ | exact ⟨c5, d5, e5⟩) (first
   | (go_at_call 155; refine (first_any _ _ x y.enc _ _ (hv0.keeps kD) rfl).mono ?_; rintro e w' ⟨v1, rfl, hv1, rfl⟩)
   | (go_at_call 157; refine (second_any _ _ x y _ _ ((hv0.keeps kD).keeps k2) rfl).mono ?_; rintro e w' ⟨v3, rfl, hv3, rfl⟩)
   | (go_at_call 84; first
     | ((with_reducible refine (HX.out v1 _ hv1 (by omega)).mono ?_); rintro e w2 ⟨v2, rfl, hv2, k2⟩; have c2 := k2.cell (show (World.drew _).cell? _ = _ from HCA.out); have d2 := k2.cell (show (World.drew _).cell? _ = _ from HF0.out); have e2 := k2.cell (show (World.drew _).cell? _ = _ from HF1.out))
     | ((with_reducible refine (HY.out v3 _ hv3 (by omega)).mono ?_); rintro e w4 ⟨v4, rfl, hv4, k4⟩; have c4 := k4.cell c2; have d4 := k4.cell d2; have e4 := k4.cell e2))
   | (go_at_call 68; refine (genJ_imp_any _ _ _ _ _ ((hv2.nds (by omega)).keeps k4) (hv4.nds (by omega)) (by omega)).mono ?_; rintro e w5 ⟨v5, rfl, hv5, k5⟩; have c5 := k5.cell c4; have d5 := k5.cell d4; have e5 := k5.cell e4))
  go_wp2
  go_ret
  have kk := kD.trans (k2.trans k4)
  exact ⟨_, rfl, hv5.mono kk.size, kk.trans k5⟩
end Go.Proofs.YtfmmajgkjkmghaaGreat
namespace Go.Proofs.YtfmmajgkjkmghaaGreat
open Go.RowKit
def BothGoedelGentzen (a r : List Nd) (c : Int) : Prop :=
 (∀ v w, Nds w v a → Calls Tryz.prog 21 #[v] w fun e w' => ∃ u, e = .returned (.tuple #[u, .int .i64 c]) ∧ Nds w' u r ∧ Keeps w w') ∧
 (∀ v w, Nds w v a → Calls Tryz.prog 20 #[v] w fun e w' => ∃ u, e = .returned (.tuple #[u, .int .i64 c]) ∧ OwnN w' w.heap.size u r ∧ Keeps w w')
set_option maxRecDepth 20000 in
set_option maxHeartbeats 400000 in
theorem transGoedelGentzen_ok (t : Fm) (hp : t.plain = true) (hl : t.enc.length ≤ 1048576) (h : plainErr t.enc = 0) (v : Value) (w : World) (hv : Nds w v t.enc) :
  Calls Tryz.prog 36 #[.agg #[.func (.func 67) #[] #[], .func (.func 68) #[] #[]], v] w fun e w' => ∃ u, e = .returned (.tuple #[u, .int .i64 (madeL (gen t).enc).2]) ∧ OwnN w' w.heap.size u (madeL (gen t).enc).1 ∧ Keeps w w' := by
 obtain ⟨p, n, cap, rfl⟩ := hv.shape
 have kA := (Keeps.refl w).alloc (.cells #[.func (.func 67) #[] #[], .func (.func 68) #[] #[]] 58)
 have hsz : (w.alloc (.cells #[.func (.func 67) #[] #[], .func (.func 68) #[] #[]] 58)).heap.size = w.heap.size + 1 := by simp
 have hne := plainCode_any [t.enc] _ _ (NdsL.lit1 (hv.keeps kA))
 rw [plainErrs_one, h, hsz] at hne
 have HN := hid hne; clear hne h hsz
 have k1 := kA.alloc (.cells #[.slice p n cap] 24)
 have bx := gen_len t
 go_enter Tryz.func36, Tryz.ntmps36
 go_wp2_with fail
 refine HN.out.mono ?_; rintro e w2 ⟨rfl, k2⟩
 have k2' := k1.trans k2
 have kB : Keeps (w.alloc (.cells #[.func (.func 67) #[] #[], .func (.func 68) #[] #[]] 58)) ((w.alloc (.cells #[.func (.func 67) #[] #[], .func (.func 68) #[] #[]] 58)).alloc (.cells #[.slice p n cap] 24)) := (Keeps.refl _).alloc _
 have f0 : w2.cell? ⟨w.heap.size, 0, none⟩ = some (.func (.func 67) #[] #[]) := k2.cell ((kB).cell (by simp))
 have f1 : w2.cell? ⟨w.heap.size, 1, none⟩ = some (.func (.func 68) #[] #[]) := k2.cell ((kB).cell (by simp))
 clear kB
 go_wp2_with fail
 refine (ofGoedelGentzen_any t hp _ _ (hv.keeps k2') hl).mono ?_; rintro e w3 ⟨v3, rfl, hv3, k3⟩
 go_wp2_with fail
 refine (limited_own (gen t).enc _ _ _ hv3 (by omega)).mono ?_; rintro e w' ⟨u, rfl, hu, rfl⟩
 go_wp2_with fail
 go_ret2
 exact ⟨_, rfl, hu.mono k2'.size, k2'.trans k3⟩
set_option maxRecDepth 20000 in
set_option maxHeartbeats 400000 in
theorem transGoedelGentzen_err (a : List Nd) (h : plainErr a ≠ 0) (v : Value) (w : World) (hv : Nds w v a) :
  Calls Tryz.prog 36 #[.agg #[.func (.func 67) #[] #[], .func (.func 68) #[] #[]], v] w fun e w' => ∃ u, e = .returned (.tuple #[u, .int .i64 (plainErr a)]) ∧ OwnN w' w.heap.size u [] ∧ Keeps w w' := by
 obtain ⟨p, n, cap, rfl⟩ := hv.shape
 have kA := (Keeps.refl w).alloc (.cells #[.func (.func 67) #[] #[], .func (.func 68) #[] #[]] 58)
 have hsz : (w.alloc (.cells #[.func (.func 67) #[] #[], .func (.func 68) #[] #[]] 58)).heap.size = w.heap.size + 1 := by simp
 have hne := plainCode_any [a] _ _ (NdsL.lit1 (hv.keeps kA))
 rw [plainErrs_one, hsz] at hne
 have h' : (plainErr a != 0) = true := by simp [h]
 have H := hid h; clear h
 have HN := hid hne; clear hne hsz
 have k1 := kA.alloc (.cells #[.slice p n cap] 24)
 go_enter Tryz.func36, Tryz.ntmps36
 go_wp2_with (go_at_call 72; refine HN.out.mono ?_; rintro e w2 ⟨rfl, k2⟩)
 go_ret2
 exact ⟨_, rfl, OwnN.nil _ _, k1.trans k2⟩
set_option maxHeartbeats 1000000 in
theorem factsGoedelGentzen (a : List Nd) : ∃ r c, BothGoedelGentzen a r c ∧ r.length ≤ 40 ∧ TrIs gen a r c := by
 by_cases h : plainErr a = 0
 ·obtain ⟨t, hw, rfl, hp, hl⟩ := plain_tree h
  have HT := hid (transGoedelGentzen_ok t hp (by omega) h)
  have H := hid h; clear h
  have bx := gen_len t
  refine ⟨(madeL (gen t).enc).1, (madeL (gen t).enc).2, ⟨fun v w hv => ?_, fun v w hv => ?_⟩, madeL_len _, .inl ⟨t, hw, rfl, hp, hl, H.out, rfl, rfl⟩⟩
  ·go_enter Tryz.func21, Tryz.ntmps21
   go_wp2_with fail
   refine (l29Code_any _ _ _ hv).mono ?_; rintro e w' ⟨rfl, rfl⟩; rw [H.out]
   go_wp2_with fail
   refine (l29Gentzen_any t hp _ _ hv (by omega)).mono ?_; rintro e w1 ⟨v1, rfl, hv1, k1⟩
   go_wp2_with fail
   refine (l02Made_own (gen t).enc _ _ _ hv1 (by omega)).mono ?_; rintro e w' ⟨u, rfl, hu, rfl⟩
   go_wp2_with fail
   go_ret2
   exact ⟨_, rfl, hu.nds (by have := madeL_len (gen t).enc; omega), k1⟩
  ·go_enter Tryz.func20, Tryz.ntmps20
   go_wp2_with fail
   refine (HT.out _ _ hv).mono ?_; rintro e w1 ⟨u, rfl, hu, k1⟩
   go_wp2_with fail
   go_ret2
   exact ⟨_, rfl, hu, k1⟩
 ·have HT := hid (transGoedelGentzen_err a h)
  have h' : (plainErr a != 0) = true := by simp [h]
  have H := hid h; clear h
  refine ⟨[], plainErr a, ⟨fun v w hv => ?_, fun v w hv => ?_⟩, by simp, .inr ⟨H.out, rfl, rfl⟩⟩
  ·go_enter Tryz.func21, Tryz.ntmps21
   go_wp2_with (go_at_call 37; refine (l29Code_any _ _ _ hv).mono ?_; rintro e w' ⟨rfl, rfl⟩)
   go_ret2
   exact ⟨_, rfl, (OwnN.nil w 0).nds (by simp), Keeps.refl _⟩
  ·go_enter Tryz.func20, Tryz.ntmps20
   go_wp2_with fail
   refine (HT.out _ _ hv).mono ?_; rintro e w1 ⟨u, rfl, hu, k1⟩
   go_wp2_with fail
   go_ret2
   exact ⟨_, rfl, hu, k1⟩
end Go.Proofs.YtfmmajgkjkmghaaGreat
namespace Go.Proofs.YtfmmajgkjkmghaaGreat
open Go.RowKit
set_option maxRecDepth 20000 in
set_option maxHeartbeats 8000000 in
theorem lawNegativeTranslations (v : Value) (n : Nat) (w : World) (hv : Bts w v n) : Calls Tryz.prog 4 #[v] w fun e w' => e = .returned (.bool true) ∧ Keeps w w' := by
 have HBG := hid (big_any v n w hv)
 have HDT := hid (fun (h : n ≤ 4096) => drawGoedelGentzen_any v n w hv h)
 have HDV := hid (fun (h : n ≤ 4096) wz (kz : Keeps w wz) => drawIsValuation_any v n wz (hv.keeps kz) h)
 obtain ⟨p, c, rfl, _⟩ := hv
 by_cases hb : 4096 < n
 ·rw [decide_eq_true hb] at HBG
  clear hb HDT HDV
  go_enter Tryz.func4, Tryz.ntmps4
  go_wp2_with fail
  refine HBG.out.mono ?_; rintro e w' ⟨rfl, rfl⟩
  go_wp2_with fail
  go_ret
  exact ⟨rfl, Keeps.refl _⟩
 rw [decide_eq_false hb] at HBG
 have HD1 := hid (HDT.out (by omega)); clear HDT
 have HD2 := hid (HDV.out (by omega)); clear HDV hb
 go_enter Tryz.func4, Tryz.ntmps4
 go_wp2_with fail
 refine HBG.out.mono ?_; rintro e w' ⟨rfl, rfl⟩
 go_wp2_with fail
 refine HD1.out.mono ?_; rintro e w1 ⟨v1, a, rfl, hv1, hl1, k1⟩
 have HV1 := hid (hv1.nds (by omega)); clear hv1
 obtain ⟨p1, n1, q1, rfl⟩ := HV1.out.shape
 obtain ⟨r, c1, hboth, hrl, his⟩ := factsGoedelGentzen a
 have HI := hid (hboth.2 _ w1 HV1.out)
 have HSP := hid (fun wz (kz : Keeps w1 wz) => hboth.1 _ wz (HV1.out.keeps kz))
 have HIS := hid his
 have K1 := hid k1
 clear hboth his k1 HBG HD1
 go_wp2_with fail
 refine HI.out.mono ?_; rintro e w2 ⟨u2, rfl, hu2, k2⟩
 have HU2 := hid (hu2.nds (by omega))
 obtain ⟨p2, n2, q2, rfl⟩ := hu2.own_shape
 clear hu2 HI
 go_wp2_with fail
 refine (HSP.out _ k2).mono ?_; rintro e w3 ⟨u3, rfl, hu3, k3⟩
 have HSM := hid (sameNodes9_any r r _ _ w3 (HU2.out.keeps k3) hu3)
 rw [decide_eq_true rfl] at HSM
 obtain ⟨p3, n3, q3, rfl⟩ := hu3.shape
 clear hu3 HSP
 go_wp2_with fail
 refine HSM.out.mono ?_; rintro e w4 ⟨rfl, k4⟩
 have K4 := hid ((k2.trans k3).trans k4)
 have K24 := hid (k3.trans k4)
 have K14 := hid ((k2.trans k3).trans k4)
 clear k2 k3 k4 HSM
 rcases HIS.out with ⟨t, hw, rfl, hpl, hal, hpe, hr, hc1⟩ | ⟨h1, h2, h3⟩
 case inr =>
  have hc1 := plainErr_ne h1
  rw [← h3] at hc1
  clear h1 h2 h3 HIS
  rcases hc1 with rfl | rfl
  all_goals
   go_wp2_with fail
   go_ret
   exact ⟨rfl, K1.out.trans K4.out⟩
 case inl =>
 clear HIS hl1
 obtain ⟨rk, ck, hkl, hki, hkc⟩ := implKolmogorovOf_is t.enc
 obtain ⟨ru, cu, hul, hui, huc⟩ := implKurodaOf_is t.enc
 obtain ⟨bg, cg, hgi, hgc⟩ := implGlivenkoTheorem_is t.enc
 have HKC := hid (fun wz (kz : Keeps w1 wz) => hkc _ wz (HV1.out.keeps kz))
 have HUC := hid (fun wz (kz : Keeps w1 wz) => huc _ wz (HV1.out.keeps kz))
 have HGC := hid (fun wz (kz : Keeps w1 wz) => hgc _ wz (HV1.out.keeps kz))
 have hisF := isFm_of hw hal
 have HVD := hid (fun wz (kz : Keeps w1 wz) pv (hp : Ints wz pv (zs [1])) => implIsPosetValid_any [1] one_Pos t hw hisF hal hpl pv _ wz hp (HV1.out.keeps kz))
 rw [one_cap t, one_vld hw, Bool.true_and, if_pos rfl] at HVD
 -- what the answers are
 have hkx : rk = (madeL (kol t).enc).1 ∧ ck = (madeL (kol t).enc).2 := by
  rcases hki with ⟨t', _, ht', _, _, _, hr', hc'⟩ | ⟨h1, _, _⟩
  ·have := enc_inj ht'
   subst this
   exact ⟨hr', hc'⟩
  ·exact absurd hpe h1
 have hux : ru = (madeL t.not.not.enc).1 ∧ cu = (madeL t.not.not.enc).2 := by
  rcases hui with ⟨t', _, ht', _, _, _, hr', hc'⟩ | ⟨h1, _, _⟩
  ·have := enc_inj ht'
   subst this
   exact ⟨hr', hc'⟩
  ·exact absurd hpe h1
 have hgx : (cg = 0 ∧ bg = sqB [] t.not.not) ∨ (cg = 3 ∧ bg = false) := by
  rcases hgi with ⟨t', _, ht', _, _, _, hb', hc'⟩ | ⟨h1, _, _⟩
  ·have := enc_inj ht'
   subst this
   unfold smallB at hb'
   unfold smallE at hc'
   by_cases h20 : 20 < t.enc.length + 4
   ·rw [if_pos h20] at hb' hc'; exact .inr ⟨hc', hb'⟩
   ·rw [if_neg h20] at hb' hc'; exact .inl ⟨hc', hb'⟩
  ·exact absurd hpe h1
 obtain ⟨hrk, hck⟩ := hkx
 obtain ⟨hru, hcu⟩ := hux
 have hck3 : ck = 0 ∨ ck = 3 := by rw [hck]; exact madeL_code _
 have hcu3 : cu = 0 ∨ cu = 3 := by rw [hcu]; exact madeL_code _
 have hc13 : c1 = 0 ∨ c1 = 3 := by rw [hc1]; exact madeL_code _
 have HGK := hid (fun (h : c1 = 0) => madeL_ok (hc1.symm.trans h))
 have HKK := hid (fun (h : ck = 0) => madeL_ok (hck.symm.trans h))
 have HUK := hid (fun (h : cu = 0) => madeL_ok (hcu.symm.trans h))
 have HR := hid (And.intro hr (And.intro hrk hru))
 have HC3 := hid (And.intro hc13 (And.intro hck3 hcu3))
 have HQG := hid (sqB_gen hpl)
 have HQK := hid (sqB_kind hpl)
 have hgok : OkF (gen t) := ⟨gen_wf t hw, gen_plain t⟩
 clear hki hkc hui huc hgi hgc hr hrk hru hc1 hck hcu hc13 hck3 hcu3 HV1
 obtain ⟨x, hx⟩ : ∃ x, x = sqB [] t.not.not := ⟨_, rfl⟩
 rw [← hx] at HVD hgx HQG
 have HX := hid hx
 clear hx
 have HGX := hid hgx
 clear hgx
 have hne1 : (c1 == 1) = false := by rcases HC3.out.1 with h | h <;> rw [h] <;> rfl
 have hne5 : (c1 == 5) = false := by rcases HC3.out.1 with h | h <;> rw [h] <;> rfl
 go_wp2_with fail
 refine (HKC.out _ (K14.out)).mono ?_; rintro e w5 ⟨u5, rfl, hu5, k5⟩
 have HU5 := hid (hu5.nds (by omega))
 obtain ⟨p5, n5_, q5, rfl⟩ := hu5.own_shape
 clear hu5 HKC
 go_wp2_with fail
 refine (HUC.out _ (K14.out.trans k5)).mono ?_; rintro e w6 ⟨u6, rfl, hu6, k6⟩
 have HU6 := hid (hu6.nds (by omega))
 obtain ⟨p6, n6, q6, rfl⟩ := hu6.own_shape
 clear hu6 HUC
 have kL := (Keeps.refl w6).alloc (.cells #[.int .i64 1] 2)
 have HP6 := hid (HVD.out _ ((K14.out.trans k5).trans (k6.trans kL)) _ (show Ints _ _ (zs [1]) from Ints.lit1 w6 1))
 have K6 := hid (k6.trans kL)
 have HU6L := hid (HU6.out.keeps kL)
 clear kL HVD HU6
 go_wp2_with fail
 refine HP6.out.mono ?_; rintro e w7 ⟨rfl, k7⟩
 have K7 := hid ((k5.trans K6.out).trans k7)
 have K67 := hid (K6.out.trans k7)
 have K67b := hid k7
 clear k5 k6 K6 k7 HP6
 go_wp2_with fail
 refine (HGC.out _ (K14.out.trans K7.out)).mono ?_; rintro e w8 ⟨rfl, k8⟩
 have K8 := hid (K7.out.trans k8)
 have K68 := hid (K67.out.trans k8)
 have K68b := hid (K67b.out.trans k8)
 clear k8 K7 K67 K67b HGC
 go_upto_region 14 with fail
 go_cut [99] (fun u99 wx => u99 = .bool false ∧ Keeps w8 wx)
 case first =>
  rcases HGX.out with ⟨rfl, rfl⟩ | ⟨rfl, rfl⟩
  ·clear HGX HX HQG
   cases bg
   all_goals
    go_wp2_with fail
    go_meet
    exact ⟨rfl, Keeps.refl _⟩
  ·go_wp2_with fail
   go_meet
   exact ⟨rfl, Keeps.refl _⟩
 case rest =>
 obtain ⟨rfl, hk9⟩ := hcut
 have K9 := hid hk9
 clear hk9 HGX
 go_upto_if 101 with fail
 go_cut [] (fun wx => Keeps w8 wx)
 case first =>
  rcases HC3.out.1 with hz | hz
  ·subst hz
   obtain ⟨g1, g2⟩ := HGK.out rfl
   have hrg : r = (gen t).enc := by rw [HR.out.1, g2]
   subst hrg
   have hpg : plainErr (gen t).enc = 0 := by unfold plainErr; rw [if_pos (isFm_of hgok.1 g1), plainL_encP, if_pos hgok.2]
   obtain ⟨b1, k1, hb1, HI1⟩ := implIntTheorem_is (gen t) hgok g1 hpg
   obtain ⟨b2, k2', hb2, HI2⟩ := implIsClassicalKind_is (gen t).enc
   obtain ⟨b3, k3', hb3, HI3⟩ := implIsNegative_is (gen t).enc
   have hz1 : (k1 = 0 ∧ b1 = x) ∨ (k1 = 3 ∧ b1 = false) := by rw [HQG.out] at hb1; exact hb1
   have hz2 : (k2' = 0 ∧ b2 = true) ∨ (k2' = 3 ∧ b2 = false) := by
    rcases hb2 with ⟨t', _, ht', _, _, _, hb', hc'⟩ | ⟨h1, _, _⟩
    ·have := enc_inj ht'
     rw [← this] at hb' hc'
     unfold smallB at hb'
     unfold smallE at hc'
     by_cases h20 : 20 < 2 * (gen t).enc.length + 4
     ·rw [if_pos h20] at hb' hc'; exact .inr ⟨hc', hb'⟩
     ·rw [if_neg h20, HQK.out] at hb'
      rw [if_neg h20] at hc'
      exact .inl ⟨hc', hb'⟩
    ·exact absurd hpg h1
   have hz3 : k3' = 0 ∧ b3 = true := by
    rcases hb3 with ⟨t', _, ht', _, _, _, hb', hc'⟩ | ⟨h1, _, _⟩
    ·have := enc_inj ht'
     rw [← this, gen_negative] at hb'
     exact ⟨hc', hb'⟩
    ·exact absurd hpg h1
   obtain ⟨rfl, rfl⟩ := hz3
   have HN1 := hid (HI1 _ wc ((HU2.out.keeps (K24.out.trans (K8.out.trans K9.out)))))
   have HN2 := hid (fun wz (kz : Keeps wc wz) => HI2 _ wz ((HU2.out.keeps (K24.out.trans (K8.out.trans K9.out))).keeps kz))
   have HN3 := hid (fun wz (kz : Keeps wc wz) => HI3 _ wz ((HU2.out.keeps (K24.out.trans (K8.out.trans K9.out))).keeps kz))
   have HZ := hid (And.intro hz1 hz2)
   clear HI1 HI2 HI3 hb1 hb2 hb3 hz1 hz2 hpg g1 g2 hne1 hne5 HX HQG HQK HGK HKK HUK HR
   go_wp2_with fail
   refine HN1.out.mono ?_; rintro e w10 ⟨rfl, k10⟩
   go_wp2_with fail
   refine (HN2.out _ k10).mono ?_; rintro e w11 ⟨rfl, k11⟩
   go_wp2_with fail
   refine (HN3.out _ (k10.trans k11)).mono ?_; rintro e w12 ⟨rfl, k12⟩
   have K12 := hid (K9.out.trans ((k10.trans k11).trans k12))
   clear k10 k11 k12 HN1 HN2 HN3
   obtain ⟨hz1, hz2⟩ := HZ.out
   clear HZ
   rcases hz1 with ⟨rfl, rfl⟩ | ⟨rfl, rfl⟩ <;> rcases hz2 with ⟨rfl, rfl⟩ | ⟨rfl, rfl⟩
   ·cases b1
    all_goals
     go_wp2_with fail
     go_meet
     exact K12.out
   ·cases b1
    all_goals
     go_wp2_with fail
     go_meet
     exact K12.out
   ·go_wp2_with fail
    go_meet
    exact K12.out
   ·go_wp2_with fail
    go_meet
    exact K12.out
  ·subst hz
   go_wp2_with fail
   go_meet
   exact K9.out
 case rest =>
 have K10 := hid (K8.out.trans hcut)
 have K60 := hid (K68.out.trans hcut)
 have K60b := hid (K68b.out.trans hcut)
 clear hcut K9 K8 K68 K68b HX HQG HQK hne1 hne5
 go_wp2_with fail
 refine (HD2.out _ (K1.out.trans (K4.out.trans K10.out))).mono ?_; rintro e w11 ⟨n5, v5, a5, u5, vs5, rfl, hv5, hu5, k11⟩
 have hv5' := hv5
 have hu5' := hu5
 obtain ⟨pv5, cv5, rfl, _⟩ := hv5'
 obtain ⟨pu5, cu5, rfl, _⟩ := hu5'
 have kP := (Keeps.refl w11).alloc (.cells #[.int .i64 n5, .slice pv5 a5.length cv5] 31)
 obtain ⟨x0, x1⟩ := BoxF.made w11 n5 (.slice pv5 a5.length cv5) 31
 have HIV := hid (implIsValuation_any n5 a5 vs5 _ _ _ (hv5.keeps kP) (hu5.keeps kP))
 have HV5 := hid (And.intro (hv5.keeps kP) (hu5.keeps kP))
 have K11 := hid (k11.trans kP)
 clear hv5 hu5 k11 kP HD2
 go_wp2_with fail
 refine HIV.out.mono ?_; rintro e w12 ⟨rfl, k12⟩
 replace x0 := k12.cell x0
 replace x1 := k12.cell x1
 have K12 := hid (K10.out.trans (K11.out.trans k12))
 have K62 := hid (K60.out.trans (K11.out.trans k12))
 have K62b := hid (K60b.out.trans (K11.out.trans k12))
 have HV12 := hid (And.intro (HV5.out.1.keeps k12) (HV5.out.2.keeps k12))
 clear HIV HV5 K11 k12 K10 K60 K60b
 have KF := hid (K1.out.trans (K4.out.trans K12.out))
 by_cases hval : isVal n5 a5 vs5 = true
 case neg =>
  rw [Bool.not_eq_true] at hval
  rw [hval]
  clear hval x0 x1
  go_wp2_with fail
  go_ret
  exact ⟨rfl, KF.out⟩
 rw [hval]
 obtain ⟨h1, h2, h3⟩ := HC3.out
 clear HC3
 rcases h1 with h1 | h1
 case inr =>
  subst h1
  clear hval x0 x1
  go_wp2_with fail
  go_ret
  exact ⟨rfl, KF.out⟩
 subst h1
 rcases h2 with h2 | h2
 case inr =>
  subst h2
  clear hval x0 x1
  go_wp2_with fail
  go_ret
  exact ⟨rfl, KF.out⟩
 subst h2
 rcases h3 with h3 | h3
 case inr =>
  subst h3
  clear hval x0 x1
  go_wp2_with fail
  go_ret
  exact ⟨rfl, KF.out⟩
 subst h3
 obtain ⟨b, c, rfl, rfl, rfl, hpos, h6, hbc, hup⟩ := val_is hval
 obtain ⟨lg, eg⟩ := HGK.out rfl
 obtain ⟨lk, ek⟩ := HKK.out rfl
 obtain ⟨lu, eu⟩ := HUK.out rfl
 have hng : Nds w12 (.slice p2 n2 q2) (gen t).enc := by rw [← eg, ← HR.out.1]; exact HU2.out.keeps (K24.out.trans K12.out)
 have hnk : Nds w12 (.slice p5 n5_ q5) (kol t).enc := by rw [← ek, ← HR.out.2.1]; exact HU5.out.keeps K62.out
 have hnu : Nds w12 (.slice p6 n6 q6) t.not.not.enc := by rw [← eu, ← HR.out.2.2]; exact HU6L.out.keeps K62b.out
 have hf1 := fun wz (kz : Keeps w12 wz) => forcedSet_ok b c hval hpos.1 hpos.2.1 hbc h6 (gen t) hgok.1 (isFm_of hgok.1 lg) hgok.2 (by omega) _ _ _ wz (HV12.out.1.keeps kz) (HV12.out.2.keeps kz) (hng.keeps kz)
 have hf2 := fun wz (kz : Keeps w12 wz) => forcedSet_ok b c hval hpos.1 hpos.2.1 hbc h6 (kol t) (kol_wf t hw) (isFm_of (kol_wf t hw) lk) (kol_plain t) (by omega) _ _ _ wz (HV12.out.1.keeps kz) (HV12.out.2.keeps kz) (hnk.keeps kz)
 have hf3 := fun wz (kz : Keeps w12 wz) => forcedSet_ok b c hval hpos.1 hpos.2.1 hbc h6 t.not.not (nn_wf hw) (isFm_of (nn_wf hw) lu) (nn_plain hpl) (by omega) _ _ _ wz (HV12.out.1.keeps kz) (HV12.out.2.keeps kz) (hnu.keeps kz)
 rw [frc_gen hpos hup hw hpl] at hf1
 rw [frc_kol hpos hup hw hpl] at hf2
 have HF1 := hid hf1
 have HF2 := hid hf2
 have HF3 := hid hf3
 clear hf1 hf2 hf3 hng hnk hnu hval hpos hup hbc h6 lg eg lk ek lu eu HR HGK HKK HUK HU2 HU5 HU6L HV12 K62 K62b K12 hgok
 rw [zs_length b] at *
 rw [zs_length c] at *
 generalize frcP b c t.not.not = z at *
 generalize b.length = bl at *
 generalize c.length = cl at *
 go_wp2_with fail
 refine (HF1.out _ (Keeps.refl _)).mono ?_; rintro e w13 ⟨rfl, k13⟩
 replace x0 := k13.cell x0
 replace x1 := k13.cell x1
 go_wp2_with fail
 refine (HF2.out _ k13).mono ?_; rintro e w14 ⟨rfl, k14⟩
 replace x0 := k14.cell x0
 replace x1 := k14.cell x1
 go_wp2_with fail
 refine (HF3.out _ (k13.trans k14)).mono ?_; rintro e w15 ⟨rfl, k15⟩
 have KE := hid (KF.out.trans ((k13.trans k14).trans k15))
 clear k13 k14 k15 HF1 HF2 HF3 x0 x1
 go_wp2_with fail
 go_ret
 exact ⟨rfl, KE.out⟩
end Go.Proofs.YtfmmajgkjkmghaaGreat
