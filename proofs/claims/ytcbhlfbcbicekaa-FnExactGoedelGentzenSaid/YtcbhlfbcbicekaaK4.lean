/- Walks: the Goedel-Gentzen translation on both sides. -/
import Derived.Test.YtcbhlfbcbicekaaK1
namespace Go.Proofs.Ytcbhlfbcbicekaa
open Go.RowKit
--
set_option maxHeartbeats 1000000 in
theorem l29Gentzen_any (t : Fm) (hp : t.plain = true) : ∀ (v : Value) (w : World), Nds w v t.enc → t.enc.length ≤ 1048576 → Calls Try.prog 71 #[v] w (RetN w (gen t).enc) := by
  induction t with
  | var i =>
    intro v w hv hl
    have hv0 := hv
    obtain ⟨b, off, n, cap, rfl, h0, h1, h2, h3, hc, _⟩ := hv.head
    clear hv
    go_enter Try.func71, Try.ntmps71
    go_wp2_with (go_at_call 134; first | ((with_reducible refine (l02Not_any (.var i) _ _ hv0 (by simp [Fm.enc])).mono ?_); rintro e w1 ⟨v1, rfl, hv1, k1⟩) | ((with_reducible refine (l02Not_any (Fm.var i).not v1 _ (hv1.nds (by simp [Fm.not, Fm.enc])) (by simp [Fm.not, Fm.enc])).mono ?_); rintro e w2 ⟨v2, rfl, hv2, k2⟩))
    go_ret
    exact ⟨_, rfl, hv2.mono k1.size, k1.trans k2⟩
  | fls =>
    intro v w hv hl
    obtain ⟨b, off, n, cap, rfl, h0, h1, h2, h3, hc, _⟩ := hv.head
    clear hv
    go_enter Try.func71, Try.ntmps71
    go_wp2_with (go_at_call 135; refine (l02False_any _).mono ?_; rintro e w1 ⟨v1, rfl, hv1, k1⟩)
    go_ret
    exact ⟨_, rfl, hv1, k1⟩
  | box x ih => simp [Fm.plain] at hp
  | dia x ih => simp [Fm.plain] at hp
  | and x y ihx ihy =>
    simp [Fm.plain] at hp
    intro v w hv hl
    have hls : 1 + x.enc.length + y.enc.length ≤ 1048576 := by simp [Fm.enc] at hl; omega
    have HX := hid (ihx hp.1)
    have HY := hid (ihy hp.2)
    clear ihx ihy hl
    have bx := gen_len x
    have by' := gen_len y
    have hv0 := hv
    obtain ⟨b, off, n, cap, rfl, h0, h1, h2, h3, hc, _⟩ := hv.head
    clear hv
    go_enter Try.func71, Try.ntmps71
    go_wp2_with (first
      | (go_at_call 136; refine (l02Left_any _ _ x y.enc _ _ hv0 rfl).mono ?_; rintro e w' ⟨v1, rfl, hv1, rfl⟩)
      | (go_at_call 137; refine (l02Right_any _ _ x y _ _ (hv0.keeps k2) rfl).mono ?_; rintro e w' ⟨v3, rfl, hv3, rfl⟩)
      | (go_at_call 71; first
          | ((with_reducible refine (HX.out v1 _ hv1 (by omega)).mono ?_); rintro e w2 ⟨v2, rfl, hv2, k2⟩; have c2 := k2.cell hc)
          | ((with_reducible refine (HY.out v3 _ hv3 (by omega)).mono ?_); rintro e w4 ⟨v4, rfl, hv4, k4⟩; have c4 := k4.cell c2))
      | (go_at_call 86; refine (l02Pair_any _ _ _ _ _ _ ((hv2.nds (by omega)).keeps k4) (hv4.nds (by omega)) (by omega)).mono ?_; rintro e w5 ⟨v5, rfl, hv5, k5⟩))
    go_ret
    have kk := k2.trans k4
    exact ⟨_, rfl, hv5.mono kk.size, kk.trans k5⟩
  | or x y ihx ihy =>
    simp [Fm.plain] at hp
    intro v w hv hl
    have hls : 1 + x.enc.length + y.enc.length ≤ 1048576 := by simp [Fm.enc] at hl; omega
    have HX := hid (ihx hp.1)
    have HY := hid (ihy hp.2)
    clear ihx ihy hl
    have bx := gen_len x
    have by' := gen_len y
    have hv0 := hv
    obtain ⟨b, off, n, cap, rfl, h0, h1, h2, h3, hc, _⟩ := hv.head
    clear hv
    go_enter Try.func71, Try.ntmps71
    go_wp2_with (first
      | (go_at_call 136; refine (l02Left_any _ _ x y.enc _ _ hv0 rfl).mono ?_; rintro e w' ⟨v1, rfl, hv1, rfl⟩)
      | (go_at_call 137; refine (l02Right_any _ _ x y _ _ (hv0.keeps k2) rfl).mono ?_; rintro e w' ⟨v3, rfl, hv3, rfl⟩)
      | (go_at_call 71; first
          | ((with_reducible refine (HX.out v1 _ hv1 (by omega)).mono ?_); rintro e w2 ⟨v2, rfl, hv2, k2⟩; have c2 := k2.cell hc)
          | ((with_reducible refine (HY.out v3 _ hv3 (by omega)).mono ?_); rintro e w4 ⟨v4, rfl, hv4, k4⟩; have c4 := k4.cell c2))
      | (go_at_call 134; first
          | ((with_reducible refine (l02Not_any (gen x) v2 w4 ((hv2.nds (by omega)).keeps k4) (by omega)).mono ?_); rintro e w5 ⟨v5, rfl, hv5, k5⟩)
          | ((with_reducible refine (l02Not_any (gen y) v4 w5 ((hv4.nds (by omega)).keeps k5) (by omega)).mono ?_); rintro e w6 ⟨v6, rfl, hv6, k6⟩)
          | ((refine (l02Not_any (.and (gen x).not (gen y).not) v7 w7 (hv7.nds (by simp [Fm.not, Fm.enc]; omega)) (by simp [Fm.not, Fm.enc]; omega)).mono ?_); rintro e w8 ⟨v8, rfl, hv8, k8⟩))
      | (go_at_call 86; refine (l02Pair_any _ _ _ _ _ _ ((hv5.nds (by simp [Fm.not, Fm.enc]; omega)).keeps k6) (hv6.nds (by simp [Fm.not, Fm.enc]; omega)) (by simp [Fm.not, Fm.enc]; omega)).mono ?_; rintro e w7 ⟨v7, rfl, hv7, k7⟩))
    go_ret
    have kk := ((k2.trans k4).trans (k5.trans k6)).trans k7
    exact ⟨_, rfl, hv8.mono kk.size, kk.trans k8⟩
  | imp x y ihx ihy =>
    simp [Fm.plain] at hp
    intro v w hv hl
    have hls : 1 + x.enc.length + y.enc.length ≤ 1048576 := by simp [Fm.enc] at hl; omega
    have HX := hid (ihx hp.1)
    have HY := hid (ihy hp.2)
    clear ihx ihy hl
    have bx := gen_len x
    have by' := gen_len y
    have hv0 := hv
    obtain ⟨b, off, n, cap, rfl, h0, h1, h2, h3, hc, _⟩ := hv.head
    clear hv
    go_enter Try.func71, Try.ntmps71
    go_wp2_with (first
      | (go_at_call 136; refine (l02Left_any _ _ x y.enc _ _ hv0 rfl).mono ?_; rintro e w' ⟨v1, rfl, hv1, rfl⟩)
      | (go_at_call 137; refine (l02Right_any _ _ x y _ _ (hv0.keeps k2) rfl).mono ?_; rintro e w' ⟨v3, rfl, hv3, rfl⟩)
      | (go_at_call 71; first
          | ((with_reducible refine (HX.out v1 _ hv1 (by omega)).mono ?_); rintro e w2 ⟨v2, rfl, hv2, k2⟩; have c2 := k2.cell hc)
          | ((with_reducible refine (HY.out v3 _ hv3 (by omega)).mono ?_); rintro e w4 ⟨v4, rfl, hv4, k4⟩; have c4 := k4.cell c2))
      | (go_at_call 86; refine (l02Pair_any _ _ _ _ _ _ ((hv2.nds (by omega)).keeps k4) (hv4.nds (by omega)) (by omega)).mono ?_; rintro e w5 ⟨v5, rfl, hv5, k5⟩))
    go_ret
    have kk := k2.trans k4
    exact ⟨_, rfl, hv5.mono kk.size, kk.trans k5⟩
--
set_option maxHeartbeats 400000 in
theorem genJ_and_any (x y : Fm) (va vb : Value) (w : World) (hva : Nds w va x.enc) (hvb : Nds w vb y.enc) (hl : x.enc.length + y.enc.length ≤ 100000000) :
    Calls Try.prog 72 #[.int .i64 2, va, vb] w (RetN w (Fm.and x y).enc) := by
  go_enter Try.func72, Try.ntmps72
  go_wp2_with (go_at_call 68; refine (join_any _ _ _ _ _ _ hva hvb (by omega)).mono ?_; rintro e w1 ⟨v1, rfl, hv1, k1⟩)
  go_ret
  exact ⟨_, rfl, hv1, k1⟩
set_option maxHeartbeats 400000 in
theorem genJ_or_any (x y : Fm) (va vb : Value) (w : World) (hva : Nds w va x.enc) (hvb : Nds w vb y.enc) (hl : x.enc.length + y.enc.length ≤ 100000000) :
    Calls Try.prog 72 #[.int .i64 3, va, vb] w (RetN w (Fm.and x.not y.not).not.enc) := by
  go_enter Try.func72, Try.ntmps72
  go_wp2_with (first
    | (go_at_call 73; first
        | ((with_reducible refine (negation_any x va w hva (by omega)).mono ?_); rintro e w1 ⟨v1, rfl, hv1, k1⟩)
        | ((with_reducible refine (negation_any y vb w1 (hvb.keeps k1) (by omega)).mono ?_); rintro e w2 ⟨v2, rfl, hv2, k2⟩)
        | ((refine (negation_any (.and x.not y.not) v3 w3 (hv3.nds (by simp [Fm.not, Fm.enc]; omega)) (by simp [Fm.not, Fm.enc]; omega)).mono ?_); rintro e w4 ⟨v4, rfl, hv4, k4⟩))
    | (go_at_call 68; refine (join_any _ _ _ _ _ _ ((hv1.nds (by simp [Fm.not, Fm.enc]; omega)).keeps k2) (hv2.nds (by simp [Fm.not, Fm.enc]; omega)) (by simp [Fm.not, Fm.enc]; omega)).mono ?_; rintro e w3 ⟨v3, rfl, hv3, k3⟩))
  go_ret
  have kk := (k1.trans k2).trans k3
  exact ⟨_, rfl, hv4.mono kk.size, kk.trans k4⟩
set_option maxHeartbeats 400000 in
theorem genJ_imp_any (x y : Fm) (va vb : Value) (w : World) (hva : Nds w va x.enc) (hvb : Nds w vb y.enc) (hl : x.enc.length + y.enc.length ≤ 100000000) :
    Calls Try.prog 72 #[.int .i64 4, va, vb] w (RetN w (Fm.imp x y).enc) := by
  go_enter Try.func72, Try.ntmps72
  go_wp2_with (go_at_call 68; refine (join_any _ _ _ _ _ _ hva hvb (by omega)).mono ?_; rintro e w1 ⟨v1, rfl, hv1, k1⟩)
  go_ret
  exact ⟨_, rfl, hv1, k1⟩
--
set_option maxRecDepth 20000 in
set_option maxHeartbeats 1000000 in
theorem ofGoedelGentzen_any (t : Fm) (hp : t.plain = true) : ∀ (v : Value) (w : World), Nds w v t.enc → t.enc.length ≤ 1048576 → Calls Try.prog 140 #[.agg #[.func (.func 66) #[] #[], .func (.func 72) #[] #[]], v] w (RetN w (gen t).enc) := by
  induction t with
  | var i =>
    intro v w hv hl
    have hv0 := hv
    obtain ⟨b, off, n, cap, rfl, h0, h1, h2, h3, hc, _⟩ := hv.head
    clear hv
    have kA := (Keeps.refl w).alloc (.cells #[.func (.func 66) #[] #[], .func (.func 72) #[] #[]] 90)
    have hcA := kA.cell hc
    go_enter Try.func140, Try.ntmps140
    go_wp2_with (go_at_call 66; refine (doubleNegation_any (.var i) _ _ (hv0.keeps kA) (by simp [Fm.enc])).mono ?_; rintro e w1 ⟨v1, rfl, hv1, k1⟩)
    go_ret
    exact ⟨_, rfl, hv1.mono kA.size, kA.trans k1⟩
  | fls =>
    intro v w hv hl
    obtain ⟨b, off, n, cap, rfl, h0, h1, h2, h3, hc, _⟩ := hv.head
    clear hv
    have kA := (Keeps.refl w).alloc (.cells #[.func (.func 66) #[] #[], .func (.func 72) #[] #[]] 90)
    have hcA := kA.cell hc
    go_enter Try.func140, Try.ntmps140
    go_wp2_with (go_at_call 141; refine (falsum_any _).mono ?_; rintro e w1 ⟨v1, rfl, hv1, k1⟩)
    go_ret
    exact ⟨_, rfl, hv1.mono kA.size, kA.trans k1⟩
  | box x ih => simp [Fm.plain] at hp
  | dia x ih => simp [Fm.plain] at hp
  | and x y ihx ihy =>
    simp [Fm.plain] at hp
    intro v w hv hl
    have hls : 1 + x.enc.length + y.enc.length ≤ 1048576 := by simp [Fm.enc] at hl; omega
    have HX := hid (ihx hp.1)
    have HY := hid (ihy hp.2)
    clear ihx ihy hl
    have bx := gen_len x
    have by' := gen_len y
    have hv0 := hv
    obtain ⟨b, off, n, cap, rfl, h0, h1, h2, h3, hc, _⟩ := hv.head
    clear hv
    have kA := (Keeps.refl w).alloc (.cells #[.func (.func 66) #[] #[], .func (.func 72) #[] #[]] 90)
    have hcA := kA.cell hc
    have f0 : (w.alloc (.cells #[.func (.func 66) #[] #[], .func (.func 72) #[] #[]] 90)).cell? ⟨w.heap.size, 0, none⟩ = some (.func (.func 66) #[] #[]) := by simp
    have f1 : (w.alloc (.cells #[.func (.func 66) #[] #[], .func (.func 72) #[] #[]] 90)).cell? ⟨w.heap.size, 1, none⟩ = some (.func (.func 72) #[] #[]) := by simp
    have HF0 := hid f0; clear f0
    have HF1 := hid f1; clear f1
    have HCA := hid hcA
    have kD := kA.drew
    go_enter Try.func140, Try.ntmps140
    go_wp2_with fail
    go_region_held3 (fun w' => w'.cell? ⟨b, off, none⟩ = some (.int .i64 2) ∧ w'.cell? ⟨w.heap.size, 0, none⟩ = some (.func (.func 66) #[] #[]) ∧ w'.cell? ⟨w.heap.size, 1, none⟩ = some (.func (.func 72) #[] #[])) (first | exact ⟨HCA.out, HF0.out, HF1.out⟩ | exact ⟨c2, d2, e2⟩ | exact ⟨c4, d4, e4⟩ | exact ⟨c5, d5, e5⟩) (first
      | (go_at_call 209; refine (first_any _ _ x y.enc _ _ (hv0.keeps kD) rfl).mono ?_; rintro e w' ⟨v1, rfl, hv1, rfl⟩)
      | (go_at_call 210; refine (second_any _ _ x y _ _ ((hv0.keeps kD).keeps k2) rfl).mono ?_; rintro e w' ⟨v3, rfl, hv3, rfl⟩)
      | (go_at_call 140; first
          | ((with_reducible refine (HX.out v1 _ hv1 (by omega)).mono ?_); rintro e w2 ⟨v2, rfl, hv2, k2⟩; have c2 := k2.cell (show (World.drew _).cell? _ = _ from HCA.out); have d2 := k2.cell (show (World.drew _).cell? _ = _ from HF0.out); have e2 := k2.cell (show (World.drew _).cell? _ = _ from HF1.out))
          | ((with_reducible refine (HY.out v3 _ hv3 (by omega)).mono ?_); rintro e w4 ⟨v4, rfl, hv4, k4⟩; have c4 := k4.cell c2; have d4 := k4.cell d2; have e4 := k4.cell e2))
      | (go_at_call 72; refine (genJ_and_any _ _ _ _ _ ((hv2.nds (by omega)).keeps k4) (hv4.nds (by omega)) (by omega)).mono ?_; rintro e w5 ⟨v5, rfl, hv5, k5⟩; have c5 := k5.cell c4; have d5 := k5.cell d4; have e5 := k5.cell e4))
    go_wp2
    go_ret
    have kk := kD.trans (k2.trans k4)
    exact ⟨_, rfl, hv5.mono kk.size, kk.trans k5⟩
  | or x y ihx ihy =>
    simp [Fm.plain] at hp
    intro v w hv hl
    have hls : 1 + x.enc.length + y.enc.length ≤ 1048576 := by simp [Fm.enc] at hl; omega
    have HX := hid (ihx hp.1)
    have HY := hid (ihy hp.2)
    clear ihx ihy hl
    have bx := gen_len x
    have by' := gen_len y
    have hv0 := hv
    obtain ⟨b, off, n, cap, rfl, h0, h1, h2, h3, hc, _⟩ := hv.head
    clear hv
    have kA := (Keeps.refl w).alloc (.cells #[.func (.func 66) #[] #[], .func (.func 72) #[] #[]] 90)
    have hcA := kA.cell hc
    have f0 : (w.alloc (.cells #[.func (.func 66) #[] #[], .func (.func 72) #[] #[]] 90)).cell? ⟨w.heap.size, 0, none⟩ = some (.func (.func 66) #[] #[]) := by simp
    have f1 : (w.alloc (.cells #[.func (.func 66) #[] #[], .func (.func 72) #[] #[]] 90)).cell? ⟨w.heap.size, 1, none⟩ = some (.func (.func 72) #[] #[]) := by simp
    have HF0 := hid f0; clear f0
    have HF1 := hid f1; clear f1
    have HCA := hid hcA
    have kD := kA.drew
    go_enter Try.func140, Try.ntmps140
    go_wp2_with fail
    go_region_held3 (fun w' => w'.cell? ⟨b, off, none⟩ = some (.int .i64 3) ∧ w'.cell? ⟨w.heap.size, 0, none⟩ = some (.func (.func 66) #[] #[]) ∧ w'.cell? ⟨w.heap.size, 1, none⟩ = some (.func (.func 72) #[] #[])) (first | exact ⟨HCA.out, HF0.out, HF1.out⟩ | exact ⟨c2, d2, e2⟩ | exact ⟨c4, d4, e4⟩ | exact ⟨c5, d5, e5⟩) (first
      | (go_at_call 209; refine (first_any _ _ x y.enc _ _ (hv0.keeps kD) rfl).mono ?_; rintro e w' ⟨v1, rfl, hv1, rfl⟩)
      | (go_at_call 210; refine (second_any _ _ x y _ _ ((hv0.keeps kD).keeps k2) rfl).mono ?_; rintro e w' ⟨v3, rfl, hv3, rfl⟩)
      | (go_at_call 140; first
          | ((with_reducible refine (HX.out v1 _ hv1 (by omega)).mono ?_); rintro e w2 ⟨v2, rfl, hv2, k2⟩; have c2 := k2.cell (show (World.drew _).cell? _ = _ from HCA.out); have d2 := k2.cell (show (World.drew _).cell? _ = _ from HF0.out); have e2 := k2.cell (show (World.drew _).cell? _ = _ from HF1.out))
          | ((with_reducible refine (HY.out v3 _ hv3 (by omega)).mono ?_); rintro e w4 ⟨v4, rfl, hv4, k4⟩; have c4 := k4.cell c2; have d4 := k4.cell d2; have e4 := k4.cell e2))
      | (go_at_call 72; refine (genJ_or_any _ _ _ _ _ ((hv2.nds (by omega)).keeps k4) (hv4.nds (by omega)) (by omega)).mono ?_; rintro e w5 ⟨v5, rfl, hv5, k5⟩; have c5 := k5.cell c4; have d5 := k5.cell d4; have e5 := k5.cell e4))
    go_wp2
    go_ret
    have kk := kD.trans (k2.trans k4)
    exact ⟨_, rfl, hv5.mono kk.size, kk.trans k5⟩
  | imp x y ihx ihy =>
    simp [Fm.plain] at hp
    intro v w hv hl
    have hls : 1 + x.enc.length + y.enc.length ≤ 1048576 := by simp [Fm.enc] at hl; omega
    have HX := hid (ihx hp.1)
    have HY := hid (ihy hp.2)
    clear ihx ihy hl
    have bx := gen_len x
    have by' := gen_len y
    have hv0 := hv
    obtain ⟨b, off, n, cap, rfl, h0, h1, h2, h3, hc, _⟩ := hv.head
    clear hv
    have kA := (Keeps.refl w).alloc (.cells #[.func (.func 66) #[] #[], .func (.func 72) #[] #[]] 90)
    have hcA := kA.cell hc
    have f0 : (w.alloc (.cells #[.func (.func 66) #[] #[], .func (.func 72) #[] #[]] 90)).cell? ⟨w.heap.size, 0, none⟩ = some (.func (.func 66) #[] #[]) := by simp
    have f1 : (w.alloc (.cells #[.func (.func 66) #[] #[], .func (.func 72) #[] #[]] 90)).cell? ⟨w.heap.size, 1, none⟩ = some (.func (.func 72) #[] #[]) := by simp
    have HF0 := hid f0; clear f0
    have HF1 := hid f1; clear f1
    have HCA := hid hcA
    have kD := kA.drew
    go_enter Try.func140, Try.ntmps140
    go_wp2_with fail
    go_region_held3 (fun w' => w'.cell? ⟨b, off, none⟩ = some (.int .i64 4) ∧ w'.cell? ⟨w.heap.size, 0, none⟩ = some (.func (.func 66) #[] #[]) ∧ w'.cell? ⟨w.heap.size, 1, none⟩ = some (.func (.func 72) #[] #[])) (first | exact ⟨HCA.out, HF0.out, HF1.out⟩ | exact ⟨c2, d2, e2⟩ | exact ⟨c4, d4, e4⟩ | exact ⟨c5, d5, e5⟩) (first
      | (go_at_call 209; refine (first_any _ _ x y.enc _ _ (hv0.keeps kD) rfl).mono ?_; rintro e w' ⟨v1, rfl, hv1, rfl⟩)
      | (go_at_call 210; refine (second_any _ _ x y _ _ ((hv0.keeps kD).keeps k2) rfl).mono ?_; rintro e w' ⟨v3, rfl, hv3, rfl⟩)
      | (go_at_call 140; first
          | ((with_reducible refine (HX.out v1 _ hv1 (by omega)).mono ?_); rintro e w2 ⟨v2, rfl, hv2, k2⟩; have c2 := k2.cell (show (World.drew _).cell? _ = _ from HCA.out); have d2 := k2.cell (show (World.drew _).cell? _ = _ from HF0.out); have e2 := k2.cell (show (World.drew _).cell? _ = _ from HF1.out))
          | ((with_reducible refine (HY.out v3 _ hv3 (by omega)).mono ?_); rintro e w4 ⟨v4, rfl, hv4, k4⟩; have c4 := k4.cell c2; have d4 := k4.cell d2; have e4 := k4.cell e2))
      | (go_at_call 72; refine (genJ_imp_any _ _ _ _ _ ((hv2.nds (by omega)).keeps k4) (hv4.nds (by omega)) (by omega)).mono ?_; rintro e w5 ⟨v5, rfl, hv5, k5⟩; have c5 := k5.cell c4; have d5 := k5.cell d4; have e5 := k5.cell e4))
    go_wp2
    go_ret
    have kk := kD.trans (k2.trans k4)
    exact ⟨_, rfl, hv5.mono kk.size, kk.trans k5⟩
end Go.Proofs.Ytcbhlfbcbicekaa
