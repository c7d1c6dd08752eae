/- Walks: Kolmogorov's translation in the program. -/
import Derived.Test.YtcbhlfbcbicekaaK1
namespace Go.Proofs.Ytcbhlfbcbicekaa
open Go.RowKit
--
set_option maxHeartbeats 400000 in
theorem kolJ_and_any (x y : Fm) (va vb : Value) (w : World) (hva : Nds w va x.enc) (hvb : Nds w vb y.enc) (hl : x.enc.length + y.enc.length ≤ 100000000) :
    Calls Try.prog 67 #[.int .i64 2, va, vb] w (RetN w (Fm.and x y).not.not.enc) := by
  go_enter Try.func67, Try.ntmps67
  go_wp2_with (first
    | (go_at_call 68; refine (join_any _ _ _ _ _ _ hva hvb (by omega)).mono ?_; rintro e w1 ⟨v1, rfl, hv1, k1⟩)
    | (go_at_call 66; refine (doubleNegation_any (.and x y) v1 _ (hv1.nds (by simp; omega)) (by simp [Fm.enc]; omega)).mono ?_; rintro e w2 ⟨v2, rfl, hv2, k2⟩))
  go_ret
  exact ⟨_, rfl, hv2.mono k1.size, k1.trans k2⟩
set_option maxHeartbeats 400000 in
theorem kolJ_or_any (x y : Fm) (va vb : Value) (w : World) (hva : Nds w va x.enc) (hvb : Nds w vb y.enc) (hl : x.enc.length + y.enc.length ≤ 100000000) :
    Calls Try.prog 67 #[.int .i64 3, va, vb] w (RetN w (Fm.or x y).not.not.enc) := by
  go_enter Try.func67, Try.ntmps67
  go_wp2_with (first
    | (go_at_call 68; refine (join_any _ _ _ _ _ _ hva hvb (by omega)).mono ?_; rintro e w1 ⟨v1, rfl, hv1, k1⟩)
    | (go_at_call 66; refine (doubleNegation_any (.or x y) v1 _ (hv1.nds (by simp; omega)) (by simp [Fm.enc]; omega)).mono ?_; rintro e w2 ⟨v2, rfl, hv2, k2⟩))
  go_ret
  exact ⟨_, rfl, hv2.mono k1.size, k1.trans k2⟩
set_option maxHeartbeats 400000 in
theorem kolJ_imp_any (x y : Fm) (va vb : Value) (w : World) (hva : Nds w va x.enc) (hvb : Nds w vb y.enc) (hl : x.enc.length + y.enc.length ≤ 100000000) :
    Calls Try.prog 67 #[.int .i64 4, va, vb] w (RetN w (Fm.imp x y).not.not.enc) := by
  go_enter Try.func67, Try.ntmps67
  go_wp2_with (first
    | (go_at_call 68; refine (join_any _ _ _ _ _ _ hva hvb (by omega)).mono ?_; rintro e w1 ⟨v1, rfl, hv1, k1⟩)
    | (go_at_call 66; refine (doubleNegation_any (.imp x y) v1 _ (hv1.nds (by simp; omega)) (by simp [Fm.enc]; omega)).mono ?_; rintro e w2 ⟨v2, rfl, hv2, k2⟩))
  go_ret
  exact ⟨_, rfl, hv2.mono k1.size, k1.trans k2⟩
--
set_option maxRecDepth 20000 in
set_option maxHeartbeats 1000000 in
theorem ofKolmogorovOf_any (t : Fm) (hp : t.plain = true) : ∀ (v : Value) (w : World), Nds w v t.enc → t.enc.length ≤ 1048576 → Calls Try.prog 140 #[.agg #[.func (.func 66) #[] #[], .func (.func 67) #[] #[]], v] w (RetN w (kol t).enc) := by
  induction t with
  | var i =>
    intro v w hv hl
    have hv0 := hv
    obtain ⟨b, off, n, cap, rfl, h0, h1, h2, h3, hc, _⟩ := hv.head
    clear hv
    have kA := (Keeps.refl w).alloc (.cells #[.func (.func 66) #[] #[], .func (.func 67) #[] #[]] 90)
    have hcA := kA.cell hc
    go_enter Try.func140, Try.ntmps140
    go_wp2_with (go_at_call 66; refine (doubleNegation_any (.var i) _ _ (hv0.keeps kA) (by simp [Fm.enc])).mono ?_; rintro e w1 ⟨v1, rfl, hv1, k1⟩)
    go_ret
    exact ⟨_, rfl, hv1.mono kA.size, kA.trans k1⟩
  | fls =>
    intro v w hv hl
    obtain ⟨b, off, n, cap, rfl, h0, h1, h2, h3, hc, _⟩ := hv.head
    clear hv
    have kA := (Keeps.refl w).alloc (.cells #[.func (.func 66) #[] #[], .func (.func 67) #[] #[]] 90)
    have hcA := kA.cell hc
    go_enter Try.func140, Try.ntmps140
    go_wp2_with (go_at_call 141; refine (falsum_any _).mono ?_; rintro e w1 ⟨v1, rfl, hv1, k1⟩)
    go_ret
    exact ⟨_, rfl, hv1.mono kA.size, kA.trans k1⟩
  | box x ih => simp [Fm.plain] at hp
  | dia x ih => simp [Fm.plain] at hp
  | and x y ihx ihy =>
    simp [Fm.plain] at hp
    intro v w hv hl
    have hls : 1 + x.enc.length + y.enc.length ≤ 1048576 := by simp [Fm.enc] at hl; omega
    have HX := hid (ihx hp.1)
    have HY := hid (ihy hp.2)
    clear ihx ihy hl
    have bx := kol_len x
    have by' := kol_len y
    have hv0 := hv
    obtain ⟨b, off, n, cap, rfl, h0, h1, h2, h3, hc, _⟩ := hv.head
    clear hv
    have kA := (Keeps.refl w).alloc (.cells #[.func (.func 66) #[] #[], .func (.func 67) #[] #[]] 90)
    have hcA := kA.cell hc
    have f0 : (w.alloc (.cells #[.func (.func 66) #[] #[], .func (.func 67) #[] #[]] 90)).cell? ⟨w.heap.size, 0, none⟩ = some (.func (.func 66) #[] #[]) := by simp
    have f1 : (w.alloc (.cells #[.func (.func 66) #[] #[], .func (.func 67) #[] #[]] 90)).cell? ⟨w.heap.size, 1, none⟩ = some (.func (.func 67) #[] #[]) := by simp
    have HF0 := hid f0; clear f0
    have HF1 := hid f1; clear f1
    have HCA := hid hcA
    have kD := kA.drew
    go_enter Try.func140, Try.ntmps140
    go_wp2_with fail
    go_region_held3 (fun w' => w'.cell? ⟨b, off, none⟩ = some (.int .i64 2) ∧ w'.cell? ⟨w.heap.size, 0, none⟩ = some (.func (.func 66) #[] #[]) ∧ w'.cell? ⟨w.heap.size, 1, none⟩ = some (.func (.func 67) #[] #[])) (first | exact ⟨HCA.out, HF0.out, HF1.out⟩ | exact ⟨c2, d2, e2⟩ | exact ⟨c4, d4, e4⟩ | exact ⟨c5, d5, e5⟩) (first
      | (go_at_call 209; refine (first_any _ _ x y.enc _ _ (hv0.keeps kD) rfl).mono ?_; rintro e w' ⟨v1, rfl, hv1, rfl⟩)
      | (go_at_call 210; refine (second_any _ _ x y _ _ ((hv0.keeps kD).keeps k2) rfl).mono ?_; rintro e w' ⟨v3, rfl, hv3, rfl⟩)
      | (go_at_call 140; first
          | ((with_reducible refine (HX.out v1 _ hv1 (by omega)).mono ?_); rintro e w2 ⟨v2, rfl, hv2, k2⟩; have c2 := k2.cell (show (World.drew _).cell? _ = _ from HCA.out); have d2 := k2.cell (show (World.drew _).cell? _ = _ from HF0.out); have e2 := k2.cell (show (World.drew _).cell? _ = _ from HF1.out))
          | ((with_reducible refine (HY.out v3 _ hv3 (by omega)).mono ?_); rintro e w4 ⟨v4, rfl, hv4, k4⟩; have c4 := k4.cell c2; have d4 := k4.cell d2; have e4 := k4.cell e2))
      | (go_at_call 67; refine (kolJ_and_any _ _ _ _ _ ((hv2.nds (by omega)).keeps k4) (hv4.nds (by omega)) (by omega)).mono ?_; rintro e w5 ⟨v5, rfl, hv5, k5⟩; have c5 := k5.cell c4; have d5 := k5.cell d4; have e5 := k5.cell e4))
    go_wp2
    go_ret
    have kk := kD.trans (k2.trans k4)
    exact ⟨_, rfl, hv5.mono kk.size, kk.trans k5⟩
  | or x y ihx ihy =>
    simp [Fm.plain] at hp
    intro v w hv hl
    have hls : 1 + x.enc.length + y.enc.length ≤ 1048576 := by simp [Fm.enc] at hl; omega
    have HX := hid (ihx hp.1)
    have HY := hid (ihy hp.2)
    clear ihx ihy hl
    have bx := kol_len x
    have by' := kol_len y
    have hv0 := hv
    obtain ⟨b, off, n, cap, rfl, h0, h1, h2, h3, hc, _⟩ := hv.head
    clear hv
    have kA := (Keeps.refl w).alloc (.cells #[.func (.func 66) #[] #[], .func (.func 67) #[] #[]] 90)
    have hcA := kA.cell hc
    have f0 : (w.alloc (.cells #[.func (.func 66) #[] #[], .func (.func 67) #[] #[]] 90)).cell? ⟨w.heap.size, 0, none⟩ = some (.func (.func 66) #[] #[]) := by simp
    have f1 : (w.alloc (.cells #[.func (.func 66) #[] #[], .func (.func 67) #[] #[]] 90)).cell? ⟨w.heap.size, 1, none⟩ = some (.func (.func 67) #[] #[]) := by simp
    have HF0 := hid f0; clear f0
    have HF1 := hid f1; clear f1
    have HCA := hid hcA
    have kD := kA.drew
    go_enter Try.func140, Try.ntmps140
    go_wp2_with fail
    go_region_held3 (fun w' => w'.cell? ⟨b, off, none⟩ = some (.int .i64 3) ∧ w'.cell? ⟨w.heap.size, 0, none⟩ = some (.func (.func 66) #[] #[]) ∧ w'.cell? ⟨w.heap.size, 1, none⟩ = some (.func (.func 67) #[] #[])) (first | exact ⟨HCA.out, HF0.out, HF1.out⟩ | exact ⟨c2, d2, e2⟩ | exact ⟨c4, d4, e4⟩ | exact ⟨c5, d5, e5⟩) (first
      | (go_at_call 209; refine (first_any _ _ x y.enc _ _ (hv0.keeps kD) rfl).mono ?_; rintro e w' ⟨v1, rfl, hv1, rfl⟩)
      | (go_at_call 210; refine (second_any _ _ x y _ _ ((hv0.keeps kD).keeps k2) rfl).mono ?_; rintro e w' ⟨v3, rfl, hv3, rfl⟩)
      | (go_at_call 140; first
          | ((with_reducible refine (HX.out v1 _ hv1 (by omega)).mono ?_); rintro e w2 ⟨v2, rfl, hv2, k2⟩; have c2 := k2.cell (show (World.drew _).cell? _ = _ from HCA.out); have d2 := k2.cell (show (World.drew _).cell? _ = _ from HF0.out); have e2 := k2.cell (show (World.drew _).cell? _ = _ from HF1.out))
          | ((with_reducible refine (HY.out v3 _ hv3 (by omega)).mono ?_); rintro e w4 ⟨v4, rfl, hv4, k4⟩; have c4 := k4.cell c2; have d4 := k4.cell d2; have e4 := k4.cell e2))
      | (go_at_call 67; refine (kolJ_or_any _ _ _ _ _ ((hv2.nds (by omega)).keeps k4) (hv4.nds (by omega)) (by omega)).mono ?_; rintro e w5 ⟨v5, rfl, hv5, k5⟩; have c5 := k5.cell c4; have d5 := k5.cell d4; have e5 := k5.cell e4))
    go_wp2
    go_ret
    have kk := kD.trans (k2.trans k4)
    exact ⟨_, rfl, hv5.mono kk.size, kk.trans k5⟩
  | imp x y ihx ihy =>
    simp [Fm.plain] at hp
    intro v w hv hl
    have hls : 1 + x.enc.length + y.enc.length ≤ 1048576 := by simp [Fm.enc] at hl; omega
    have HX := hid (ihx hp.1)
    have HY := hid (ihy hp.2)
    clear ihx ihy hl
    have bx := kol_len x
    have by' := kol_len y
    have hv0 := hv
    obtain ⟨b, off, n, cap, rfl, h0, h1, h2, h3, hc, _⟩ := hv.head
    clear hv
    have kA := (Keeps.refl w).alloc (.cells #[.func (.func 66) #[] #[], .func (.func 67) #[] #[]] 90)
    have hcA := kA.cell hc
    have f0 : (w.alloc (.cells #[.func (.func 66) #[] #[], .func (.func 67) #[] #[]] 90)).cell? ⟨w.heap.size, 0, none⟩ = some (.func (.func 66) #[] #[]) := by simp
    have f1 : (w.alloc (.cells #[.func (.func 66) #[] #[], .func (.func 67) #[] #[]] 90)).cell? ⟨w.heap.size, 1, none⟩ = some (.func (.func 67) #[] #[]) := by simp
    have HF0 := hid f0; clear f0
    have HF1 := hid f1; clear f1
    have HCA := hid hcA
    have kD := kA.drew
    go_enter Try.func140, Try.ntmps140
    go_wp2_with fail
    go_region_held3 (fun w' => w'.cell? ⟨b, off, none⟩ = some (.int .i64 4) ∧ w'.cell? ⟨w.heap.size, 0, none⟩ = some (.func (.func 66) #[] #[]) ∧ w'.cell? ⟨w.heap.size, 1, none⟩ = some (.func (.func 67) #[] #[])) (first | exact ⟨HCA.out, HF0.out, HF1.out⟩ | exact ⟨c2, d2, e2⟩ | exact ⟨c4, d4, e4⟩ | exact ⟨c5, d5, e5⟩) (first
      | (go_at_call 209; refine (first_any _ _ x y.enc _ _ (hv0.keeps kD) rfl).mono ?_; rintro e w' ⟨v1, rfl, hv1, rfl⟩)
      | (go_at_call 210; refine (second_any _ _ x y _ _ ((hv0.keeps kD).keeps k2) rfl).mono ?_; rintro e w' ⟨v3, rfl, hv3, rfl⟩)
      | (go_at_call 140; first
          | ((with_reducible refine (HX.out v1 _ hv1 (by omega)).mono ?_); rintro e w2 ⟨v2, rfl, hv2, k2⟩; have c2 := k2.cell (show (World.drew _).cell? _ = _ from HCA.out); have d2 := k2.cell (show (World.drew _).cell? _ = _ from HF0.out); have e2 := k2.cell (show (World.drew _).cell? _ = _ from HF1.out))
          | ((with_reducible refine (HY.out v3 _ hv3 (by omega)).mono ?_); rintro e w4 ⟨v4, rfl, hv4, k4⟩; have c4 := k4.cell c2; have d4 := k4.cell d2; have e4 := k4.cell e2))
      | (go_at_call 67; refine (kolJ_imp_any _ _ _ _ _ ((hv2.nds (by omega)).keeps k4) (hv4.nds (by omega)) (by omega)).mono ?_; rintro e w5 ⟨v5, rfl, hv5, k5⟩; have c5 := k5.cell c4; have d5 := k5.cell d4; have e5 := k5.cell e4))
    go_wp2
    go_ret
    have kk := kD.trans (k2.trans k4)
    exact ⟨_, rfl, hv5.mono kk.size, kk.trans k5⟩
end Go.Proofs.Ytcbhlfbcbicekaa
