import Derived.Test.YtfmmajgkjkmghaaGreatED4
import Derived.Test.YtfmmajgkjkmghaaGreatEHD
import Derived.Test.YtfmmajgkjkmghaaGreatEQG
import Derived.Test.YtfmmajgkjkmghaaGreatEW7
import Derived.Test.YtfmmajgkjkmghaaGreatEK1
/- The laws' dice; codes that are too long. -/
namespace Go.Proofs.YtfmmajgkjkmghaaGreat
open Go.RowKit
theorem big_any (v : Value) (n : Nat) (w : World) (hv : Bts w v n) : Calls Tryz.prog 5 #[v] w fun e w' => e = .returned (.bool (decide (4096 < n))) ∧ w = w' := by
 obtain ⟨p, c, rfl, hc, hm, _⟩ := hv
 unfold maxLen at hm
 go_enter Tryz.func5, Tryz.ntmps5
 go_wp2
 go_ret
 exact ⟨ret_bool (by rw [Bool.eq_iff_iff]; simp; omega), rfl⟩
theorem Bts.keeps {w w' : World} {v : Value} {n : Nat} (h : Bts w v n) (k : Keeps w w') : Bts w' v n := (BtsB.low h k).up k.size
end Go.Proofs.YtfmmajgkjkmghaaGreat
namespace Go.Proofs.YtfmmajgkjkmghaaGreat
open Go.RowKit
end Go.Proofs.YtfmmajgkjkmghaaGreat
namespace Go.Proofs.YtfmmajgkjkmghaaGreat
open Go.RowKit
set_option maxRecDepth 20000 in
set_option maxHeartbeats 1000000 in
theorem sameNodes9_any (a b : List Nd) (va vb : Value) (w : World) (hva : Nds w va a) (hvb : Nds w vb b) :
  Calls Tryz.prog 9 #[va, vb] w fun e w' => e = .returned (.bool (decide (a = b))) ∧ Keeps w w' := by
 have hva0 := hva
 have hvb0 := hvb
 obtain ⟨pa, ca, rfl, hlea, hmxa, _, hlena⟩ := hva
 obtain ⟨pb, cb, rfl, hleb, hmxb, _, hlenb⟩ := hvb
 unfold maxLen at hmxa hmxb
 by_cases hl : a.length = b.length
 ·have hl' : ((a.length : Int) != (b.length : Int)) = false := by simp [hl]
  have HL := hid hl; clear hl
  go_enter Tryz.func9, Tryz.ntmps9
  go_wp2
  go_loopw [4, 5] (fun r i' wr => ∃ k : Nat, k ≤ a.length ∧ a.take k = b.take k ∧ Keeps w wr ∧ i' = .int .i64 k ∧ r = .bool false) (fun _ i _ => a.length - (intOf i).toNat)
  case atStart => exact ⟨0, by omega, rfl, Keeps.refl w, rfl, rfl⟩
  case round =>
   obtain ⟨k, hk, htk, kw, rfl, rfl⟩ := hrel
   have HT := hid htk; clear htk
   clear hl'
   by_cases hlt : k < a.length
   ·have hltb : k < b.length := by have := HL.out; omega
    obtain ⟨_, _, e1, _, _, hata, _⟩ := hva0.keeps kw.drew
    obtain ⟨_, _, e2, _, _, hatb, _⟩ := hvb0.keeps kw.drew
    cases e1; cases e2
    obtain ⟨b1, o1, rfl, h1, h2⟩ := hata.nd k hlt
    obtain ⟨b2, o2, rfl, h3, h4⟩ := hatb.nd k hltb
    clear hata hatb hva0 hvb0
    have hlt' : (k : Int) < a.length := by omega
    have hltb' : (k : Int) < b.length := by omega
    by_cases he : a[k] = b[k]
    ·have hk2 : a[k].k = b[k].k := by rw [he]
     have hs2 : a[k].s = b[k].s := by rw [he]
     rw [hk2] at h1
     rw [hs2] at h2
     have HE := hid he; clear he hk2 hs2
     go_wp2_with fail
     go_region
     go_wp2
     go_roundw
     case rel => exact ⟨k + 1, by omega, by rw [List.take_succ_eq_append_getElem hlt, List.take_succ_eq_append_getElem hltb, HT.out, HE.out], kw.drew, by go_num, rfl⟩
     case measure => simp [intOf]; omega
    ·have hne : decide (a = b) = false := by rw [decide_eq_false_iff_not]; rintro rfl; exact he rfl
     have HN := hid hne; clear hne
     have hks : ¬ (a[k].k = b[k].k ∧ a[k].s = b[k].s) := fun ⟨g1, g2⟩ => he (by cases hx : a[k]; cases hy : b[k]; simp [hx, hy] at g1 g2; simp [g1, g2])
     clear he
     generalize a[k].k = x1 at *
     generalize a[k].s = x2 at *
     generalize b[k].k = y1 at *
     generalize b[k].s = y2 at *
     by_cases hx : x1 = y1
     ·have hx2 : ¬ x2 = y2 := fun e => hks ⟨hx, e⟩
      subst hx
      clear hks
      go_wp2_with fail
      go_region
      go_wp2
      go_ret
      exact ⟨ret_bool HN.out.symm, kw.drew⟩
     ·clear hks
      go_wp2_with fail
      go_region
      go_wp2
      go_ret
      exact ⟨ret_bool HN.out.symm, kw.drew⟩
   ·go_wp2
    go_ret
    refine ⟨ret_bool ?_, kw⟩
    symm; rw [decide_eq_true_eq]
    have h1 := HL.out; have h2 := HT.out
    rw [List.take_of_length_le (by omega), List.take_of_length_le (by omega)] at h2
    exact h2
 ·have hl' : ((a.length : Int) != (b.length : Int)) = true := by simp; omega
  have HL := hid hl; clear hl
  go_enter Tryz.func9, Tryz.ntmps9
  go_wp2
  go_ret
  refine ⟨ret_bool ?_, Keeps.refl _⟩
  symm; rw [decide_eq_false_iff_not]
  rintro rfl; exact HL.out rfl
set_option maxRecDepth 20000 in
theorem forcingCode_ok (n : Int) (a vs : List Int) (hval : isVal n a vs = true) (t : Fm) (hf : isFm t.enc = true) (hpl : t.plain = true) (v u x : Value) (w : World) (hv : Ints w v a) (hu : Ints w u vs) (hx : Nds w x t.enc) :
  Calls Tryz.prog 44 #[.agg #[.int .i64 n, v], u, x] w fun e w' => e = .returned (.int .i64 0) ∧ Keeps w w' := by
 have kA := (Keeps.refl w).alloc (.cells #[.int .i64 n, v] 31)
 have HV := hid (isValuation_any n a vs v u _ (hv.keeps kA) (hu.keeps kA))
 rw [hval] at HV
 have HF := hid (fun wz (kz : Keeps w wz) => isFormula_any t.enc x wz (hx.keeps kz))
 rw [hf] at HF
 have HP := hid (fun wz (kz : Keeps w wz) => isPlain_any t.enc x wz (hx.keeps kz))
 rw [plainL_encP, hpl] at HP
 obtain ⟨p1, c1, rfl, _⟩ := hv
 obtain ⟨p2, c2, rfl, _⟩ := hu
 obtain ⟨p3, n3, c3, rfl⟩ := hx.shape
 clear hval hf hpl hx
 go_enter Tryz.func44, Tryz.ntmps44
 go_wp2_with fail
 refine HV.out.mono ?_; rintro e w2 ⟨rfl, k2⟩
 have K2 := kA.trans k2
 go_wp2_with fail
 refine (HF.out _ K2).mono ?_; rintro e w3 ⟨rfl, k3⟩
 have K3 := K2.trans k3
 go_wp2_with fail
 refine (HP.out _ K3).mono ?_; rintro e w4 ⟨rfl, k4⟩
 go_wp2_with fail
 go_ret
 exact ⟨rfl, K3.trans k4⟩
set_option maxRecDepth 20000 in
set_option maxHeartbeats 1000000 in
theorem forcedSet_ok (b : List Nat) (vs : List Nat) (hval : isVal b.length (zs b) (zs vs) = true) (hb : b.length ≤ 8) (hbm : Bnd b.length b) (hvs : Bnd b.length vs) (h6 : vs.length = 6) (t : Fm) (hw : t.wf) (hf : isFm t.enc = true) (hpl : t.plain = true) (hN : t.enc.length ≤ 1000000) (v u x : Value) (w : World) (hv : Ints w v (zs b)) (hu : Ints w u (zs vs)) (hx : Nds w x t.enc) :
  Calls Tryz.prog 12 #[.agg #[.int .i64 b.length, v], u, x] w fun e w' => e = .returned (.tuple #[.int .i64 (frcP b vs t), .int .i64 0]) ∧ Keeps w w' := by
 have kA := (Keeps.refl w).alloc (.cells #[.int .i64 b.length, v] 31)
 obtain ⟨c0, c1⟩ := BoxF.made w b.length v 31
 have HC := hid (forcingCode_ok b.length (zs b) (zs vs) hval t hf hpl v u x _ (hv.keeps kA) (hu.keeps kA) (hx.keeps kA))
 have HR := hid (fun wz (kz : Keeps w wz) => forced_any b vs hb hbm hvs h6 t hw hpl hN v u x wz (hv.keeps kz) (hu.keeps kz) (hx.keeps kz))
 obtain ⟨p1, q1, rfl, _⟩ := hv
 obtain ⟨p2, q2, rfl, _⟩ := hu
 obtain ⟨p3, n3, q3, rfl⟩ := hx.shape
 rw [zs_length b] at *
 clear hval hf hpl hx hbm hvs hw hN
 generalize frcP b vs t = r at *
 generalize b.length = n at *
 go_enter Tryz.func12, Tryz.ntmps12
 go_wp2_with fail
 refine HC.out.mono ?_; rintro e w2 ⟨rfl, k2⟩
 replace c0 := k2.cell c0
 replace c1 := k2.cell c1
 have K2 := kA.trans k2
 go_wp2_with fail
 refine (HR.out _ K2).mono ?_; rintro e w3 ⟨rfl, k3⟩
 go_wp2_with fail
 go_ret2
 exact ⟨rfl, K2.trans k3⟩
end Go.Proofs.YtfmmajgkjkmghaaGreat
namespace Go.Proofs.YtfmmajgkjkmghaaGreat
open Go.RowKit
set_option maxHeartbeats 400000 in
theorem kolJ_and_any (x y : Fm) (va vb : Value) (w : World) (hva : Nds w va x.enc) (hvb : Nds w vb y.enc) (hl : x.enc.length + y.enc.length ≤ 100000000) :
  Calls Tryz.prog 71 #[.int .i64 2, va, vb] w (RetN w (Fm.and x y).not.not.enc) := by
 go_enter Tryz.func71, Tryz.ntmps71
 go_wp2_with (first
  | (go_at_call 35; refine (join_any _ _ _ _ _ _ hva hvb (by omega)).mono ?_; rintro e w1 ⟨v1, rfl, hv1, k1⟩)
  | (go_at_call 67; refine (doubleNegation_any (.and x y) v1 _ (hv1.nds (by simp; omega)) (by simp [Fm.enc]; omega)).mono ?_; rintro e w2 ⟨v2, rfl, hv2, k2⟩))
 go_ret
 exact ⟨_, rfl, hv2.mono k1.size, k1.trans k2⟩
set_option maxHeartbeats 400000 in
theorem kolJ_or_any (x y : Fm) (va vb : Value) (w : World) (hva : Nds w va x.enc) (hvb : Nds w vb y.enc) (hl : x.enc.length + y.enc.length ≤ 100000000) :
  Calls Tryz.prog 71 #[.int .i64 3, va, vb] w (RetN w (Fm.or x y).not.not.enc) := by
 go_enter Tryz.func71, Tryz.ntmps71
 go_wp2_with (first
  | (go_at_call 35; refine (join_any _ _ _ _ _ _ hva hvb (by omega)).mono ?_; rintro e w1 ⟨v1, rfl, hv1, k1⟩)
  | (go_at_call 67; refine (doubleNegation_any (.or x y) v1 _ (hv1.nds (by simp; omega)) (by simp [Fm.enc]; omega)).mono ?_; rintro e w2 ⟨v2, rfl, hv2, k2⟩))
 go_ret
 exact ⟨_, rfl, hv2.mono k1.size, k1.trans k2⟩
set_option maxHeartbeats 400000 in
theorem kolJ_imp_any (x y : Fm) (va vb : Value) (w : World) (hva : Nds w va x.enc) (hvb : Nds w vb y.enc) (hl : x.enc.length + y.enc.length ≤ 100000000) :
  Calls Tryz.prog 71 #[.int .i64 4, va, vb] w (RetN w (Fm.imp x y).not.not.enc) := by
 go_enter Tryz.func71, Tryz.ntmps71
 go_wp2_with (first
  | (go_at_call 35; refine (join_any _ _ _ _ _ _ hva hvb (by omega)).mono ?_; rintro e w1 ⟨v1, rfl, hv1, k1⟩)
  | (go_at_call 67; refine (doubleNegation_any (.imp x y) v1 _ (hv1.nds (by simp; omega)) (by simp [Fm.enc]; omega)).mono ?_; rintro e w2 ⟨v2, rfl, hv2, k2⟩))
 go_ret
 exact ⟨_, rfl, hv2.mono k1.size, k1.trans k2⟩
set_option maxRecDepth 20000 in
set_option maxHeartbeats 1000000 in
theorem ofKolmogorovOf_any (t : Fm) (hp : t.plain = true) : ∀ (v : Value) (w : World), Nds w v t.enc → t.enc.length ≤ 1048576 → Calls Tryz.prog 84 #[.agg #[.func (.func 67) #[] #[], .func (.func 71) #[] #[]], v] w (RetN w (kol t).enc) := by
 induction t with
 | var i =>
  intro v w hv hl
  have hv0 := hv
  obtain ⟨b, off, n, cap, rfl, h0, h1, h2, h3, hc, _⟩ := hv.head
  clear hv
  have kA := (Keeps.refl w).alloc (.cells #[.func (.func 67) #[] #[], .func (.func 71) #[] #[]] 58)
  have hcA := kA.cell hc
  go_enter Tryz.func84, Tryz.ntmps84
  go_wp2_with (go_at_call 67; refine (doubleNegation_any (.var i) _ _ (hv0.keeps kA) (by simp [Fm.enc])).mono ?_; rintro e w1 ⟨v1, rfl, hv1, k1⟩)
  go_ret
  exact ⟨_, rfl, hv1.mono kA.size, kA.trans k1⟩
 | fls =>
  intro v w hv hl
  obtain ⟨b, off, n, cap, rfl, h0, h1, h2, h3, hc, _⟩ := hv.head
  clear hv
  have kA := (Keeps.refl w).alloc (.cells #[.func (.func 67) #[] #[], .func (.func 71) #[] #[]] 58)
  have hcA := kA.cell hc
  go_enter Tryz.func84, Tryz.ntmps84
  go_wp2_with (go_at_call 141; refine (falsum_any _).mono ?_; rintro e w1 ⟨v1, rfl, hv1, k1⟩)
  go_ret
  exact ⟨_, rfl, hv1.mono kA.size, kA.trans k1⟩
 | box x ih => simp [Fm.plain] at hp
 | dia x ih => simp [Fm.plain] at hp
 | and x y ihx ihy =>
  simp [Fm.plain] at hp
  intro v w hv hl
  have hls : 1 + x.enc.length + y.enc.length ≤ 1048576 := by simp [Fm.enc] at hl; omega
  have HX := hid (ihx hp.1)
  have HY := hid (ihy hp.2)
  clear ihx ihy hl
  have bx := kol_len x
  have by' := kol_len y
  have hv0 := hv
  obtain ⟨b, off, n, cap, rfl, h0, h1, h2, h3, hc, _⟩ := hv.head
  clear hv
  have kA := (Keeps.refl w).alloc (.cells #[.func (.func 67) #[] #[], .func (.func 71) #[] #[]] 58)
  have hcA := kA.cell hc
  have f0 : (w.alloc (.cells #[.func (.func 67) #[] #[], .func (.func 71) #[] #[]] 58)).cell? ⟨w.heap.size, 0, none⟩ = some (.func (.func 67) #[] #[]) := by simp
  have f1 : (w.alloc (.cells #[.func (.func 67) #[] #[], .func (.func 71) #[] #[]] 58)).cell? ⟨w.heap.size, 1, none⟩ = some (.func (.func 71) #[] #[]) := by simp
  have HF0 := hid f0; clear f0
  have HF1 := hid f1; clear f1
  have HCA := hid hcA
  have kD := kA.drew
  go_enter Tryz.func84, Tryz.ntmps84
  go_wp2_with fail
  go_region_held3 (fun w' => w'.cell? ⟨b, off, none⟩ = some (.int .i64 2) ∧ w'.cell? ⟨w.heap.size, 0, none⟩ = some (.func (.func 67) #[] #[]) ∧ w'.cell? ⟨w.heap.size, 1, none⟩ = some (.func (.func 71) #[] #[])) (first | exact ⟨HCA.out, HF0.out, HF1.out⟩ | exact ⟨c2, d2, e2⟩ | exact ⟨c4, d4, e4⟩ | exact ⟨c5, d5, e5⟩) (first
   | (go_at_call 155; refine (first_any _ _ x y.enc _ _ (hv0.keeps kD) rfl).mono ?_; rintro e w' ⟨v1, rfl, hv1, rfl⟩)
   | (go_at_call 157; refine (second_any _ _ x y _ _ ((hv0.keeps kD).keeps k2) rfl).mono ?_; rintro e w' ⟨v3, rfl, hv3, rfl⟩)
   | (go_at_call 84; first
     | ((with_reducible refine (HX.out v1 _ hv1 (by omega)).mono ?_); rintro e w2 ⟨v2, rfl, hv2, k2⟩; have c2 := k2.cell (show (World.drew _).cell? _ = _ from HCA.out); have d2 := k2.cell (show (World.drew _).cell? _ = _ from HF0.out); have e2 := k2.cell (show (World.drew _).cell? _ = _ from HF1.out))
     | ((with_reducible refine (HY.out v3 _ hv3 (by omega)).mono ?_); rintro e w4 ⟨v4, rfl, hv4, k4⟩; have c4 := k4.cell c2; have d4 := k4.cell d2; have e4 := k4.cell e2))
   | (go_at_call 71; refine (kolJ_and_any _ _ _ _ _ ((hv2.nds (by omega)).keeps k4) (hv4.nds (by omega)) (by omega)).mono ?_; rintro e w5 ⟨v5, rfl, hv5, k5⟩; have c5 := k5.cell c4; have d5 := k5.cell d4; have e5 := k5.cell e4))
  go_wp2
  go_ret
  have kk := kD.trans (k2.trans k4)
  exact ⟨_, rfl, hv5.mono kk.size, kk.trans k5⟩
 | or x y ihx ihy =>
  simp [Fm.plain] at hp
  intro v w hv hl
  have hls : 1 + x.enc.length + y.enc.length ≤ 1048576 := by simp [Fm.enc] at hl; omega
  have HX := hid (ihx hp.1)
  have HY := hid (ihy hp.2)
  clear ihx ihy hl
  have bx := kol_len x
  have by' := kol_len y
  have hv0 := hv
  obtain ⟨b, off, n, cap, rfl, h0, h1, h2, h3, hc, _⟩ := hv.head
  clear hv
  have kA := (Keeps.refl w).alloc (.cells #[.func (.func 67) #[] #[], .func (.func 71) #[] #[]] 58)
  have hcA := kA.cell hc
  have f0 : (w.alloc (.cells #[.func (.func 67) #[] #[], .func (.func 71) #[] #[]] 58)).cell? ⟨w.heap.size, 0, none⟩ = some (.func (.func 67) #[] #[]) := by simp
  have f1 : (w.alloc (.cells #[.func (.func 67) #[] #[], .func (.func 71) #[] #[]] 58)).cell? ⟨w.heap.size, 1, none⟩ = some (.func (.func 71) #[] #[]) := by simp
  have HF0 := hid f0; clear f0
  have HF1 := hid f1; clear f1
  have HCA := hid hcA
  have kD := kA.drew
  go_enter Tryz.func84, Tryz.ntmps84
  go_wp2_with fail
  go_region_held3 (fun w' => w'.cell? ⟨b, off, none⟩ = some (.int .i64 3) ∧ w'.cell? ⟨w.heap.size, 0, none⟩ = some (.func (.func 67) #[] #[]) ∧ w'.cell? ⟨w.heap.size, 1, none⟩ = some (.func (.func 71) #[] #[])) (first | exact ⟨HCA.out, HF0.out, HF1.out⟩ | exact ⟨c2, d2, e2⟩ | exact ⟨c4, d4, e4⟩ | exact ⟨c5, d5, e5⟩) (first
   | (go_at_call 155; refine (first_any _ _ x y.enc _ _ (hv0.keeps kD) rfl).mono ?_; rintro e w' ⟨v1, rfl, hv1, rfl⟩)
   | (go_at_call 157; refine (second_any _ _ x y _ _ ((hv0.keeps kD).keeps k2) rfl).mono ?_; rintro e w' ⟨v3, rfl, hv3, rfl⟩)
   | (go_at_call 84; first
     | ((with_reducible refine (HX.out v1 _ hv1 (by omega)).mono ?_); rintro e w2 ⟨v2, rfl, hv2, k2⟩; have c2 := k2.cell (show (World.drew _).cell? _ = _ from HCA.out); have d2 := k2.cell (show (World.drew _).cell? _ = _ from HF0.out); have e2 := k2.cell (show (World.drew _).cell? _ = _ from HF1.out))
     | ((with_reducible refine (HY.out v3 _ hv3 (by omega)).mono ?_); rintro e w4 ⟨v4, rfl, hv4, k4⟩; have c4 := k4.cell c2; have d4 := k4.cell d2; have e4 := k4.cell e2))
   | (go_at_call 71; refine (kolJ_or_any _ _ _ _ _ ((hv2.nds (by omega)).keeps k4) (hv4.nds (by omega)) (by omega)).mono ?_; rintro e w5 ⟨v5, rfl, hv5, k5⟩; have c5 := k5.cell c4; have d5 := k5.cell d4; have e5 := k5.cell e4))
  go_wp2
  go_ret
  have kk := kD.trans (k2.trans k4)
  exact ⟨_, rfl, hv5.mono kk.size, kk.trans k5⟩
 | imp x y ihx ihy =>
  simp [Fm.plain] at hp
  intro v w hv hl
  have hls : 1 + x.enc.length + y.enc.length ≤ 1048576 := by simp [Fm.enc] at hl; omega
  have HX := hid (ihx hp.1)
  have HY := hid (ihy hp.2)
  clear ihx ihy hl
  have bx := kol_len x
  have by' := kol_len y
  have hv0 := hv
  obtain ⟨b, off, n, cap, rfl, h0, h1, h2, h3, hc, _⟩ := hv.head
  clear hv
  have kA := (Keeps.refl w).alloc (.cells #[.func (.func 67) #[] #[], .func (.func 71) #[] #[]] 58)
  have hcA := kA.cell hc
  have f0 : (w.alloc (.cells #[.func (.func 67) #[] #[], .func (.func 71) #[] #[]] 58)).cell? ⟨w.heap.size, 0, none⟩ = some (.func (.func 67) #[] #[]) := by simp
  have f1 : (w.alloc (.cells #[.func (.func 67) #[] #[], .func (.func 71) #[] #[]] 58)).cell? ⟨w.heap.size, 1, none⟩ = some (.func (.func 71) #[] #[]) := by simp
  have HF0 := hid f0; clear f0
  have HF1 := hid f1; clear f1
  have HCA := hid hcA
  have kD := kA.drew
  go_enter Tryz.func84, Tryz.ntmps84
  go_wp2_with fail
  go_region_held3 (fun w' => w'.cell? ⟨b, off, none⟩ = some (.int .i64 4) ∧ w'.cell? ⟨w.heap.size, 0, none⟩ = some (.func (.func 67) #[] #[]) ∧ w'.cell? ⟨w.heap.size, 1, none⟩ = some (.func (.func 71) #[] #[])) (first | exact ⟨HCA.out, HF0.out, HF1.out⟩ | exact ⟨c2, d2, e2⟩ | exact ⟨c4, d4, e4⟩ | exact ⟨c5, d5, e5⟩) (first
   | (go_at_call 155; refine (first_any _ _ x y.enc _ _ (hv0.keeps kD) rfl).mono ?_; rintro e w' ⟨v1, rfl, hv1, rfl⟩)
   | (go_at_call 157; refine (second_any _ _ x y _ _ ((hv0.keeps kD).keeps k2) rfl).mono ?_; rintro e w' ⟨v3, rfl, hv3, rfl⟩)
   | (go_at_call 84; first
     | ((with_reducible refine (HX.out v1 _ hv1 (by omega)).mono ?_); rintro e w2 ⟨v2, rfl, hv2, k2⟩; have c2 := k2.cell (show (World.drew _).cell? _ = _ from HCA.out); have d2 := k2.cell (show (World.drew _).cell? _ = _ from HF0.out); have e2 := k2.cell (show (World.drew _).cell? _ = _ from HF1.out))
     | ((with_reducible refine (HY.out v3 _ hv3 (by omega)).mono ?_); rintro e w4 ⟨v4, rfl, hv4, k4⟩; have c4 := k4.cell c2; have d4 := k4.cell d2; have e4 := k4.cell e2))
   | (go_at_call 71; refine (kolJ_imp_any _ _ _ _ _ ((hv2.nds (by omega)).keeps k4) (hv4.nds (by omega)) (by omega)).mono ?_; rintro e w5 ⟨v5, rfl, hv5, k5⟩; have c5 := k5.cell c4; have d5 := k5.cell d4; have e5 := k5.cell e4))
  go_wp2
  go_ret
  have kk := kD.trans (k2.trans k4)
  exact ⟨_, rfl, hv5.mono kk.size, kk.trans k5⟩
end Go.Proofs.YtfmmajgkjkmghaaGreat
namespace Go.Proofs.YtfmmajgkjkmghaaGreat
open Go.RowKit
set_option maxRecDepth 20000 in
set_option maxHeartbeats 400000 in
theorem transKolmogorovOf_ok (t : Fm) (hp : t.plain = true) (hl : t.enc.length ≤ 1048576) (h : plainErr t.enc = 0) (v : Value) (w : World) (hv : Nds w v t.enc) :
  Calls Tryz.prog 36 #[.agg #[.func (.func 67) #[] #[], .func (.func 71) #[] #[]], v] w fun e w' => ∃ u, e = .returned (.tuple #[u, .int .i64 (madeL (kol t).enc).2]) ∧ OwnN w' w.heap.size u (madeL (kol t).enc).1 ∧ Keeps w w' := by
 obtain ⟨p, n, cap, rfl⟩ := hv.shape
 have kA := (Keeps.refl w).alloc (.cells #[.func (.func 67) #[] #[], .func (.func 71) #[] #[]] 58)
 have hsz : (w.alloc (.cells #[.func (.func 67) #[] #[], .func (.func 71) #[] #[]] 58)).heap.size = w.heap.size + 1 := by simp
 have hne := plainCode_any [t.enc] _ _ (NdsL.lit1 (hv.keeps kA))
 rw [plainErrs_one, h, hsz] at hne
 have HN := hid hne; clear hne h hsz
 have k1 := kA.alloc (.cells #[.slice p n cap] 24)
 have bx := kol_len t
 go_enter Tryz.func36, Tryz.ntmps36
 go_wp2_with fail
 refine HN.out.mono ?_; rintro e w2 ⟨rfl, k2⟩
 have k2' := k1.trans k2
 have kB : Keeps (w.alloc (.cells #[.func (.func 67) #[] #[], .func (.func 71) #[] #[]] 58)) ((w.alloc (.cells #[.func (.func 67) #[] #[], .func (.func 71) #[] #[]] 58)).alloc (.cells #[.slice p n cap] 24)) := (Keeps.refl _).alloc _
 have f0 : w2.cell? ⟨w.heap.size, 0, none⟩ = some (.func (.func 67) #[] #[]) := k2.cell ((kB).cell (by simp))
 have f1 : w2.cell? ⟨w.heap.size, 1, none⟩ = some (.func (.func 71) #[] #[]) := k2.cell ((kB).cell (by simp))
 clear kB
 go_wp2_with fail
 refine (ofKolmogorovOf_any t hp _ _ (hv.keeps k2') hl).mono ?_; rintro e w3 ⟨v3, rfl, hv3, k3⟩
 go_wp2_with fail
 refine (limited_own (kol t).enc _ _ _ hv3 (by omega)).mono ?_; rintro e w' ⟨u, rfl, hu, rfl⟩
 go_wp2_with fail
 go_ret2
 exact ⟨_, rfl, hu.mono k2'.size, k2'.trans k3⟩
set_option maxRecDepth 20000 in
set_option maxHeartbeats 400000 in
theorem transKolmogorovOf_err (a : List Nd) (h : plainErr a ≠ 0) (v : Value) (w : World) (hv : Nds w v a) :
  Calls Tryz.prog 36 #[.agg #[.func (.func 67) #[] #[], .func (.func 71) #[] #[]], v] w fun e w' => ∃ u, e = .returned (.tuple #[u, .int .i64 (plainErr a)]) ∧ OwnN w' w.heap.size u [] ∧ Keeps w w' := by
 obtain ⟨p, n, cap, rfl⟩ := hv.shape
 have kA := (Keeps.refl w).alloc (.cells #[.func (.func 67) #[] #[], .func (.func 71) #[] #[]] 58)
 have hsz : (w.alloc (.cells #[.func (.func 67) #[] #[], .func (.func 71) #[] #[]] 58)).heap.size = w.heap.size + 1 := by simp
 have hne := plainCode_any [a] _ _ (NdsL.lit1 (hv.keeps kA))
 rw [plainErrs_one, hsz] at hne
 have h' : (plainErr a != 0) = true := by simp [h]
 have H := hid h; clear h
 have HN := hid hne; clear hne hsz
 have k1 := kA.alloc (.cells #[.slice p n cap] 24)
 go_enter Tryz.func36, Tryz.ntmps36
 go_wp2_with (go_at_call 72; refine HN.out.mono ?_; rintro e w2 ⟨rfl, k2⟩)
 go_ret2
 exact ⟨_, rfl, OwnN.nil _ _, k1.trans k2⟩
end Go.Proofs.YtfmmajgkjkmghaaGreat
