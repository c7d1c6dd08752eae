import Derived.Test.YtfmmajgkjkmghaaGreatHD4
import Derived.Test.YtfmmajgkjkmghaaGreatHHD
import Derived.Test.YtfmmajgkjkmghaaGreatHQG
import Derived.Test.YtfmmajgkjkmghaaGreatHW7
import Derived.Test.YtfmmajgkjkmghaaGreatHK1
/- The laws' dice; codes that are too long. -/
namespace Go.Proofs.YtfmmajgkjkmghaaGreat
open Go.RowKit
theorem big_any (v : Value) (n : Nat) (w : World) (hv : Bts w v n) : Calls Tryz.prog 5 #[v] w fun e w' => e = .returned (.bool (decide (4096 < n))) ∧ w = w' := by
 obtain ⟨p, c, rfl, hc, hm, _⟩ := hv
 unfold maxLen at hm
 go_enter Tryz.func5, Tryz.ntmps5
 go_wp2
 go_ret
 exact ⟨ret_bool (by rw [Bool.eq_iff_iff]; simp; omega), rfl⟩
theorem Bts.keeps {w w' : World} {v : Value} {n : Nat} (h : Bts w v n) (k : Keeps w w') : Bts w' v n := (BtsB.low h k).up k.size
end Go.Proofs.YtfmmajgkjkmghaaGreat
namespace Go.Proofs.YtfmmajgkjkmghaaGreat
open Go.RowKit
end Go.Proofs.YtfmmajgkjkmghaaGreat
namespace Go.Proofs.YtfmmajgkjkmghaaGreat
open Go.RowKit
set_option maxRecDepth 20000 in
set_option maxHeartbeats 1000000 in
theorem sameNodes9_any (a b : List Nd) (va vb : Value) (w : World) (hva : Nds w va a) (hvb : Nds w vb b) :
  Calls Tryz.prog 9 #[va, vb] w fun e w' => e = .returned (.bool (decide (a = b))) ∧ Keeps w w' := by
 have hva0 := hva
 have hvb0 := hvb
 obtain ⟨pa, ca, rfl, hlea, hmxa, _, hlena⟩ := hva
 obtain ⟨pb, cb, rfl, hleb, hmxb, _, hlenb⟩ := hvb
 unfold maxLen at hmxa hmxb
 by_cases hl : a.length = b.length
 ·have hl' : ((a.length : Int) != (b.length : Int)) = false := by simp [hl]
  have HL := hid hl; clear hl
  go_enter Tryz.func9, Tryz.ntmps9
  go_wp2
  go_loopw [4, 5] (fun r i' wr => ∃ k : Nat, k ≤ a.length ∧ a.take k = b.take k ∧ Keeps w wr ∧ i' = .int .i64 k ∧ r = .bool false) (fun _ i _ => a.length - (intOf i).toNat)
  case atStart => exact ⟨0, by omega, rfl, Keeps.refl w, rfl, rfl⟩
  case round =>
   obtain ⟨k, hk, htk, kw, rfl, rfl⟩ := hrel
   have HT := hid htk; clear htk
   clear hl'
   by_cases hlt : k < a.length
   ·have hltb : k < b.length := by have := HL.out; omega
    obtain ⟨_, _, e1, _, _, hata, _⟩ := hva0.keeps kw.drew
    obtain ⟨_, _, e2, _, _, hatb, _⟩ := hvb0.keeps kw.drew
    cases e1; cases e2
    obtain ⟨b1, o1, rfl, h1, h2⟩ := hata.nd k hlt
    obtain ⟨b2, o2, rfl, h3, h4⟩ := hatb.nd k hltb
    clear hata hatb hva0 hvb0
    have hlt' : (k : Int) < a.length := by omega
    have hltb' : (k : Int) < b.length := by omega
    by_cases he : a[k] = b[k]
    ·have hk2 : a[k].k = b[k].k := by rw [he]
     have hs2 : a[k].s = b[k].s := by rw [he]
     rw [hk2] at h1
     rw [hs2] at h2
     have HE := hid he; clear he hk2 hs2
     go_wp2_with fail
     go_region
     go_wp2
     go_roundw
     case rel => exact ⟨k + 1, by omega, by rw [List.take_succ_eq_append_getElem hlt, List.take_succ_eq_append_getElem hltb, HT.out, HE.out], kw.drew, by go_num, rfl⟩
     case measure => simp [intOf]; omega
    ·have hne : decide (a = b) = false := by rw [decide_eq_false_iff_not]; rintro rfl; exact he rfl
     have HN := hid hne; clear hne
     have hks : ¬ (a[k].k = b[k].k ∧ a[k].s = b[k].s) := fun ⟨g1, g2⟩ => he (by cases hx : a[k]; cases hy : b[k]; simp [hx, hy] at g1 g2; simp [g1, g2])
     clear he
     generalize a[k].k = x1 at *
     generalize a[k].s = x2 at *
     generalize b[k].k = y1 at *
     generalize b[k].s = y2 at *
     by_cases hx : x1 = y1
     ·have hx2 : ¬ x2 = y2 := fun e => hks ⟨hx, e⟩
      subst hx
      clear hks
      go_wp2_with fail
      go_region
      go_wp2
      go_ret
      exact ⟨ret_bool HN.out.symm, kw.drew⟩
     ·clear hks
      go_wp2_with fail
      go_region
      go_wp2
      go_ret
      exact ⟨ret_bool HN.out.symm, kw.drew⟩
   ·go_wp2
    go_ret
    refine ⟨ret_bool ?_, kw⟩
    symm; rw [decide_eq_true_eq]
    have h1 := HL.out; have h2 := HT.out
    rw [List.take_of_length_le (by omega), List.take_of_length_le (by omega)] at h2
    exact h2
 ·have hl' : ((a.length : Int) != (b.length : Int)) = true := by simp; omega
  have HL := hid hl; clear hl
  go_enter Tryz.func9, Tryz.ntmps9
  go_wp2
  go_ret
  refine ⟨ret_bool ?_, Keeps.refl _⟩
  symm; rw [decide_eq_false_iff_not]
  rintro rfl; exact HL.out rfl
theorem bit9_any (m i : Nat) (w : World) (hm : m < 256) (hi : i ≤ 8) : Calls Tryz.prog 17 #[.int .i64 m, .int .i64 i] w fun e w' => e = .returned (.bool (m.testBit i)) ∧ w = w' := by
 have _ := hm
 have h0 : (0 : Int) ≤ (i : Int) := by omega
 have h62 : (i : Int) < 62 := by omega
 go_enter Tryz.func17, Tryz.ntmps17
 go_wp2
 go_ret
 exact ⟨ret_bool (bitN m i (by omega)), rfl⟩
set_option maxRecDepth 20000 in
theorem forcingCode_ok (n : Int) (a vs : List Int) (hval : isVal n a vs = true) (t : Fm) (hf : isFm t.enc = true) (hpl : t.plain = true) (v u x : Value) (w : World) (hv : Ints w v a) (hu : Ints w u vs) (hx : Nds w x t.enc) :
  Calls Tryz.prog 44 #[.agg #[.int .i64 n, v], u, x] w fun e w' => e = .returned (.int .i64 0) ∧ Keeps w w' := by
 have kA := (Keeps.refl w).alloc (.cells #[.int .i64 n, v] 31)
 have HV := hid (isValuation_any n a vs v u _ (hv.keeps kA) (hu.keeps kA))
 rw [hval] at HV
 have HF := hid (fun wz (kz : Keeps w wz) => isFormula_any t.enc x wz (hx.keeps kz))
 rw [hf] at HF
 have HP := hid (fun wz (kz : Keeps w wz) => isPlain_any t.enc x wz (hx.keeps kz))
 rw [plainL_encP, hpl] at HP
 obtain ⟨p1, c1, rfl, _⟩ := hv
 obtain ⟨p2, c2, rfl, _⟩ := hu
 obtain ⟨p3, n3, c3, rfl⟩ := hx.shape
 clear hval hf hpl hx
 go_enter Tryz.func44, Tryz.ntmps44
 go_wp2_with fail
 refine HV.out.mono ?_; rintro e w2 ⟨rfl, k2⟩
 have K2 := kA.trans k2
 go_wp2_with fail
 refine (HF.out _ K2).mono ?_; rintro e w3 ⟨rfl, k3⟩
 have K3 := K2.trans k3
 go_wp2_with fail
 refine (HP.out _ K3).mono ?_; rintro e w4 ⟨rfl, k4⟩
 go_wp2_with fail
 go_ret
 exact ⟨rfl, K3.trans k4⟩
set_option maxRecDepth 20000 in
set_option maxHeartbeats 1000000 in
theorem forcedSet_ok (b : List Nat) (vs : List Nat) (hval : isVal b.length (zs b) (zs vs) = true) (hb : b.length ≤ 8) (hbm : Bnd b.length b) (hvs : Bnd b.length vs) (h6 : vs.length = 6) (t : Fm) (hw : t.wf) (hf : isFm t.enc = true) (hpl : t.plain = true) (hN : t.enc.length ≤ 1000000) (v u x : Value) (w : World) (hv : Ints w v (zs b)) (hu : Ints w u (zs vs)) (hx : Nds w x t.enc) :
  Calls Tryz.prog 12 #[.agg #[.int .i64 b.length, v], u, x] w fun e w' => e = .returned (.tuple #[.int .i64 (frcP b vs t), .int .i64 0]) ∧ Keeps w w' := by
 have kA := (Keeps.refl w).alloc (.cells #[.int .i64 b.length, v] 31)
 obtain ⟨c0, c1⟩ := BoxF.made w b.length v 31
 have HC := hid (forcingCode_ok b.length (zs b) (zs vs) hval t hf hpl v u x _ (hv.keeps kA) (hu.keeps kA) (hx.keeps kA))
 have HR := hid (fun wz (kz : Keeps w wz) => forced_any b vs hb hbm hvs h6 t hw hpl hN v u x wz (hv.keeps kz) (hu.keeps kz) (hx.keeps kz))
 obtain ⟨p1, q1, rfl, _⟩ := hv
 obtain ⟨p2, q2, rfl, _⟩ := hu
 obtain ⟨p3, n3, q3, rfl⟩ := hx.shape
 rw [zs_length b] at *
 clear hval hf hpl hx hbm hvs hw hN
 generalize frcP b vs t = r at *
 generalize b.length = n at *
 go_enter Tryz.func12, Tryz.ntmps12
 go_wp2_with fail
 refine HC.out.mono ?_; rintro e w2 ⟨rfl, k2⟩
 replace c0 := k2.cell c0
 replace c1 := k2.cell c1
 have K2 := kA.trans k2
 go_wp2_with fail
 refine (HR.out _ K2).mono ?_; rintro e w3 ⟨rfl, k3⟩
 go_wp2_with fail
 go_ret2
 exact ⟨rfl, K2.trans k3⟩
set_option maxRecDepth 20000 in
set_option maxHeartbeats 1000000 in
theorem prefixBox_any (a : List Nd) (hf : isFm a = true) (ha : a.length ≤ 40) (v : Value) (w : World) (hv : Nds w v a) :
  Calls Tryz.prog 18 #[.int .i64 5, v] w fun e w' => ∃ u, e = .returned (.tuple #[u, .int .i64 (madeL (⟨5, 0⟩ :: a)).2]) ∧ OwnN w' w.heap.size u (madeL (⟨5, 0⟩ :: a)).1 ∧ Keeps w w' := by
 have HF := hid (fun wz (kz : Keeps w wz) => isFormula_any a v wz (hv.keeps kz))
 rw [hf] at HF
 have HP := hid (fun wz => partsOf_any 5 wz)
 rw [show partsOf 5 = 1 from rfl] at HP
 have HX := hid (fun wz (kz : Keeps w wz) => prefix_any 5 a v wz (hv.keeps kz) (by omega))
 have HL := hid (fun B u wz (hz : OwnN wz B u (⟨5, 0⟩ :: a)) => limited_own (⟨5, 0⟩ :: a) u wz B hz (by simp; omega))
 obtain ⟨p3, n3, q3, rfl⟩ := hv.shape
 clear hf hv ha
 go_enter Tryz.func18, Tryz.ntmps18
 go_wp2_with fail
 refine (HF.out _ (Keeps.refl w)).mono ?_; rintro e w2 ⟨rfl, k2⟩
 go_wp2_with fail
 refine (HP.out _).mono ?_; rintro e w' ⟨rfl, rfl⟩
 go_wp2_with fail
 refine (HX.out _ k2).mono ?_; rintro e w3 ⟨u3, rfl, hu3, k3⟩
 obtain ⟨p4, n4, q4, rfl⟩ := hu3.own_shape
 go_wp2_with fail
 refine (HL.out _ _ _ hu3).mono ?_; rintro e w' ⟨u4, rfl, hu4, rfl⟩
 go_wp2_with fail
 go_ret2
 exact ⟨_, rfl, hu4.mono k2.size, k2.trans k3⟩
end Go.Proofs.YtfmmajgkjkmghaaGreat
namespace Go.Proofs.YtfmmajgkjkmghaaGreat
open Go.RowKit
end Go.Proofs.YtfmmajgkjkmghaaGreat
namespace Go.Proofs.YtfmmajgkjkmghaaGreat
open Go.RowKit
end Go.Proofs.YtfmmajgkjkmghaaGreat
