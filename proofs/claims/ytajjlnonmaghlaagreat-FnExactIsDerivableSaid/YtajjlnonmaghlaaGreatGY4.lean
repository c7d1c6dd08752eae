/- GlivenkoTheorem and IsClassicalKind: both sides answer alike. -/
import Derived.Test.YtajjlnonmaghlaaGreatGY3
import Derived.Test.YtajjlnonmaghlaaGreatGU4
import Derived.Test.YtajjlnonmaghlaaGreatGT1
namespace Go.Proofs.YtajjlnonmaghlaaGreat
open Go.RowKit
/-- both sides answer b and c -/
def BothOne (S I : FuncId) (a : List Nd) (b : Bool) (c : Int) : Prop :=
  (∀ (v : Value) (w : World), Nds w v a → Calls Tryz.prog S #[v] w (fun e w' => e = .returned (.tuple #[.bool b, .int .i64 c]) ∧ Keeps w w')) ∧
  (∀ (v : Value) (w : World), Nds w v a → Calls Tryz.prog I #[v] w (fun e w' => e = .returned (.tuple #[.bool b, .int .i64 c]) ∧ Keeps w w'))
theorem pow20 {n : Nat} (h : n ≤ 20) : 2 ^ n ≤ 1048576 := Nat.le_trans (Nat.pow_le_pow_right (by omega) h) (by decide)
theorem OkF.not {t : Fm} (h : OkF t) : OkF t.not := OkF.mkImp h okF_fls
--
set_option maxRecDepth 20000 in
set_option maxHeartbeats 1000000 in
theorem bothGlivenko (a : List Nd) : ∃ b c, BothOne 10 12 a b c := by
  by_cases h : plainErr a = 0
  · obtain ⟨t, hw, rfl, hp, hl⟩ := plain_tree h
    refine ⟨smallB (t.enc.length + 4) [] t.not.not, smallE (t.enc.length + 4), fun v w hv => specGlivenko_ok t hp h (by omega) v w hv, fun v w hv => ?_⟩
    have hok : OkF t := ⟨hw, hp⟩
    obtain ⟨p, n, cap, rfl⟩ := hv.shape
    have hne := plainCode_any [t.enc] _ _ (NdsL.lit1 hv)
    rw [plainErrs_one, h] at hne
    have HN := hid hne; clear hne h
    have k1 := (Keeps.refl w).alloc (.cells #[.slice p n cap] 26)
    have hlen := hid (show t.not.not.enc.length = t.enc.length + 4 by rw [not_len, not_len])
    by_cases hs : 20 < t.enc.length + 4
    · rw [show smallB (t.enc.length + 4) [] t.not.not = false from by simp [smallB]; omega, show smallE (t.enc.length + 4) = 3 from by simp [smallE]; omega]
      have HD := hid (fun w2 (k : Keeps w w2) => doubleNegation_any t _ w2 (hv.keeps k) (by omega))
      go_enter Tryz.func12, Tryz.ntmps12
      go_wp2_with fail
      refine HN.out.mono ?_; rintro e w2 ⟨rfl, k2⟩
      go_wp2_with fail
      refine (HD.out w2 (k1.trans k2)).mono ?_; rintro e w3 ⟨v3, rfl, hv3, k3⟩
      have hn3 : Nds w3 v3 t.not.not.enc := hv3.nds (by rw [show (Fm.not (Fm.not t)).enc.length = _ from hlen.out]; omega)
      obtain ⟨p3, n3, c3, rfl⟩ := hn3.shape
      have hnn := hn3.lenIs
      have hbig : (20 : Int) < n3 := by rw [hnn, hlen.out]; omega
      clear hnn
      go_wp2_with fail
      go_ret2
      exact ⟨rfl, (k1.trans k2).trans k3⟩
    · rw [show smallB (t.enc.length + 4) [] t.not.not = sqB [] t.not.not from by simp [smallB]; omega, show smallE (t.enc.length + 4) = 0 from by simp [smallE]; omega]
      have hwt : wts [] + wt t.not.not ≤ 50000000 := by
        have h1 := wt_le_pow t.not.not
        have h2 := pow20 (n := t.not.not.enc.length) (by rw [hlen.out]; omega)
        simp only [wts]; omega
      have HD := hid (fun w2 (k : Keeps w w2) => doubleNegation_any t _ w2 (hv.keeps k) (by omega))
      have HT := hid (fun v w2 (hv : Nds w2 v t.not.not.enc) => text_any t.not.not hok.not.not.1 (by rw [hlen.out]; omega) v w2 hv)
      have HP := hid (fun s (hs : bts s = t.not.not.body) w2 => provable_any [] t.not.not okL_nil hok.not.not hwt s (.slice none 0 0) w2 (Left.nil w2) hs)
      clear hwt
      go_enter Tryz.func12, Tryz.ntmps12
      go_wp2_with fail
      refine HN.out.mono ?_; rintro e w2 ⟨rfl, k2⟩
      go_wp2_with fail
      refine (HD.out w2 (k1.trans k2)).mono ?_; rintro e w3 ⟨v3, rfl, hv3, k3⟩
      have hn3 : Nds w3 v3 t.not.not.enc := hv3.nds (by rw [show (Fm.not (Fm.not t)).enc.length = _ from hlen.out]; omega)
      obtain ⟨p3, n3, c3, rfl⟩ := hn3.shape
      have hnn := hn3.lenIs
      have hbig : ¬ (20 : Int) < n3 := by rw [hnn, hlen.out]; omega
      have HN3 := hid hn3
      clear hnn hn3
      go_wp2_with fail
      refine (HT.out _ w3 HN3.out).mono ?_; rintro e w4 ⟨s, rfl, hs4, k4⟩
      go_wp2_with fail
      refine (HP.out s hs4 w4).mono ?_; rintro e w5 ⟨rfl, k5⟩
      go_wp2_with fail
      go_ret2
      exact ⟨rfl, (((k1.trans k2).trans k3).trans k4).trans k5⟩
  · have h' : (plainErr a != 0) = true := by simp [h]
    have H := hid h; clear h
    refine ⟨false, plainErr a, fun v w hv => ?_, fun v w hv => ?_⟩
    · go_enter Tryz.func10, Tryz.ntmps10
      go_wp2_with (go_at_call 30; refine (l29Code_any _ _ _ hv).mono ?_; rintro e w' ⟨rfl, rfl⟩)
      go_ret2
      exact ⟨rfl, Keeps.refl _⟩
    · obtain ⟨p, n, cap, rfl⟩ := hv.shape
      have hne := plainCode_any [a] _ _ (NdsL.lit1 hv)
      rw [plainErrs_one] at hne
      have HN := hid hne; clear hne
      have k1 := (Keeps.refl w).alloc (.cells #[.slice p n cap] 26)
      go_enter Tryz.func12, Tryz.ntmps12
      go_wp2_with (go_at_call 34; refine HN.out.mono ?_; rintro e w2 ⟨rfl, k2⟩)
      go_ret2
      exact ⟨rfl, k1.trans k2⟩
--
theorem sq_notnot (t : Fm) : Sq [t] t.not.not := by
  intro M w hw u hu h
  exact h u (M.refl u) (M.up t _ _ hu (hw t (by simp)))
set_option maxRecDepth 20000 in
set_option maxHeartbeats 1000000 in
theorem bothClassicalKind (a : List Nd) : ∃ b c, BothOne 14 15 a b c := by
  by_cases h : plainErr a = 0
  · obtain ⟨t, hw, rfl, hp, hl⟩ := plain_tree h
    refine ⟨smallB (2 * t.enc.length + 4) [t.not.not] t, smallE (2 * t.enc.length + 4), fun v w hv => specClassicalKind_ok t hp h (by omega) v w hv, fun v w hv => ?_⟩
    have hok : OkF t := ⟨hw, hp⟩
    obtain ⟨p, n, cap, rfl⟩ := hv.shape
    have hne := plainCode_any [t.enc] _ _ (NdsL.lit1 hv)
    rw [plainErrs_one, h] at hne
    have HN := hid hne; clear hne h
    have k1 := (Keeps.refl w).alloc (.cells #[.slice p n cap] 26)
    have hlen := hid (show t.not.not.enc.length = t.enc.length + 4 by rw [not_len, not_len])
    have hnl := hid hv.lenIs
    by_cases hs : 20 < 2 * t.enc.length + 4
    · rw [show smallB (2 * t.enc.length + 4) [t.not.not] t = false from by simp [smallB]; omega, show smallE (2 * t.enc.length + 4) = 3 from by simp [smallE]; omega]
      have HD := hid (fun w2 (k : Keeps w w2) => doubleNegation_any t _ w2 (hv.keeps k) (by omega))
      go_enter Tryz.func15, Tryz.ntmps15
      go_wp2_with fail
      refine HN.out.mono ?_; rintro e w2 ⟨rfl, k2⟩
      go_wp2_with fail
      refine (HD.out w2 (k1.trans k2)).mono ?_; rintro e w3 ⟨v3, rfl, hv3, k3⟩
      have hn3 : Nds w3 v3 t.not.not.enc := hv3.nds (by rw [show (Fm.not (Fm.not t)).enc.length = _ from hlen.out]; omega)
      obtain ⟨p3, n3, c3, rfl⟩ := hn3.shape
      have hnn := hn3.lenIs
      have hbig : (20 : Int) < (n : Int) + n3 := by have := hnl.out; rw [hnn, hlen.out]; omega
      have hb1 : n ≤ 1000 := by have := hnl.out; omega
      have hb2 : n3 ≤ 1000 := by rw [hnn, hlen.out]; omega
      clear hnn
      go_wp2_with fail
      go_ret2
      exact ⟨rfl, (k1.trans k2).trans k3⟩
    · rw [show smallB (2 * t.enc.length + 4) [t.not.not] t = sqB [t.not.not] t from by simp [smallB]; omega, show smallE (2 * t.enc.length + 4) = 0 from by simp [smallE]; omega]
      have hwt : wt t + wt t.not.not ≤ 50000000 := by
        have h1 := wt_le_pow t.not.not
        have h2 := pow20 (n := t.not.not.enc.length) (by rw [hlen.out]; omega)
        have h3 := wt_le_pow t
        have h4 := pow20 (n := t.enc.length) (by omega)
        omega
      have HD := hid (fun w2 (k : Keeps w w2) => doubleNegation_any t _ w2 (hv.keeps k) (by omega))
      have HE := hid (fun v3 w2 (k : Keeps w w2) (h3 : Nds w2 v3 t.not.not.enc) => equivalent_any t t.not.not hok hok.not.not hwt _ v3 w2 (hv.keeps k) h3)
      rw [sqB_true (sq_notnot t), Bool.true_and] at HE
      clear hwt
      go_enter Tryz.func15, Tryz.ntmps15
      go_wp2_with fail
      refine HN.out.mono ?_; rintro e w2 ⟨rfl, k2⟩
      go_wp2_with fail
      refine (HD.out w2 (k1.trans k2)).mono ?_; rintro e w3 ⟨v3, rfl, hv3, k3⟩
      have hn3 : Nds w3 v3 t.not.not.enc := hv3.nds (by rw [show (Fm.not (Fm.not t)).enc.length = _ from hlen.out]; omega)
      obtain ⟨p3, n3, c3, rfl⟩ := hn3.shape
      have hnn := hn3.lenIs
      have hbig : ¬ (20 : Int) < (n : Int) + n3 := by have := hnl.out; rw [hnn, hlen.out]; omega
      have hb1 : n ≤ 1000 := by have := hnl.out; omega
      have hb2 : n3 ≤ 1000 := by rw [hnn, hlen.out]; omega
      have HN3 := hid hn3
      clear hnn hn3
      go_wp2_with fail
      refine (HE.out _ w3 ((k1.trans k2).trans k3) HN3.out).mono ?_; rintro e w4 ⟨rfl, k4⟩
      go_wp2_with fail
      go_ret2
      exact ⟨rfl, ((k1.trans k2).trans k3).trans k4⟩
  · have h' : (plainErr a != 0) = true := by simp [h]
    have H := hid h; clear h
    refine ⟨false, plainErr a, fun v w hv => ?_, fun v w hv => ?_⟩
    · go_enter Tryz.func14, Tryz.ntmps14
      go_wp2_with (go_at_call 30; refine (l29Code_any _ _ _ hv).mono ?_; rintro e w' ⟨rfl, rfl⟩)
      go_ret2
      exact ⟨rfl, Keeps.refl _⟩
    · obtain ⟨p, n, cap, rfl⟩ := hv.shape
      have hne := plainCode_any [a] _ _ (NdsL.lit1 hv)
      rw [plainErrs_one] at hne
      have HN := hid hne; clear hne
      have k1 := (Keeps.refl w).alloc (.cells #[.slice p n cap] 26)
      go_enter Tryz.func15, Tryz.ntmps15
      go_wp2_with (go_at_call 34; refine HN.out.mono ?_; rintro e w2 ⟨rfl, k2⟩)
      go_ret2
      exact ⟨rfl, k1.trans k2⟩
end Go.Proofs.YtajjlnonmaghlaaGreat
