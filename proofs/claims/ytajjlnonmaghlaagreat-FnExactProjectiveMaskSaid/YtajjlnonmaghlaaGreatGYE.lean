/- GlivenkoTheorem and IsClassicalKind: both sides answer alike. -/
import Derived.Test.YtajjlnonmaghlaaGreatGY3
import Derived.Test.YtajjlnonmaghlaaGreatGU4
import Derived.Test.YtajjlnonmaghlaaGreatGT1
import Derived.Test.YtajjlnonmaghlaaGreatGY7
import Derived.Test.YtajjlnonmaghlaaGreatGSG
import Derived.Test.YtajjlnonmaghlaaGreatGM4
import Derived.Test.YtajjlnonmaghlaaGreatGVJ0
import Derived.Test.YtajjlnonmaghlaaGreatGN1
import Derived.Test.YtajjlnonmaghlaaGreatGW7
import Derived.Deep.RegionHeld3
namespace Go.Proofs.YtajjlnonmaghlaaGreat
open Go.RowKit
/-- both sides answer b and c -/
def BothOne (S I : FuncId) (a : List Nd) (b : Bool) (c : Int) : Prop :=
  (∀ (v : Value) (w : World), Nds w v a → Calls Tryz.prog S #[v] w (fun e w' => e = .returned (.tuple #[.bool b, .int .i64 c]) ∧ Keeps w w')) ∧
  (∀ (v : Value) (w : World), Nds w v a → Calls Tryz.prog I #[v] w (fun e w' => e = .returned (.tuple #[.bool b, .int .i64 c]) ∧ Keeps w w'))
theorem pow20 {n : Nat} (h : n ≤ 20) : 2 ^ n ≤ 1048576 := Nat.le_trans (Nat.pow_le_pow_right (by omega) h) (by decide)
theorem OkF.not {t : Fm} (h : OkF t) : OkF t.not := OkF.mkImp h okF_fls
--
set_option maxRecDepth 20000 in
set_option maxHeartbeats 1000000 in
theorem bothGlivenko (a : List Nd) : ∃ b c, BothOne 10 12 a b c := by
  by_cases h : plainErr a = 0
  · obtain ⟨t, hw, rfl, hp, hl⟩ := plain_tree h
    refine ⟨smallB (t.enc.length + 4) [] t.not.not, smallE (t.enc.length + 4), fun v w hv => specGlivenko_ok t hp h (by omega) v w hv, fun v w hv => ?_⟩
    have hok : OkF t := ⟨hw, hp⟩
    obtain ⟨p, n, cap, rfl⟩ := hv.shape
    have hne := plainCode_any [t.enc] _ _ (NdsL.lit1 hv)
    rw [plainErrs_one, h] at hne
    have HN := hid hne; clear hne h
    have k1 := (Keeps.refl w).alloc (.cells #[.slice p n cap] 26)
    have hlen := hid (show t.not.not.enc.length = t.enc.length + 4 by rw [not_len, not_len])
    by_cases hs : 20 < t.enc.length + 4
    · rw [show smallB (t.enc.length + 4) [] t.not.not = false from by simp [smallB]; omega, show smallE (t.enc.length + 4) = 3 from by simp [smallE]; omega]
      have HD := hid (fun w2 (k : Keeps w w2) => doubleNegation_any t _ w2 (hv.keeps k) (by omega))
      go_enter Tryz.func12, Tryz.ntmps12
      go_wp2_with fail
      refine HN.out.mono ?_; rintro e w2 ⟨rfl, k2⟩
      go_wp2_with fail
      refine (HD.out w2 (k1.trans k2)).mono ?_; rintro e w3 ⟨v3, rfl, hv3, k3⟩
      have hn3 : Nds w3 v3 t.not.not.enc := hv3.nds (by rw [show (Fm.not (Fm.not t)).enc.length = _ from hlen.out]; omega)
      obtain ⟨p3, n3, c3, rfl⟩ := hn3.shape
      have hnn := hn3.lenIs
      have hbig : (20 : Int) < n3 := by rw [hnn, hlen.out]; omega
      clear hnn
      go_wp2_with fail
      go_ret2
      exact ⟨rfl, (k1.trans k2).trans k3⟩
    · rw [show smallB (t.enc.length + 4) [] t.not.not = sqB [] t.not.not from by simp [smallB]; omega, show smallE (t.enc.length + 4) = 0 from by simp [smallE]; omega]
      have hwt : wts [] + wt t.not.not ≤ 50000000 := by
        have h1 := wt_le_pow t.not.not
        have h2 := pow20 (n := t.not.not.enc.length) (by rw [hlen.out]; omega)
        simp only [wts]; omega
      have HD := hid (fun w2 (k : Keeps w w2) => doubleNegation_any t _ w2 (hv.keeps k) (by omega))
      have HT := hid (fun v w2 (hv : Nds w2 v t.not.not.enc) => text_any t.not.not hok.not.not.1 (by rw [hlen.out]; omega) v w2 hv)
      have HP := hid (fun s (hs : bts s = t.not.not.body) w2 => provable_any [] t.not.not okL_nil hok.not.not hwt s (.slice none 0 0) w2 (Left.nil w2) hs)
      clear hwt
      go_enter Tryz.func12, Tryz.ntmps12
      go_wp2_with fail
      refine HN.out.mono ?_; rintro e w2 ⟨rfl, k2⟩
      go_wp2_with fail
      refine (HD.out w2 (k1.trans k2)).mono ?_; rintro e w3 ⟨v3, rfl, hv3, k3⟩
      have hn3 : Nds w3 v3 t.not.not.enc := hv3.nds (by rw [show (Fm.not (Fm.not t)).enc.length = _ from hlen.out]; omega)
      obtain ⟨p3, n3, c3, rfl⟩ := hn3.shape
      have hnn := hn3.lenIs
      have hbig : ¬ (20 : Int) < n3 := by rw [hnn, hlen.out]; omega
      have HN3 := hid hn3
      clear hnn hn3
      go_wp2_with fail
      refine (HT.out _ w3 HN3.out).mono ?_; rintro e w4 ⟨s, rfl, hs4, k4⟩
      go_wp2_with fail
      refine (HP.out s hs4 w4).mono ?_; rintro e w5 ⟨rfl, k5⟩
      go_wp2_with fail
      go_ret2
      exact ⟨rfl, (((k1.trans k2).trans k3).trans k4).trans k5⟩
  · have h' : (plainErr a != 0) = true := by simp [h]
    have H := hid h; clear h
    refine ⟨false, plainErr a, fun v w hv => ?_, fun v w hv => ?_⟩
    · go_enter Tryz.func10, Tryz.ntmps10
      go_wp2_with (go_at_call 30; refine (l29Code_any _ _ _ hv).mono ?_; rintro e w' ⟨rfl, rfl⟩)
      go_ret2
      exact ⟨rfl, Keeps.refl _⟩
    · obtain ⟨p, n, cap, rfl⟩ := hv.shape
      have hne := plainCode_any [a] _ _ (NdsL.lit1 hv)
      rw [plainErrs_one] at hne
      have HN := hid hne; clear hne
      have k1 := (Keeps.refl w).alloc (.cells #[.slice p n cap] 26)
      go_enter Tryz.func12, Tryz.ntmps12
      go_wp2_with (go_at_call 34; refine HN.out.mono ?_; rintro e w2 ⟨rfl, k2⟩)
      go_ret2
      exact ⟨rfl, k1.trans k2⟩
--
theorem sq_notnot (t : Fm) : Sq [t] t.not.not := by
  intro M w hw u hu h
  exact h u (M.refl u) (M.up t _ _ hu (hw t (by simp)))
set_option maxRecDepth 20000 in
set_option maxHeartbeats 1000000 in
theorem bothClassicalKind (a : List Nd) : ∃ b c, BothOne 14 15 a b c := by
  by_cases h : plainErr a = 0
  · obtain ⟨t, hw, rfl, hp, hl⟩ := plain_tree h
    refine ⟨smallB (2 * t.enc.length + 4) [t.not.not] t, smallE (2 * t.enc.length + 4), fun v w hv => specClassicalKind_ok t hp h (by omega) v w hv, fun v w hv => ?_⟩
    have hok : OkF t := ⟨hw, hp⟩
    obtain ⟨p, n, cap, rfl⟩ := hv.shape
    have hne := plainCode_any [t.enc] _ _ (NdsL.lit1 hv)
    rw [plainErrs_one, h] at hne
    have HN := hid hne; clear hne h
    have k1 := (Keeps.refl w).alloc (.cells #[.slice p n cap] 26)
    have hlen := hid (show t.not.not.enc.length = t.enc.length + 4 by rw [not_len, not_len])
    have hnl := hid hv.lenIs
    by_cases hs : 20 < 2 * t.enc.length + 4
    · rw [show smallB (2 * t.enc.length + 4) [t.not.not] t = false from by simp [smallB]; omega, show smallE (2 * t.enc.length + 4) = 3 from by simp [smallE]; omega]
      have HD := hid (fun w2 (k : Keeps w w2) => doubleNegation_any t _ w2 (hv.keeps k) (by omega))
      go_enter Tryz.func15, Tryz.ntmps15
      go_wp2_with fail
      refine HN.out.mono ?_; rintro e w2 ⟨rfl, k2⟩
      go_wp2_with fail
      refine (HD.out w2 (k1.trans k2)).mono ?_; rintro e w3 ⟨v3, rfl, hv3, k3⟩
      have hn3 : Nds w3 v3 t.not.not.enc := hv3.nds (by rw [show (Fm.not (Fm.not t)).enc.length = _ from hlen.out]; omega)
      obtain ⟨p3, n3, c3, rfl⟩ := hn3.shape
      have hnn := hn3.lenIs
      have hbig : (20 : Int) < (n : Int) + n3 := by have := hnl.out; rw [hnn, hlen.out]; omega
      have hb1 : n ≤ 1000 := by have := hnl.out; omega
      have hb2 : n3 ≤ 1000 := by rw [hnn, hlen.out]; omega
      clear hnn
      go_wp2_with fail
      go_ret2
      exact ⟨rfl, (k1.trans k2).trans k3⟩
    · rw [show smallB (2 * t.enc.length + 4) [t.not.not] t = sqB [t.not.not] t from by simp [smallB]; omega, show smallE (2 * t.enc.length + 4) = 0 from by simp [smallE]; omega]
      have hwt : wt t + wt t.not.not ≤ 50000000 := by
        have h1 := wt_le_pow t.not.not
        have h2 := pow20 (n := t.not.not.enc.length) (by rw [hlen.out]; omega)
        have h3 := wt_le_pow t
        have h4 := pow20 (n := t.enc.length) (by omega)
        omega
      have HD := hid (fun w2 (k : Keeps w w2) => doubleNegation_any t _ w2 (hv.keeps k) (by omega))
      have HE := hid (fun v3 w2 (k : Keeps w w2) (h3 : Nds w2 v3 t.not.not.enc) => equivalent_any t t.not.not hok hok.not.not hwt _ v3 w2 (hv.keeps k) h3)
      rw [sqB_true (sq_notnot t), Bool.true_and] at HE
      clear hwt
      go_enter Tryz.func15, Tryz.ntmps15
      go_wp2_with fail
      refine HN.out.mono ?_; rintro e w2 ⟨rfl, k2⟩
      go_wp2_with fail
      refine (HD.out w2 (k1.trans k2)).mono ?_; rintro e w3 ⟨v3, rfl, hv3, k3⟩
      have hn3 : Nds w3 v3 t.not.not.enc := hv3.nds (by rw [show (Fm.not (Fm.not t)).enc.length = _ from hlen.out]; omega)
      obtain ⟨p3, n3, c3, rfl⟩ := hn3.shape
      have hnn := hn3.lenIs
      have hbig : ¬ (20 : Int) < (n : Int) + n3 := by have := hnl.out; rw [hnn, hlen.out]; omega
      have hb1 : n ≤ 1000 := by have := hnl.out; omega
      have hb2 : n3 ≤ 1000 := by rw [hnn, hlen.out]; omega
      have HN3 := hid hn3
      clear hnn hn3
      go_wp2_with fail
      refine (HE.out _ w3 ((k1.trans k2).trans k3) HN3.out).mono ?_; rintro e w4 ⟨rfl, k4⟩
      go_wp2_with fail
      go_ret2
      exact ⟨rfl, ((k1.trans k2).trans k3).trans k4⟩
  · have h' : (plainErr a != 0) = true := by simp [h]
    have H := hid h; clear h
    refine ⟨false, plainErr a, fun v w hv => ?_, fun v w hv => ?_⟩
    · go_enter Tryz.func14, Tryz.ntmps14
      go_wp2_with (go_at_call 30; refine (l29Code_any _ _ _ hv).mono ?_; rintro e w' ⟨rfl, rfl⟩)
      go_ret2
      exact ⟨rfl, Keeps.refl _⟩
    · obtain ⟨p, n, cap, rfl⟩ := hv.shape
      have hne := plainCode_any [a] _ _ (NdsL.lit1 hv)
      rw [plainErrs_one] at hne
      have HN := hid hne; clear hne
      have k1 := (Keeps.refl w).alloc (.cells #[.slice p n cap] 26)
      go_enter Tryz.func15, Tryz.ntmps15
      go_wp2_with (go_at_call 34; refine HN.out.mono ?_; rintro e w2 ⟨rfl, k2⟩)
      go_ret2
      exact ⟨rfl, k1.trans k2⟩
end Go.Proofs.YtajjlnonmaghlaaGreat
/- UnifiesFormula: both sides answer alike. -/
namespace Go.Proofs.YtajjlnonmaghlaaGreat
open Go.RowKit
/-- a substitution of plain formulas makes a plain formula of a plain formula -/
theorem sub_fm {ims : List (List Nd)} (hs : isSub ims = true) (hp : allPlainL ims = false) : ∀ t : Fm, OkF t → ∃ u, sub ims t.enc = u.enc ∧ OkF u := by
  have hs' := hs
  simp only [isSub, Bool.and_eq_true, decide_eq_true_eq] at hs'
  have hall : ∀ x ∈ ims, plainErr x = 0 := fun x hx => by
    have h1 := allFm_all hs'.1 x hx
    have h2 : plainL x = true := by
      simp only [allPlainL, List.any_eq_false, Bool.not_eq_true', Bool.not_eq_false] at hp
      exact hp x hx
    simp [plainErr, h1, h2]
  intro t
  induction t with
  | var i =>
    intro ht
    have hi : i < ims.length := by have : i < 6 := ht.1; omega
    obtain ⟨u, hw, e, hpl, _⟩ := plain_tree (hall ims[i] (List.getElem_mem hi))
    refine ⟨u, ?_, hw, hpl⟩
    simp [Fm.enc, sub, subN, List.getD_eq_getElem?_getD, hi, e]
  | fls => intro _; exact ⟨.fls, by simp [Fm.enc, sub, subN], okF_fls⟩
  | and x y hx hy =>
    intro ht
    obtain ⟨u, h1, h2⟩ := hx (OkF.and ht).1
    obtain ⟨v, h3, h4⟩ := hy (OkF.and ht).2
    exact ⟨.and u v, by simp [Fm.enc, sub, subN, sub_append, h1, h3], ⟨h2.1, h4.1⟩, by simp [Fm.plain, h2.2, h4.2]⟩
  | or x y hx hy =>
    intro ht
    obtain ⟨u, h1, h2⟩ := hx (OkF.or ht).1
    obtain ⟨v, h3, h4⟩ := hy (OkF.or ht).2
    exact ⟨.or u v, by simp [Fm.enc, sub, subN, sub_append, h1, h3], ⟨h2.1, h4.1⟩, by simp [Fm.plain, h2.2, h4.2]⟩
  | imp x y hx hy =>
    intro ht
    obtain ⟨u, h1, h2⟩ := hx (OkF.imp ht).1
    obtain ⟨v, h3, h4⟩ := hy (OkF.imp ht).2
    exact ⟨.imp u v, by simp [Fm.enc, sub, subN, sub_append, h1, h3], ⟨h2.1, h4.1⟩, by simp [Fm.plain, h2.2, h4.2]⟩
  | box x _ => intro ht; exact absurd ht.2 (by simp [Fm.plain])
  | dia x _ => intro ht; exact absurd ht.2 (by simp [Fm.plain])
theorem NdsL.lit1N {w : World} {N : Nat} (hN : N = w.heap.size) {u : Value} {x : List Nd} (h : Nds w u x) : NdsL (w.alloc (.cells #[u] 26)) (.slice (some ⟨N, 0, none⟩) 1 1) [x] := by
  subst hN; exact NdsL.lit1 h
theorem fm_nodes {a : List Nd} (h : plainErr a = 0) : a.all okNd = true := by
  unfold plainErr at h
  split at h
  · rename_i hf
    exact (isFm_ok hf).1
  · cases h
theorem wt_small {c : Fm} (h : c.enc.length ≤ 20) : wt c ≤ 1048576 := Nat.le_trans (wt_le_pow c) (pow20 h)
set_option maxRecDepth 20000 in
theorem isTheorem_any (c : Fm) (hc : OkF c) (hl : c.enc.length ≤ 20) (v : Value) (w : World) (hv : Nds w v c.enc) :
    Calls Tryz.prog 48 #[v] w fun e w' => e = .returned (.bool (sqB [] c)) ∧ Keeps w w' := by
  have hwt := wt_small hl
  have HT := hid (text_any c hc.1 (by omega) v w hv)
  have HP := hid (fun s (hs : bts s = c.body) w2 => provable_any [] c okL_nil hc (by simp only [wts]; omega) s (.slice none 0 0) w2 (Left.nil w2) hs)
  clear hv
  go_enter Tryz.func48, Tryz.ntmps48
  go_wp2_with fail
  refine HT.out.mono ?_; rintro e w1 ⟨s, rfl, hs, k1⟩
  go_wp2_with fail
  refine (HP.out s hs w1).mono ?_; rintro e w2 ⟨rfl, k2⟩
  go_wp2_with fail
  go_ret
  exact ⟨rfl, k1.trans k2⟩
/-- both sides answer b and c -/
def BothTwo (S I : FuncId) (a : List Nd) (l : List (List Nd)) (b : Bool) (c : Int) : Prop :=
  (∀ (v u : Value) (w : World), Nds w v a → NdsL w u l → Calls Tryz.prog S #[v, u] w (fun e w' => e = .returned (.tuple #[.bool b, .int .i64 c]) ∧ Keeps w w')) ∧
  (∀ (v u : Value) (w : World), Nds w v a → NdsL w u l → Calls Tryz.prog I #[v, u] w (fun e w' => e = .returned (.tuple #[.bool b, .int .i64 c]) ∧ Keeps w w'))
theorem plainErr_range (a : List Nd) : plainErr a = 0 ∨ plainErr a = 1 ∨ plainErr a = 5 := by
  by_cases h : plainErr a = 0
  · exact .inl h
  · exact .inr (plainErr_ne h)
set_option maxRecDepth 20000 in
set_option maxHeartbeats 2000000 in
theorem unifies_err (a : List Nd) (ims : List (List Nd)) (h : imgErr (plainErr a) ims ≠ 0) : BothTwo 17 19 a ims false (imgErr (plainErr a) ims) := by
  have h' : (imgErr (plainErr a) ims != 0) = true := by simp [h]
  have H := hid h; clear h
  have HR := hid (plainErr_range a)
  refine ⟨fun v u w hv hu => ?_, fun v u w hv hu => ?_⟩
  · obtain ⟨p, n, q, rfl⟩ := hv.shape
    obtain ⟨p2, n2, q2, rfl⟩ := NdsL.shapeL hu
    have k1 := (Keeps.refl w).alloc (.cells #[.slice p n q] 26)
    have h1 := l31Plain_any [a] _ _ (NdsL.lit1 hv)
    rw [plainErrs_one] at h1
    have H1 := hid h1
    have H2 := hid (l31Images_any ims _ _ (hu.keeps k1))
    clear hv hu h1
    go_enter Tryz.func17, Tryz.ntmps17
    go_wp2_with fail
    refine H1.out.mono ?_; rintro e w2 ⟨rfl, rfl⟩
    go_wp2_with fail
    refine H2.out.mono ?_; rintro e w2 ⟨rfl, rfl⟩
    go_wp2_with fail
    refine (l31Both_any (plainErr a) ims _ HR.out).mono ?_; rintro e w2 ⟨rfl, rfl⟩
    go_wp2_with fail
    go_ret2
    exact ⟨rfl, k1⟩
  · obtain ⟨p, n, q, rfl⟩ := hv.shape
    obtain ⟨p2, n2, q2, rfl⟩ := NdsL.shapeL hu
    have k1 := (Keeps.refl w).alloc (.cells #[.slice p n q] 26)
    have h1 := plainCode_any [a] _ _ (NdsL.lit1 hv)
    rw [plainErrs_one] at h1
    have H1 := hid h1
    have H2 := hid (fun w2 (k : Keeps w w2) => imagesCode_any (plainErr a) ims _ w2 (hu.keeps k))
    clear hv hu h1
    go_enter Tryz.func19, Tryz.ntmps19
    go_wp2_with fail
    refine H1.out.mono ?_; rintro e w2 ⟨rfl, k2⟩
    go_wp2_with fail
    refine (H2.out w2 (k1.trans k2)).mono ?_; rintro e w3 ⟨rfl, k3⟩
    go_wp2_with fail
    go_ret2
    exact ⟨rfl, (k1.trans k2).trans k3⟩
set_option maxRecDepth 20000 in
set_option maxHeartbeats 2000000 in
theorem unifies_ok (t : Fm) (hl : t.enc.length ≤ 40) (he : plainErr t.enc = 0) (ims : List (List Nd)) (h : imgErr (plainErr t.enc) ims = 0) (u : Fm) (hu : sub ims t.enc = u.enc) (hok : OkF u) :
    BothTwo 17 19 t.enc ims (if 20 < u.enc.length then false else sqB [] u) (if 20 < u.enc.length then 3 else 0) := by
  obtain ⟨_, hs, hp⟩ := imgErr_zero h
  obtain ⟨h6, h40⟩ := isSub_facts hs
  have hnd := (fm_nodes he)
  have hlen : (sub ims t.enc).length ≤ 1600 := by
    have h1 := sub_len h40 (by omega) t.enc
    have h3 : 40 * t.enc.length ≤ 40 * 40 := Nat.mul_le_mul_left _ hl
    omega
  have hul : u.enc.length ≤ 1600 := by rw [← hu]; exact hlen
  have hmost : mostL [u.enc] = u.enc.length := by simp [mostL]
  refine ⟨fun v u1 w hv hu1 => ?_, fun v u1 w hv hu1 => ?_⟩
  · obtain ⟨p, n, q, rfl⟩ := hv.shape
    obtain ⟨p2, n2, q2, rfl⟩ := NdsL.shapeL hu1
    have k1 := (Keeps.refl w).alloc (.cells #[.slice p n q] 26)
    have h1 := l31Plain_any [t.enc] _ _ (NdsL.lit1 hv)
    rw [plainErrs_one, he] at h1
    have h3 := l31Both_any 0 ims (w.alloc (.cells #[.slice p n q] 26)) (.inl rfl)
    rw [he] at h
    rw [h] at h3
    have k2 := k1.alloc (.cells #[.slice p n q] 26)
    have h4 := l31Image_any ims [t.enc] _ _ _ (NdsL.lit1N (N := w.heap.size + 1) (w := w.alloc (.cells #[.slice p n q] 26)) (by simp) (hv.keeps k1)) (hu1.keeps k2) (fun a ha => by rw [List.mem_singleton.1 ha]; exact hnd) h6 (fun a ha => by rw [List.mem_singleton.1 ha]; omega) (by simp)
    rw [show [t.enc].map (sub ims) = [u.enc] by simp [hu], hmost] at h4
    have H1 := hid h1
    have H2 := hid (l31Images_any ims _ _ (hu1.keeps k1))
    have H3 := hid h3
    have H4 := hid h4
    clear h1 h3 h4 hv hu1 hu h hs hp he hmost
    by_cases hbig : 20 < u.enc.length
    · rw [if_pos hbig, if_pos hbig]
      have hb2 : (20 : Int) < u.enc.length := by omega
      go_enter Tryz.func17, Tryz.ntmps17
      go_wp2_with fail
      refine H1.out.mono ?_; rintro e w2 ⟨rfl, rfl⟩
      go_wp2_with fail
      refine H2.out.mono ?_; rintro e w2 ⟨rfl, rfl⟩
      go_wp2_with fail
      refine H3.out.mono ?_; rintro e w2 ⟨rfl, rfl⟩
      go_wp2_with fail
      refine H4.out.mono ?_; rintro e w2 ⟨v2, rfl, hv2, k3⟩
      go_wp2_with fail
      go_ret2
      exact ⟨rfl, k2.trans k3⟩
    · rw [if_neg hbig, if_neg hbig]
      have hb2 : ¬ (20 : Int) < u.enc.length := by omega
      have HT := hid (fun v w2 (hv : Nds w2 v u.enc) => l31Theorem_any u hok (by omega) v w2 hv)
      go_enter Tryz.func17, Tryz.ntmps17
      go_wp2_with fail
      refine H1.out.mono ?_; rintro e w2 ⟨rfl, rfl⟩
      go_wp2_with fail
      refine H2.out.mono ?_; rintro e w2 ⟨rfl, rfl⟩
      go_wp2_with fail
      refine H3.out.mono ?_; rintro e w2 ⟨rfl, rfl⟩
      go_wp2_with fail
      refine H4.out.mono ?_; rintro e w2 ⟨v2, rfl, hv2, k3⟩
      have hL := hv2.ndsL (by simp) (by simp [tot]; omega)
      obtain ⟨p4, n4, c4, rfl⟩ := NdsL.shapeL hL
      obtain ⟨b5, o5, u5, e, hc5, hu5⟩ := hL.get 0 (by simp)
      subst e
      rw [Nat.add_zero] at hc5
      simp only [List.getElem_cons_zero] at hu5
      obtain ⟨n4pos, hcap4⟩ : 0 < n4 ∧ n4 ≤ c4 := by obtain ⟨_, _, e, g1, _⟩ := hL; cases e; exact ⟨by simp, by simpa using g1⟩
      have HU5 := hid hu5
      clear hL hv2 hu5
      go_wp2_with fail
      refine (HT.out _ _ HU5.out).mono ?_; rintro e w3 ⟨rfl, k4⟩
      go_wp2_with fail
      go_ret2
      exact ⟨rfl, (k2.trans k3).trans k4⟩
  · obtain ⟨p, n, q, rfl⟩ := hv.shape
    obtain ⟨p2, n2, q2, rfl⟩ := NdsL.shapeL hu1
    have k1 := (Keeps.refl w).alloc (.cells #[.slice p n q] 26)
    have h1 := plainCode_any [t.enc] _ _ (NdsL.lit1 hv)
    rw [plainErrs_one, he] at h1
    rw [he] at h
    have h2 := fun w2 (k : Keeps w w2) => imagesCode_any 0 ims _ w2 (hu1.keeps k)
    rw [h] at h2
    have h3 := fun w2 (k : Keeps w w2) => substitute_any ims t.enc _ _ w2 (hv.keeps k) (hu1.keeps k) hnd h6 (by omega)
    rw [hu] at h3
    have H1 := hid h1
    have H2 := hid h2
    have H3 := hid h3
    have hsm : (!([u.enc].any fun x => decide (20 < x.length))) = decide (¬ 20 < u.enc.length) := by rw [Bool.eq_iff_iff]; simp
    have HS := hid (fun v w2 (hv : Nds w2 v u.enc) => haveSmall_any [u.enc] _ (w2.alloc (.cells #[v] 26)) (NdsL.lit1 hv))
    rw [hsm] at HS
    clear h1 h2 h3 hv hu1 hu h hs hp he hmost hsm
    by_cases hbig : 20 < u.enc.length
    · rw [if_pos hbig, if_pos hbig]
      rw [decide_eq_false (fun h => h hbig)] at HS
      go_enter Tryz.func19, Tryz.ntmps19
      go_wp2_with fail
      refine H1.out.mono ?_; rintro e w2 ⟨rfl, k2⟩
      go_wp2_with fail
      refine (H2.out w2 (k1.trans k2)).mono ?_; rintro e w3 ⟨rfl, k3⟩
      have k03 := (k1.trans k2).trans k3
      go_wp2_with fail
      refine (H3.out w3 k03).mono ?_; rintro e w4 ⟨v4, rfl, hv4, k4⟩
      have hn4 := hv4.nds (by omega)
      obtain ⟨p4, n4, c4, rfl⟩ := hn4.shape
      go_wp2_with fail
      refine (HS.out _ w4 hn4).mono ?_; rintro e w5 ⟨rfl, k5⟩
      go_wp2_with fail
      go_ret2
      exact ⟨rfl, ((k03.trans k4).alloc _).trans k5⟩
    · rw [if_neg hbig, if_neg hbig]
      rw [decide_eq_true hbig] at HS
      have HT := hid (fun v w2 (hv : Nds w2 v u.enc) => isTheorem_any u hok (by omega) v w2 hv)
      go_enter Tryz.func19, Tryz.ntmps19
      go_wp2_with fail
      refine H1.out.mono ?_; rintro e w2 ⟨rfl, k2⟩
      go_wp2_with fail
      refine (H2.out w2 (k1.trans k2)).mono ?_; rintro e w3 ⟨rfl, k3⟩
      have k03 := (k1.trans k2).trans k3
      go_wp2_with fail
      refine (H3.out w3 k03).mono ?_; rintro e w4 ⟨v4, rfl, hv4, k4⟩
      have hn4 := hv4.nds (by omega)
      obtain ⟨p4, n4, c4, rfl⟩ := hn4.shape
      have kl := (Keeps.refl w4).alloc (.cells #[.slice p4 n4 c4] 26)
      go_wp2_with fail
      refine (HS.out _ w4 hn4).mono ?_; rintro e w5 ⟨rfl, k5⟩
      go_wp2_with fail
      refine (HT.out _ w5 (hn4.keeps (kl.trans k5))).mono ?_; rintro e w6 ⟨rfl, k6⟩
      go_wp2_with fail
      go_ret2
      exact ⟨rfl, ((k03.trans k4).trans (kl.trans k5)).trans k6⟩
theorem bothUnifies (a : List Nd) (ims : List (List Nd)) : ∃ b c, BothTwo 17 19 a ims b c := by
  by_cases h : imgErr (plainErr a) ims = 0
  · obtain ⟨h0, hs, hp⟩ := imgErr_zero h
    obtain ⟨t, hw, rfl, hpl, hl⟩ := plain_tree h0
    obtain ⟨u, hu, hok⟩ := sub_fm hs hp t ⟨hw, hpl⟩
    exact ⟨_, _, unifies_ok t hl h0 ims h u hu hok⟩
  · exact ⟨_, _, unifies_err a ims h⟩
end Go.Proofs.YtajjlnonmaghlaaGreat
/- ProjectiveMask: plain law, and what it calls. -/
namespace Go.Proofs.YtajjlnonmaghlaaGreat
open Go.RowKit
/-- the weight of a plain formula, by its nodes -/
theorem wt_three : ∀ t : Fm, t.plain = true → ∃ k, t.enc.length = 2 * k + 1 ∧ wt t ≤ 2 * 3 ^ k := by
  have h3 : ∀ k : Nat, 1 ≤ 3 ^ k := fun k => Nat.one_le_pow _ _ (by omega)
  have key : ∀ (a b i j : Nat), a ≤ 2 * 3 ^ i → b ≤ 2 * 3 ^ j → a * (1 + b) ≤ 2 * 3 ^ (i + j + 1) := fun a b i j ha hb => by
    have h1 : 1 + b ≤ 3 ^ (j + 1) := by rw [Nat.pow_succ]; have := h3 j; omega
    have h2 := Nat.mul_le_mul ha h1
    rw [show 2 * 3 ^ (i + j + 1) = 2 * 3 ^ i * 3 ^ (j + 1) by rw [Nat.mul_assoc, ← Nat.pow_add]; congr 1]
    exact h2
  intro t
  induction t with
  | var i => intro _; exact ⟨0, rfl, by simp [wt]⟩
  | fls => intro _; exact ⟨0, rfl, by simp [wt]⟩
  | and x y hx hy =>
    intro h
    simp [Fm.plain] at h
    obtain ⟨i, h1, h2⟩ := hx h.1
    obtain ⟨j, h4, h5⟩ := hy h.2
    refine ⟨i + j + 1, by simp only [Fm.enc, List.length_cons, List.length_append]; omega, ?_⟩
    exact key _ _ i j h2 h5
  | or x y hx hy =>
    intro h
    simp [Fm.plain] at h
    obtain ⟨i, h1, h2⟩ := hx h.1
    obtain ⟨j, h4, h5⟩ := hy h.2
    refine ⟨i + j + 1, by simp only [Fm.enc, List.length_cons, List.length_append]; omega, ?_⟩
    have h6 := key _ _ i j h2 h5
    have h7 := mul2 (wt_ge x) (wt_ge y)
    have h8 := wt_ge x
    have h9 := wt_ge y
    have h10 := mul_two_le (a := wt x) (wt_ge y)
    have h11 : 2 * wt y ≤ wt x * wt y := Nat.mul_le_mul_right _ (wt_ge x)
    simp only [wt]
    rw [Nat.mul_add, Nat.mul_one] at h6
    omega
  | imp x y hx hy =>
    intro h
    simp [Fm.plain] at h
    obtain ⟨i, h1, h2⟩ := hx h.1
    obtain ⟨j, h4, h5⟩ := hy h.2
    refine ⟨i + j + 1, by simp only [Fm.enc, List.length_cons, List.length_append]; omega, ?_⟩
    have h6 := key _ _ i j h2 h5
    have h8 := wt_ge x
    simp only [wt]
    rw [Nat.mul_add, Nat.mul_one] at h6
    omega
  | box x _ => intro h; simp [Fm.plain] at h
  | dia x _ => intro h; simp [Fm.plain] at h
theorem wt_28 {t : Fm} (hp : t.plain = true) (h : t.enc.length ≤ 28) : wt t ≤ 4000000 := by
  obtain ⟨k, h1, h2⟩ := wt_three t hp
  have h3 : 3 ^ k ≤ 3 ^ 13 := Nat.pow_le_pow_right (by omega) (by omega)
  have h4 : (3 : Nat) ^ 13 = 1594323 := by decide
  omega
set_option maxRecDepth 20000 in
theorem isTheorem_28 (c : Fm) (hc : OkF c) (hl : c.enc.length ≤ 28) (v : Value) (w : World) (hv : Nds w v c.enc) :
    Calls Tryz.prog 48 #[v] w fun e w' => e = .returned (.bool (sqB [] c)) ∧ Keeps w w' := by
  have hwt := wt_28 hc.2 hl
  have HT := hid (text_any c hc.1 (by omega) v w hv)
  have HP := hid (fun s (hs : bts s = c.body) w2 => provable_any [] c okL_nil hc (by simp only [wts]; omega) s (.slice none 0 0) w2 (Left.nil w2) hs)
  clear hv
  go_enter Tryz.func48, Tryz.ntmps48
  go_wp2_with fail
  refine HT.out.mono ?_; rintro e w1 ⟨s, rfl, hs, k1⟩
  go_wp2_with fail
  refine (HP.out s hs w1).mono ?_; rintro e w2 ⟨rfl, k2⟩
  go_wp2_with fail
  go_ret
  exact ⟨rfl, k1.trans k2⟩
set_option maxRecDepth 20000 in
theorem l31Theorem_28 (c : Fm) (hc : OkF c) (hlc : c.enc.length ≤ 28) (v : Value) (w : World) (hv : Nds w v c.enc) :
    Calls Tryz.prog 44 #[v] w fun e w' => e = .returned (.bool (sqB [] c)) ∧ Keeps w w' := by
  have kl := (Keeps.refl w).alloc (.cells #[] 9)
  have HT := hid (l02Text_any c hc.1 hc.2 (by omega) v _ (hv.keeps kl))
  have hE := hid (show Left (w.alloc (.cells #[] 9)) (.slice (some ⟨w.heap.size, 0, none⟩) 0 0) [] from ⟨[], (OwnS.empty w).strs (by simp), rfl⟩)
  have hw : wts [] + wt c ≤ 1000000000 := by
    have h1 := wt_28 hc.2 hlc
    simp only [wts]; omega
  have HK := hid (fun s (hs : bts s = c.body) v w2 (h : Left w2 v []) => l23Ok_any [] c okL_nil hc (by simp) (by omega) (by simp) hw s v w2 h hs)
  clear hv hw
  go_enter Tryz.func44, Tryz.ntmps44
  go_wp2_with fail
  refine HT.out.mono ?_; rintro e w1 ⟨s, rfl, hs, k1⟩
  go_wp2_with fail
  refine (HK.out s hs _ w1 (hE.out.keeps k1)).mono ?_; rintro e w2 ⟨rfl, k2⟩
  go_wp2_with fail
  go_ret
  exact ⟨rfl, (kl.trans k1).trans k2⟩
/-- six plain formulas -/
def Trees (ims : List (List Nd)) : Prop := ims.length = 6 ∧ ∀ x ∈ ims, ∃ u : Fm, x = u.enc ∧ OkF u
theorem sub_trees {ims : List (List Nd)} (hs : Trees ims) : ∀ t : Fm, OkF t → ∃ u, sub ims t.enc = u.enc ∧ OkF u := by
  intro t
  induction t with
  | var i =>
    intro ht
    have hi : i < ims.length := by have : i < 6 := ht.1; have := hs.1; omega
    obtain ⟨u, e, hok⟩ := hs.2 ims[i] (List.getElem_mem hi)
    refine ⟨u, ?_, hok⟩
    simp [Fm.enc, sub, subN, List.getD_eq_getElem?_getD, hi, e]
  | fls => intro _; exact ⟨.fls, by simp [Fm.enc, sub, subN], okF_fls⟩
  | and x y hx hy =>
    intro ht
    obtain ⟨u, h1, h2⟩ := hx (OkF.and ht).1
    obtain ⟨v, h3, h4⟩ := hy (OkF.and ht).2
    exact ⟨.and u v, by simp [Fm.enc, sub, subN, sub_append, h1, h3], ⟨h2.1, h4.1⟩, by simp [Fm.plain, h2.2, h4.2]⟩
  | or x y hx hy =>
    intro ht
    obtain ⟨u, h1, h2⟩ := hx (OkF.or ht).1
    obtain ⟨v, h3, h4⟩ := hy (OkF.or ht).2
    exact ⟨.or u v, by simp [Fm.enc, sub, subN, sub_append, h1, h3], ⟨h2.1, h4.1⟩, by simp [Fm.plain, h2.2, h4.2]⟩
  | imp x y hx hy =>
    intro ht
    obtain ⟨u, h1, h2⟩ := hx (OkF.imp ht).1
    obtain ⟨v, h3, h4⟩ := hy (OkF.imp ht).2
    exact ⟨.imp u v, by simp [Fm.enc, sub, subN, sub_append, h1, h3], ⟨h2.1, h4.1⟩, by simp [Fm.plain, h2.2, h4.2]⟩
  | box x _ => intro ht; exact absurd ht.2 (by simp [Fm.plain])
  | dia x _ => intro ht; exact absurd ht.2 (by simp [Fm.plain])
theorem okF_var {k : Nat} (h : k < 6) : OkF (.var k) := ⟨h, rfl⟩
theorem lift_trees (t : Fm) (ht : OkF t) (mask : Nat) : Trees (liftL t.enc mask) := by
  refine ⟨liftF_len _ _ _, ?_⟩
  have h : ∀ (ms : List Int) (l : List (List Nd)), (∀ x ∈ ms, ∃ k : Nat, k < 6 ∧ x = k) → (∀ x ∈ l, ∃ u : Fm, x = u.enc ∧ OkF u) → ∀ x ∈ ms.foldl (fun l v => l.set v.toNat (liftI t.enc mask v)) l, ∃ u : Fm, x = u.enc ∧ OkF u := by
    intro ms
    induction ms with
    | nil => intro l _ hl; exact hl
    | cons v ms ih =>
      intro l hms hl
      refine ih _ (fun y hy => hms y (by simp [hy])) (fun x hx => ?_)
      rcases List.mem_or_eq_of_mem_set hx with hx | rfl
      · exact hl x hx
      · obtain ⟨k, hk, rfl⟩ := hms v (by simp)
        unfold liftI
        split
        · exact ⟨.imp t (.var k), by simp [Fm.enc], OkF.mkImp ht (okF_var hk)⟩
        · exact ⟨.and t (.var k), by simp [Fm.enc], ⟨ht.1, hk⟩, by simp [Fm.plain, ht.2]⟩
  refine h _ _ (mem_range _) (fun x hx => ?_)
  simp only [idL, List.mem_map, List.mem_range] at hx
  obtain ⟨k, hk, rfl⟩ := hx
  exact ⟨.var k, rfl, okF_var hk⟩
theorem lift_len (t : Fm) (mask : Nat) : ∀ x ∈ liftL t.enc mask, x.length ≤ t.enc.length + 2 := by
  have h : ∀ (ms : List Int) (l : List (List Nd)), (∀ x ∈ l, x.length ≤ t.enc.length + 2) → ∀ x ∈ ms.foldl (fun l v => l.set v.toNat (liftI t.enc mask v)) l, x.length ≤ t.enc.length + 2 := by
    intro ms
    induction ms with
    | nil => intro l hl; exact hl
    | cons v ms ih =>
      intro l hl
      refine ih _ (fun x hx => ?_)
      rcases List.mem_or_eq_of_mem_set hx with hx | rfl
      · exact hl x hx
      · rw [liftI_len]; exact Nat.le_refl _
  refine h _ _ (fun x hx => ?_)
  simp only [idL, List.mem_map, List.mem_range] at hx
  obtain ⟨k, hk, rfl⟩ := hx
  simp [Fm.enc]
/-- the masks below a mask -/
def subs (m : Nat) : List Nat := (List.range 64).filter fun s => decide (s &&& m = s)
theorem subs_mem {m s : Nat} : s ∈ subs m ↔ s < 64 ∧ s &&& m = s := by simp [subs]
theorem subs_lt {m : Nat} {i j : Nat} (hij : i < j) (hj : j < (subs m).length) : (subs m)[i]'(by omega) < (subs m)[j] := by
  have h : (subs m).Pairwise (· < ·) := List.pairwise_lt_range.filter _
  exact List.pairwise_iff_getElem.1 h i j (by omega) hj hij
def sOf (m k : Nat) : Nat := (subs m).getD k 0
theorem subs_table : ∀ m : Fin 64, ∀ k : Fin 64, (k.val + 1 < (subs m).length → ((sOf m k : Int) == ((m.val : Nat) : Int)) = false ∧ bits .and .i64 ((sOf m k : Int) - (m.val : Nat)) (m.val : Nat) = ((sOf m (k.val + 1) : Nat) : Int)) ∧ (k.val + 1 = (subs m).length → sOf m k = m.val) ∧ sOf m k < 64 := by decide +kernel
theorem subs_len : ∀ m : Fin 64, 0 < (subs m).length ∧ (subs m).length ≤ 64 ∧ sOf m 0 = 0 := by decide +kernel
theorem andNot_table : ∀ k m : Fin 64, (bits .andNot .i64 ((k.val : Nat) : Int) ((m.val : Nat) : Int) != 0) = !decide (k.val &&& m.val = k.val) := by decide +kernel
def orL (l : List Int) : Int := l.foldl (fun acc x => bits .or .i64 acc (2 ^ x.toNat)) 0
theorem orL_snoc (l : List Int) (x : Int) : orL (l ++ [x]) = bits .or .i64 (orL l) (2 ^ x.toNat) := by simp [orL, List.foldl_append]
theorem orL_table : ∀ m : Fin 64, orL (mem m) = ((m.val : Nat) : Int) := by decide +kernel
end Go.Proofs.YtajjlnonmaghlaaGreat
/- ProjectiveMask: both sides answer alike. -/
namespace Go.Proofs.YtajjlnonmaghlaaGreat
open Go.RowKit
set_option maxRecDepth 20000 in
set_option maxHeartbeats 1000000 in
theorem subMasks_any (m : Nat) (hm : m < 64) (w : World) : Calls Tryz.prog 64 #[.int .i64 m] w (RetI w ((subs m).map Int.ofNat)) := by
  obtain ⟨hl0, hl64, hs0⟩ := subs_len ⟨m, hm⟩
  simp only at hl0 hl64 hs0
  have HT := hid (fun k (hk : k < 64) => subs_table ⟨m, hm⟩ ⟨k, hk⟩)
  have k0 := (Keeps.refl w).alloc (.cells #[.int .i64 0] 2)
  have hO : OwnI (w.alloc (.cells #[.int .i64 0] 2)) w.heap.size (.slice (some ⟨w.heap.size, 0, none⟩) 1 1) [0] := World.ownsRow_lit w #[.int .i64 0] 1 (Nat.le_refl _) (by simp [maxLen]) (by simp)
  have hE := hid (show OwnI (w.alloc (.cells #[.int .i64 0] 2)) w.heap.size (.slice (some ⟨w.heap.size, 0, none⟩) 1 1) (((subs m).map Int.ofNat).take 1) by
    have : ((subs m).map Int.ofNat).take 1 = [0] := by
      have h1 : (subs m)[0]? = some 0 := by
        rw [List.getElem?_eq_getElem hl0]
        congr 1
        have := hs0
        simp [sOf, List.getD_eq_getElem?_getD, hl0] at this
        exact this
      cases hsub : subs m with
      | nil => rw [hsub] at hl0; simp at hl0
      | cons x xs => rw [hsub] at h1; simp at h1; simp [h1]
    rw [this]; exact hO)
  have HTk := hid (fun k (h : k < (subs m).length) => (show ((subs m).map Int.ofNat).take (k + 1) = ((subs m).map Int.ofNat).take k ++ [((sOf m k : Nat) : Int)] by
    rw [List.take_succ_eq_append_getElem (by simpa using h)]
    simp [sOf, List.getD_eq_getElem?_getD, h]))
  have HLt := hid (fun k (h : k + 1 < (subs m).length) => (show sOf m k < sOf m (k + 1) by
    have := subs_lt (m := m) (i := k) (j := k + 1) (by omega) h
    simpa [sOf, List.getD_eq_getElem?_getD, h, show k < (subs m).length by omega] using this))
  have HAll := hid (show ((subs m).map Int.ofNat).take (subs m).length = (subs m).map Int.ofNat by rw [List.take_of_length_le (by simp)])
  have HS0 := hid hs0
  clear hs0 hO
  generalize hln : (subs m).length = ln at *
  clear hln
  go_enter Tryz.func64, Tryz.ntmps64
  go_wp2
  go_loopw [3, 4] (fun r i' wr => ∃ (k : Nat) (s : Nat), k < ln ∧ s = sOf m k ∧ s < 64 ∧ i' = .int .i64 s ∧ OwnI wr w.heap.size r (((subs m).map Int.ofNat).take (k + 1)) ∧ Keeps w wr) (fun _ i' _ => 64 - (intOf i').toNat)
  case atStart => exact ⟨0, 0, hl0, HS0.out.symm, by omega, rfl, hE.out, k0⟩
  case round =>
    obtain ⟨k, s, hk, hs, hs64, rfl, hown, kw⟩ := hrel
    have HSk := hid hs; clear hs
    have hlen : (((subs m).map Int.ofNat).take (k + 1)).length ≤ 64 := by rw [List.length_take]; omega
    by_cases hlt : k + 1 < ln
    · obtain ⟨hne, hnx⟩ := (HT.out k (by omega)).1 hlt
      obtain ⟨s', hs'⟩ : ∃ s', s' = sOf m (k + 1) := ⟨_, rfl⟩
      have hs64' : s' < 64 := by
        have := (HT.out (k + 1) (by omega)).2.2
        rw [hs']; exact this
      have hinc : s < s' := by rw [HSk.out, hs']; exact HLt.out k hlt
      rw [← HSk.out] at hne hnx
      rw [← hs'] at hnx
      have hne' : ((s : Int) == (m : Int)) = false := hne
      have HX := hid hs'; clear hs' hne
      have hsz := kw.size
      have HNX := hid hnx
      go_wp2_with (at_builtin; refine appI rfl (.tmp 14) (.tmp 16) rfl w.heap.size _ (((subs m).map Int.ofNat).take (k + 1)) rfl (hown.keeps ((Keeps.refl wr).alloc _)) _ [(s' : Int)] rfl (Ints.lit1 wr _) (by simp; omega) (by simp at hlen ⊢; omega) ?_; intro v3 w3 hv3 hg3 hr3; have k3 := (kw.alloc (.cells #[.int .i64 s'] 2)).grown hg3 (fun q hq => hr3 q hq))
      go_roundw
      case rel => exact ⟨k + 1, s', hlt, HX.out, hs64', rfl, by rw [HTk.out (k + 1) hlt, ← HX.out]; exact hv3, k3⟩
      case measure => simp [intOf]; omega
    · have hkl : k + 1 = ln := by omega
      have hsm : s = m := by rw [HSk.out]; exact (HT.out k (by omega)).2.1 hkl
      subst hsm
      rw [hkl, HAll.out] at hown
      go_wp2
      go_ret
      exact ⟨_, rfl, hown, kw⟩
end Go.Proofs.YtajjlnonmaghlaaGreat
/- IsDerivable: both sides answer alike. -/
namespace Go.Proofs.YtajjlnonmaghlaaGreat
open Go.RowKit
theorem plain_each {l : List (List Nd)} (h : plainErrs l = 0) : ∀ x ∈ l, plainErr x = 0 := by
  intro x hx
  unfold plainErrs at h
  split at h
  · rename_i h1
    split at h
    · omega
    · rename_i h2
      have h3 := allFm_all h1 x hx
      have h4 : plainL x = true := by
        simp only [allPlainL, Bool.not_eq_true, List.any_eq_false, Bool.not_eq_true', Bool.not_eq_false] at h2
        exact h2 x hx
      simp [plainErr, h3, h4]
  · omega
theorem list_trees : ∀ {l : List (List Nd)}, (∀ x ∈ l, plainErr x = 0) → ∃ G, l = G.map Fm.enc ∧ OkL G
  | [], _ => ⟨[], rfl, okL_nil⟩
  | x :: l, h => by
    obtain ⟨G, rfl, hG⟩ := list_trees (l := l) (fun y hy => h y (by simp [hy]))
    obtain ⟨t, hw, rfl, hp, _⟩ := plain_tree (h x (by simp))
    exact ⟨t :: G, rfl, fun a ha => by
      rcases List.mem_cons.1 ha with rfl | ha
      · exact ⟨hw, hp⟩
      · exact hG a ha⟩
theorem nodes_tot (G : List Fm) : nodes G = tot (G.map Fm.enc) := by
  induction G with
  | nil => rfl
  | cons a G ih => simp [nodes, tot, ih]
theorem pow21 {a b : Nat} (h : a + b ≤ 20) : 2 ^ a + 2 ^ b ≤ 50000000 := by
  have h1 : 2 ^ a ≤ 2 ^ 20 := Nat.pow_le_pow_right (by omega) (by omega)
  have h2 : 2 ^ b ≤ 2 ^ 20 := Nat.pow_le_pow_right (by omega) (by omega)
  have h3 : (2 : Nat) ^ 20 = 1048576 := by decide
  omega
set_option maxRecDepth 20000 in
set_option maxHeartbeats 1000000 in
theorem textsOf_any (G : List Fm) (hG : OkL G) (hlen : ∀ a ∈ G, a.enc.length ≤ 40) (hn : G.length ≤ 1000) (v : Value) (w : World) (hv : FsL w v G) :
    Calls Tryz.prog 58 #[v] w fun e w' => ∃ v', e = .returned v' ∧ Left w' v' G ∧ Keeps w w' := by
  obtain ⟨p, n, cap, rfl⟩ := NdsL.shapeL hv
  obtain ⟨hm, hmc, hmx⟩ := FsL.len hv
  unfold maxLen at hmx
  have hn1 : n ≤ 1000 := by omega
  have HM := hid hm; clear hm
  have HV := hid hv; clear hv
  go_enter Tryz.func58, Tryz.ntmps58
  go_wp2
  go_loopw [3, 8] (fun r i' wr => ∃ k : Nat, k ≤ n ∧ i' = .int .i64 k ∧ (∃ ss, OwnS wr w.heap.size r ss ∧ Txts ss (G.take k)) ∧ Keeps w wr) (fun _ i _ => n - (intOf i).toNat)
  case atStart => exact ⟨0, by omega, rfl, ⟨[], OwnS.nil _ _, rfl⟩, Keeps.refl _⟩
  case round =>
    obtain ⟨k, hk, rfl, ⟨ss, hss, htx⟩, kw⟩ := hrel
    by_cases hlt : k < n
    · have hlt' : (k : Int) < n := by omega
      have hkG : k < G.length := by have := HM.out; omega
      obtain ⟨b, off, u1, rfl, hc, hu1⟩ := (HV.out.keeps kw).get k hkG
      have HT := hid (text_any G[k] (hG _ (List.getElem_mem hkG)).1 (by have := hlen _ (List.getElem_mem hkG); omega) u1 wr hu1)
      obtain ⟨q1, n1, c1, rfl⟩ := hu1.shape
      have hsl : ss.length ≤ 1000 := by have := htx.length; simp at this; omega
      have hsz := kw.size
      clear hu1
      go_wp2_with fail
      refine HT.out.mono ?_; rintro e w2 ⟨s, rfl, hs, k2⟩
      have hsz2 := k2.size
      go_wp2_with (at_builtin; refine appS rfl (.tmp 12) (.tmp 15) rfl w.heap.size _ ss rfl ((hss.keeps k2).keeps ((Keeps.refl w2).alloc _)) _ [s] rfl (Strs.lit1 w2 s) (by simp; omega) (by simp; omega) ?_; intro v3 w3 hv3 hg3 hr3)
      go_roundw
      case rel => exact ⟨k + 1, by omega, by go_num, ⟨_, hv3, by rw [List.take_succ_eq_append_getElem hkG]; exact htx.append (by simp [Txts, hs])⟩, (((kw.trans k2).alloc _).grown hg3 (fun q hq => by have := hr3 q hq; omega))⟩
      case measure => simp [intOf]; omega
    · obtain rfl : k = n := by omega
      have hlt' : ¬ ((k : Int) < k) := by omega
      have hL := hid (show Left wr _ G from by
        have h1 : G.take k = G := by have := HM.out; rw [this]; exact List.take_length
        rw [h1] at htx
        exact hss.left htx (by omega))
      clear hss htx
      go_wp2
      go_ret
      exact ⟨_, rfl, hL.out, kw⟩
theorem tot_most (l : List (List Nd)) (n : Nat) (h : ∀ x ∈ l, x.length ≤ n) : tot l ≤ n * l.length := by
  induction l with
  | nil => simp [tot]
  | cons x l ih =>
    have h1 := h x (List.mem_cons_self ..)
    have h2 := ih (fun y hy => h y (List.mem_cons_of_mem _ hy))
    simp only [tot, List.length_cons]
    rw [Nat.mul_succ]; omega
theorem fl_tot (l : List (List Nd)) : (fl l l.length).length = tot l := by
  rw [fl_all]
  induction l with
  | nil => rfl
  | cons x l ih => simp [tot] at ih ⊢; omega
set_option maxRecDepth 20000 in
theorem isSmallRule_any (xs : List (List Nd)) (c : List Nd) (v u : Value) (w : World) (hv : NdsL w v xs) (hu : Nds w u c) (hl : xs.length ≤ 1000000) (ht : tot (xs ++ [c]) ≤ 1000000000) :
    Calls Tryz.prog 56 #[.agg #[v, u]] w fun e w' => e = .returned (.bool (decide (tot (xs ++ [c]) ≤ 20))) ∧ Keeps w w' := by
  obtain ⟨p1, n1, q1, rfl⟩ := NdsL.shapeL hv
  obtain ⟨p2, n2, q2, rfl⟩ := hu.shape
  have kA := (Keeps.refl w).alloc (.cells #[.slice p1 n1 q1, .slice p2 n2 q2] 42)
  have HF := hid (formulas_any xs c _ _ _ (hv.keeps kA) (hu.keeps kA) hl)
  have HC := hid (fun v w2 (hv : NdsL w2 v (xs ++ [c])) => concatN_any (xs ++ [c]) v w2 hv (by rw [fl_tot]; omega))
  have hft := fl_tot (xs ++ [c])
  have HT := hid hft; clear hft
  clear hv hu
  go_enter Tryz.func56, Tryz.ntmps56
  go_wp2_with fail
  refine HF.out.mono ?_; rintro e w2 ⟨v2, rfl, hv2, k2⟩
  go_wp2_with fail
  refine (HC.out _ w2 hv2).mono ?_; rintro e w3 ⟨v3, rfl, hv3, k3⟩
  obtain ⟨p3, c3, rfl, hc3, _⟩ := At.of_own hv3
  have hlen3 := HT.out
  generalize (fl (xs ++ [c]) (xs ++ [c]).length).length = m at *
  subst hlen3
  by_cases h20 : tot (xs ++ [c]) ≤ 20
  · have h20' : ((tot (xs ++ [c]) : Nat) : Int) ≤ 20 := by omega
    go_wp2_with fail
    go_ret
    exact ⟨ret_bool (by simp [h20]), (kA.trans k2).trans k3⟩
  · have h20' : ¬ ((tot (xs ++ [c]) : Nat) : Int) ≤ 20 := by omega
    go_wp2_with fail
    go_ret
    exact ⟨ret_bool (by simp; omega), (kA.trans k2).trans k3⟩
/-- both sides answer b and c -/
def BothRule (S I : FuncId) (xs : List (List Nd)) (c : List Nd) (b : Bool) (k : Int) : Prop :=
  (∀ (v u : Value) (w : World), NdsL w v xs → Nds w u c → Calls Tryz.prog S #[.agg #[v, u]] w (fun e w' => e = .returned (.tuple #[.bool b, .int .i64 k]) ∧ Keeps w w')) ∧
  (∀ (v u : Value) (w : World), NdsL w v xs → Nds w u c → Calls Tryz.prog I #[.agg #[v, u]] w (fun e w' => e = .returned (.tuple #[.bool b, .int .i64 k]) ∧ Keeps w w'))
set_option maxRecDepth 20000 in
set_option maxHeartbeats 1000000 in
theorem derivable_err (xs : List (List Nd)) (c : List Nd) (h : ruleErr xs c ≠ 0) : BothRule 22 24 xs c false (ruleErr xs c) := by
  have h' : (ruleErr xs c != 0) = true := by simp [h]
  have H := hid h; clear h
  refine ⟨fun v u w hv hu => ?_, fun v u w hv hu => ?_⟩
  · obtain ⟨p1, n1, q1, rfl⟩ := NdsL.shapeL hv
    obtain ⟨p2, n2, q2, rfl⟩ := hu.shape
    have kA := (Keeps.refl w).alloc (.cells #[.slice p1 n1 q1, .slice p2 n2 q2] 42)
    have HC := hid (l31Code_any xs c _ _ _ (hv.keeps kA) (hu.keeps kA))
    clear hv hu
    go_enter Tryz.func22, Tryz.ntmps22
    go_wp2_with fail
    refine HC.out.mono ?_; rintro e w2 ⟨rfl, k2⟩
    go_wp2_with fail
    go_ret2
    exact ⟨rfl, kA.trans k2⟩
  · obtain ⟨p1, n1, q1, rfl⟩ := NdsL.shapeL hv
    obtain ⟨p2, n2, q2, rfl⟩ := hu.shape
    have kA := (Keeps.refl w).alloc (.cells #[.slice p1 n1 q1, .slice p2 n2 q2] 42)
    have HC := hid (ruleCode_nil xs c _ _ _ (hv.keeps kA) (hu.keeps kA))
    clear hv hu
    go_enter Tryz.func24, Tryz.ntmps24
    go_wp2_with fail
    refine HC.out.mono ?_; rintro e w2 ⟨rfl, k2⟩
    go_wp2_with fail
    go_ret2
    exact ⟨rfl, kA.trans k2⟩
set_option maxRecDepth 20000 in
set_option maxHeartbeats 2000000 in
theorem derivable_big (xs : List (List Nd)) (c : List Nd) (h : ruleErr xs c = 0) (hb : 20 < tot (xs ++ [c])) : BothRule 22 24 xs c false 3 := by
  obtain ⟨h6, hall⟩ := ruleErr_zero h
  have htot : tot (xs ++ [c]) ≤ 40 * (xs ++ [c]).length := tot_most _ 40 (fun x hx => (hall x hx).2)
  have ht2 : tot (xs ++ [c]) ≤ 1000 := by simp at htot; omega
  refine ⟨fun v u w hv hu => ?_, fun v u w hv hu => ?_⟩
  · obtain ⟨p1, n1, q1, rfl⟩ := NdsL.shapeL hv
    obtain ⟨p2, n2, q2, rfl⟩ := hu.shape
    have kA := (Keeps.refl w).alloc (.cells #[.slice p1 n1 q1, .slice p2 n2 q2] 42)
    have pa : (w.alloc (.cells #[.slice p1 n1 q1, .slice p2 n2 q2] 42)).cell? ⟨w.heap.size, 0, none⟩ = some (.slice p1 n1 q1) := by simp
    have pb : (w.alloc (.cells #[.slice p1 n1 q1, .slice p2 n2 q2] 42)).cell? ⟨w.heap.size, 1, none⟩ = some (.slice p2 n2 q2) := by simp
    have hC := l31Code_any xs c _ _ _ (hv.keeps kA) (hu.keeps kA)
    rw [h] at hC
    have HC := hid hC
    have HO := hid (fun w2 (k : Keeps w w2) => l31Of_any xs c _ _ w2 (hv.keeps k) (hu.keeps k) (by omega))
    have HB := hid (show (20 : Int) < (tot (xs ++ [c]) : Nat) by omega)
    have hS := hid (fun v w2 (h : NdsL w2 v (xs ++ [c])) => l31Size_any (xs ++ [c]) v w2 h (by omega))
    clear hv hu hC hb htot hall
    go_enter Tryz.func22, Tryz.ntmps22
    go_wp2_with fail
    refine HC.out.mono ?_; rintro e w2 ⟨rfl, k2⟩
    obtain ⟨qa, qb⟩ := cells_keeps k2 (And.intro pa pb)
    go_wp2_with fail
    refine (HO.out w2 (kA.trans k2)).mono ?_; rintro e w3 ⟨v3, rfl, hv3, k3⟩
    have hL := hv3.ndsL k3 (by simp; omega)
    go_wp2_with fail
    refine (hS.out _ w3 hL).mono ?_; rintro e w4 ⟨rfl, rfl⟩
    have hbb := HB.out
    go_wp2_with fail
    go_ret2
    exact ⟨rfl, (kA.trans k2).trans k3⟩
  · obtain ⟨p1, n1, q1, rfl⟩ := NdsL.shapeL hv
    obtain ⟨p2, n2, q2, rfl⟩ := hu.shape
    have kA := (Keeps.refl w).alloc (.cells #[.slice p1 n1 q1, .slice p2 n2 q2] 42)
    have pa : (w.alloc (.cells #[.slice p1 n1 q1, .slice p2 n2 q2] 42)).cell? ⟨w.heap.size, 0, none⟩ = some (.slice p1 n1 q1) := by simp
    have pb : (w.alloc (.cells #[.slice p1 n1 q1, .slice p2 n2 q2] 42)).cell? ⟨w.heap.size, 1, none⟩ = some (.slice p2 n2 q2) := by simp
    have hC := ruleCode_nil xs c _ _ _ (hv.keeps kA) (hu.keeps kA)
    rw [h] at hC
    have HC := hid hC
    have hS := fun w2 (k : Keeps w w2) => isSmallRule_any xs c _ _ w2 (hv.keeps k) (hu.keeps k) (by omega) (by omega)
    rw [decide_eq_false (by omega)] at hS
    have HS := hid hS
    clear hv hu hC hS hb htot hall
    go_enter Tryz.func24, Tryz.ntmps24
    go_wp2_with fail
    refine HC.out.mono ?_; rintro e w2 ⟨rfl, k2⟩
    obtain ⟨qa, qb⟩ := cells_keeps k2 (And.intro pa pb)
    go_wp2_with fail
    refine (HS.out w2 (kA.trans k2)).mono ?_; rintro e w3 ⟨rfl, k3⟩
    go_wp2_with fail
    go_ret2
    exact ⟨rfl, (kA.trans k2).trans k3⟩
set_option maxRecDepth 20000 in
set_option maxHeartbeats 2000000 in
theorem derivable_ok (G : List Fm) (t : Fm) (hG : OkL G) (ht : OkF t) (h : ruleErr (G.map Fm.enc) t.enc = 0) (hb : tot (G.map Fm.enc ++ [t.enc]) ≤ 20) : BothRule 22 24 (G.map Fm.enc) t.enc (sqB G t) 0 := by
  obtain ⟨h6, hall⟩ := ruleErr_zero h
  have hl40 : ∀ a ∈ G, a.enc.length ≤ 40 := fun a ha => (hall a.enc (List.mem_append.2 (.inl (List.mem_map.2 ⟨a, ha, rfl⟩)))).2
  have htl : t.enc.length ≤ 40 := (hall t.enc (by simp)).2
  have hGl : G.length ≤ 6 := by simpa using h6
  have hw : wts G + wt t ≤ 50000000 := by
    have h1 := wts_le_pow G
    have h2 := wt_le_pow t
    have h3 : nodes G + t.enc.length ≤ 20 := by
      rw [nodes_tot]
      have : tot (G.map Fm.enc ++ [t.enc]) = tot (G.map Fm.enc) + t.enc.length := by
        clear hb hall h6 h hl40 hGl h1
        induction G with
        | nil => simp [tot]
        | cons a G ih => have := ih (fun b hb => hG b (by simp [hb])); simp [tot] at this ⊢; omega
      omega
    have h4 := pow21 h3
    omega
  have ht2 : tot (G.map Fm.enc ++ [t.enc]) ≤ 1000 := by omega
  refine ⟨fun v u w hv hu => ?_, fun v u w hv hu => ?_⟩
  · obtain ⟨p1, n1, q1, rfl⟩ := NdsL.shapeL hv
    obtain ⟨p2, n2, q2, rfl⟩ := hu.shape
    have kA := (Keeps.refl w).alloc (.cells #[.slice p1 n1 q1, .slice p2 n2 q2] 42)
    have pa : (w.alloc (.cells #[.slice p1 n1 q1, .slice p2 n2 q2] 42)).cell? ⟨w.heap.size, 0, none⟩ = some (.slice p1 n1 q1) := by simp
    have pb : (w.alloc (.cells #[.slice p1 n1 q1, .slice p2 n2 q2] 42)).cell? ⟨w.heap.size, 1, none⟩ = some (.slice p2 n2 q2) := by simp
    have hC := l31Code_any _ _ _ _ _ (hv.keeps kA) (hu.keeps kA)
    rw [h] at hC
    have HC := hid hC
    have HO := hid (fun w2 (k : Keeps w w2) => l31Of_any _ _ _ _ w2 (hv.keeps k) (hu.keeps k) (by simp; omega))
    have HB := hid (show ¬ (20 : Int) < (tot (G.map Fm.enc ++ [t.enc]) : Nat) by omega)
    have hS := hid (fun v w2 (h : NdsL w2 v (G.map Fm.enc ++ [t.enc])) => l31Size_any _ v w2 h (by omega))
    have HX := hid (fun w2 (k : Keeps w w2) => l31Texts_any G hG hl40 (by omega) _ w2 (hv.keeps k))
    have HT := hid (fun w2 (k : Keeps w w2) => l02Text_any t ht.1 ht.2 (by omega) _ w2 (hu.keeps k))
    have HK := hid (fun R (hR : ∀ a, a ∈ R ↔ a ∈ G) (hwR : wts R ≤ wts G) (hlR : R.length ≤ G.length) s (hs : bts s = t.body) v w2 (hl : Left w2 v R) => by
      have h1 := l23Ok_any R t (fun a ha => hG a ((hR a).1 ha)) ht (fun a ha => hl40 a ((hR a).1 ha)) htl (by omega) (by omega) s v w2 hl hs
      rw [sqB_congr (sq_same hR)] at h1
      exact h1)
    clear hv hu hC hb hall
    go_enter Tryz.func22, Tryz.ntmps22
    go_wp2_with fail
    refine HC.out.mono ?_; rintro e w2 ⟨rfl, k2⟩
    obtain ⟨qa, qb⟩ := cells_keeps k2 (And.intro pa pb)
    go_wp2_with fail
    refine (HO.out w2 (kA.trans k2)).mono ?_; rintro e w3 ⟨v3, rfl, hv3, k3⟩
    have hL := hv3.ndsL k3 (by simp; omega)
    obtain ⟨qa3, qb3⟩ := cells_keeps k3 (And.intro qa qb)
    go_wp2_with fail
    refine (hS.out _ w3 hL).mono ?_; rintro e w4 ⟨rfl, rfl⟩
    have hbb := HB.out
    have kD := ((kA.trans k2).trans k3).drew
    have qd : w3.drew.cell? ⟨w.heap.size, 0, none⟩ = some (.slice p1 n1 q1) ∧ w3.drew.cell? ⟨w.heap.size, 1, none⟩ = some (.slice p2 n2 q2) := ⟨qa3, qb3⟩
    clear hL hv3
    go_wp2_with fail
    go_region_held3 (fun w' => w'.cell? ⟨w.heap.size, 0, none⟩ = some (.slice p1 n1 q1) ∧ w'.cell? ⟨w.heap.size, 1, none⟩ = some (.slice p2 n2 q2)) (first | exact qd | exact q5 | exact q6 | exact q7) (first
      | (go_at_call 53; refine (HX.out w3.drew kD).mono ?_; rintro e w5 ⟨v5, rfl, ⟨R, hR, hm, hwR, hlR⟩, k5⟩; have q5 := cells_keeps k5 qd)
      | (go_at_call 54; refine (HT.out w5 (kD.trans k5)).mono ?_; rintro e w6 ⟨s, rfl, hs, k6⟩; have q6 := cells_keeps k6 q5)
      | (go_at_call 52; refine (HK.out R hm hwR hlR s hs _ w6 (hR.keeps k6)).mono ?_; rintro e w7 ⟨rfl, k7⟩; have q7 := cells_keeps k7 q6))
    all_goals
      go_wp2
      go_ret2
      exact ⟨rfl, ((kD.trans k5).trans k6).trans k7⟩
  · obtain ⟨p1, n1, q1, rfl⟩ := NdsL.shapeL hv
    obtain ⟨p2, n2, q2, rfl⟩ := hu.shape
    have kA := (Keeps.refl w).alloc (.cells #[.slice p1 n1 q1, .slice p2 n2 q2] 42)
    have pa : (w.alloc (.cells #[.slice p1 n1 q1, .slice p2 n2 q2] 42)).cell? ⟨w.heap.size, 0, none⟩ = some (.slice p1 n1 q1) := by simp
    have pb : (w.alloc (.cells #[.slice p1 n1 q1, .slice p2 n2 q2] 42)).cell? ⟨w.heap.size, 1, none⟩ = some (.slice p2 n2 q2) := by simp
    have hC := ruleCode_nil _ _ _ _ _ (hv.keeps kA) (hu.keeps kA)
    rw [h] at hC
    have HC := hid hC
    have hS := fun w2 (k : Keeps w w2) => isSmallRule_any _ _ _ _ w2 (hv.keeps k) (hu.keeps k) (by simp; omega) (by omega)
    rw [decide_eq_true hb] at hS
    have HS := hid hS
    have HX := hid (fun w2 (k : Keeps w w2) => textsOf_any G hG hl40 (by omega) _ w2 (hv.keeps k))
    have HT := hid (fun w2 (k : Keeps w w2) => text_any t ht.1 (by omega) _ w2 (hu.keeps k))
    have HP := hid (fun v w2 (hl : Left w2 v G) => put_fm G [] v _ w2 hl (Left.nil w2) hG okL_nil (by simp only [wts]; omega))
    have HK := hid (fun R (hR : ∀ a, a ∈ R ↔ a ∈ G ∨ a ∈ ([] : List Fm)) (hwR : wts R ≤ wts G + wts []) s (hs : bts s = t.body) v w2 (hl : Left w2 v R) => by
      have h1 := provable_any R t (fun a ha => hG a (by simpa using (hR a).1 ha)) ht (by simp only [wts] at hwR; omega) s v w2 hl hs
      rw [sqB_congr (sq_same (fun a => (hR a).trans (by simp) : ∀ a, a ∈ R ↔ a ∈ G))] at h1
      exact h1)
    clear hv hu hC hS hb hall
    go_enter Tryz.func24, Tryz.ntmps24
    go_wp2_with fail
    refine HC.out.mono ?_; rintro e w2 ⟨rfl, k2⟩
    obtain ⟨qa, qb⟩ := cells_keeps k2 (And.intro pa pb)
    go_wp2_with fail
    refine (HS.out w2 (kA.trans k2)).mono ?_; rintro e w3 ⟨rfl, k3⟩
    obtain ⟨qa3, qb3⟩ := cells_keeps k3 (And.intro qa qb)
    have kD := ((kA.trans k2).trans k3).drew
    have qd : w3.drew.cell? ⟨w.heap.size, 0, none⟩ = some (.slice p1 n1 q1) ∧ w3.drew.cell? ⟨w.heap.size, 1, none⟩ = some (.slice p2 n2 q2) := ⟨qa3, qb3⟩
    go_wp2_with fail
    go_region_held3 (fun w' => w'.cell? ⟨w.heap.size, 0, none⟩ = some (.slice p1 n1 q1) ∧ w'.cell? ⟨w.heap.size, 1, none⟩ = some (.slice p2 n2 q2)) (first | exact qd | exact q4 | exact q5 | exact q6 | exact q7) (first
      | (go_at_call 58; refine (HX.out w3.drew kD).mono ?_; rintro e w4 ⟨v4, rfl, hv4, k4⟩; have q4 := cells_keeps k4 qd; obtain ⟨p4, n4, c4, rfl⟩ := hv4.shape)
      | (go_at_call 57; refine (HP.out _ w4 hv4).mono ?_; rintro e w5 ⟨v5, R, rfl, hR, hm, hwR, k5⟩; have q5 := cells_keeps k5 q4; have hRl := hR.left; obtain ⟨p5, n5, c5, rfl⟩ := hRl.shape)
      | (go_at_call 37; refine (HT.out w5 ((kD.trans k4).trans k5)).mono ?_; rintro e w6 ⟨s, rfl, hs, k6⟩; have q6 := cells_keeps k6 q5)
      | (go_at_call 36; refine (HK.out R hm hwR s hs _ w6 (hRl.keeps k6)).mono ?_; rintro e w7 ⟨rfl, k7⟩; have q7 := cells_keeps k7 q6))
    all_goals
      go_wp2
      go_ret2
      exact ⟨rfl, (((kD.trans k4).trans k5).trans k6).trans k7⟩
theorem bothDerivable (xs : List (List Nd)) (c : List Nd) : ∃ b k, BothRule 22 24 xs c b k := by
  by_cases h : ruleErr xs c = 0
  · have hp : plainErrs (xs ++ [c]) = 0 := by
      have h0 := h
      unfold ruleErr at h0
      split at h0
      · omega
      · exact h0
    by_cases hb : tot (xs ++ [c]) ≤ 20
    · obtain ⟨G, rfl, hG⟩ := list_trees (l := xs) (fun x hx => plain_each hp x (List.mem_append.2 (.inl hx)))
      obtain ⟨t, hw, rfl, hpl, _⟩ := plain_tree (plain_each hp c (by simp))
      exact ⟨_, _, derivable_ok G t hG ⟨hw, hpl⟩ h hb⟩
    · exact ⟨_, _, derivable_big xs c h (by omega)⟩
  · exact ⟨_, _, derivable_err xs c h⟩
end Go.Proofs.YtajjlnonmaghlaaGreat
/- ProjectiveMask: both sides answer alike. -/
namespace Go.Proofs.YtajjlnonmaghlaaGreat
open Go.RowKit
def smCode (a : List Nd) : Int := if plainErr a = 0 then (if 20 < a.length then 3 else 0) else plainErr a
set_option maxRecDepth 20000 in
set_option maxHeartbeats 1000000 in
theorem smallFormulasCode_one (a : List Nd) (hl : a.length ≤ 1048576) (v : Value) (w : World) (hv : NdsL w v [a]) :
    Calls Tryz.prog 63 #[v] w fun e w' => e = .returned (.int .i64 (smCode a)) ∧ Keeps w w' := by
  obtain ⟨p, n, cap, rfl⟩ := NdsL.shapeL hv
  have h1 := plainCode_any [a] _ _ hv
  rw [plainErrs_one] at h1
  have hft := fl_tot [a]
  have ht1 : tot [a] = a.length := by simp [tot]
  have HC := hid (fun w2 (k : Keeps w w2) => concatN_any [a] _ w2 (NdsL.keeps hv k) (by rw [fl_tot, ht1]; omega))
  have HL := hid (hft.trans ht1)
  by_cases h : plainErr a = 0
  · rw [h] at h1
    have H1 := hid h1
    have hsm : smCode a = if 20 < a.length then 3 else 0 := by unfold smCode; rw [if_pos h]
    rw [hsm]
    clear h h1 hft ht1 hv hsm
    go_enter Tryz.func63, Tryz.ntmps63
    go_wp2_with fail
    refine H1.out.mono ?_; rintro e w2 ⟨rfl, k2⟩
    go_wp2_with fail
    refine (HC.out w2 k2).mono ?_; rintro e w3 ⟨v3, rfl, hv3, k3⟩
    obtain ⟨p3, c3, rfl, hc3, _⟩ := At.of_own hv3
    have hlen3 := HL.out
    generalize (fl [a] [a].length).length = m3 at *
    by_cases h20 : 20 < a.length
    · have h20' : (20 : Int) < m3 := by omega
      clear hlen3
      go_wp2_with fail
      go_ret
      exact ⟨ret_int rfl, k2.trans k3⟩
    · have h20' : ¬ (20 : Int) < m3 := by omega
      clear hlen3
      go_wp2_with fail
      go_ret
      exact ⟨ret_int rfl, k2.trans k3⟩
  · have hne : (plainErr a != 0) = true := by simp [h]
    have hsm : smCode a = plainErr a := by unfold smCode; rw [if_neg h]
    rw [hsm]
    have H1 := hid h1
    clear h h1 hft ht1 hv hsm HC
    go_enter Tryz.func63, Tryz.ntmps63
    go_wp2_with fail
    refine H1.out.mono ?_; rintro e w2 ⟨rfl, k2⟩
    go_wp2_with fail
    go_ret
    exact ⟨rfl, k2⟩
open Classical in
/-- a mask by which a formula is projective -/
noncomputable def PB (t : Fm) (k : Nat) : Bool := decide (∃ u : Fm, sub (liftL t.enc k) t.enc = u.enc ∧ u.enc.length ≤ 28 ∧ Sq [] u)
open Classical in
theorem PB_eq {t u : Fm} {k : Nat} (h : sub (liftL t.enc k) t.enc = u.enc) : PB t k = (decide (u.enc.length ≤ 28) && sqB [] u) := by
  unfold PB
  rw [Bool.eq_iff_iff, decide_eq_true_iff, Bool.and_eq_true, decide_eq_true_iff, sqB_iff]
  constructor
  · rintro ⟨x, h1, h2, h3⟩
    have : x = u := enc_inj (h1.symm.trans h)
    subst this
    exact ⟨h2, h3⟩
  · exact fun h2 => ⟨u, h, h2.1, h2.2⟩
theorem least (Q : Nat → Bool) : ∀ n, ∃ b, b ≤ n ∧ (∀ k, k < b → Q k = false) ∧ (b < n → Q b = true)
  | 0 => ⟨0, Nat.le_refl _, fun k h => by omega, fun h => by omega⟩
  | n + 1 => by
    obtain ⟨b, h1, h2, h3⟩ := least Q n
    by_cases hb : b < n
    · exact ⟨b, by omega, h2, fun _ => h3 hb⟩
    · have e : b = n := by omega
      subst e
      cases hq : Q b
      · exact ⟨b + 1, Nat.le_refl _, fun k hk => by
          by_cases e : k = b
          · rw [e]; exact hq
          · exact h2 k (by omega), fun h => by omega⟩
      · exact ⟨b, by omega, h2, fun _ => hq⟩
/-- the least mask, if there is one -/
def Best (t : Fm) (m b : Nat) : Prop := b ≤ 64 ∧ (∀ k, k < b → k &&& m = k → PB t k = false) ∧ (b < 64 → b &&& m = b ∧ PB t b = true)
theorem best_ex (t : Fm) (m : Nat) : ∃ b, Best t m b := by
  obtain ⟨b, h1, h2, h3⟩ := least (fun k => decide (k &&& m = k) && PB t k) 64
  refine ⟨b, h1, fun k hk hs => ?_, fun hb => ?_⟩
  · have := h2 k hk
    simpa [hs] using this
  · have := h3 hb
    simpa using this
theorem ret_ii {a b c d : Int} (h : a = c) (h' : b = d) : Ending.returned (.tuple #[.int .i64 a, .int .i64 b]) = Ending.returned (.tuple #[.int .i64 c, .int .i64 d]) := by rw [h, h']
def pmX (b : Nat) : Int := if b < 64 then b else 0
def pmC (b : Nat) : Int := if b < 64 then 0 else 4
set_option maxRecDepth 20000 in
set_option maxHeartbeats 2000000 in
theorem implPM_ok (t : Fm) (ht : OkF t) (hl : t.enc.length ≤ 20) (he : plainErr t.enc = 0) (b : Nat) (hb : Best t (vm t.enc) b) (v : Value) (w : World) (hv : Nds w v t.enc) :
    Calls Tryz.prog 27 #[v] w fun e w' => e = .returned (.tuple #[.int .i64 (pmX b), .int .i64 (pmC b)]) ∧ Keeps w w' := by
  obtain ⟨p, n, cap, rfl⟩ := hv.shape
  have hnd := fm_nodes he
  have hm64 : vm t.enc < 64 := by have := vm_lt hnd t.enc.length (Nat.le_refl _); rwa [List.take_length] at this
  have h1 := smallFormulasCode_one t.enc (by omega) _ _ (NdsL.lit1 hv)
  rw [show smCode t.enc = 0 by unfold smCode; rw [if_pos he, if_neg (by omega)]] at h1
  have H1 := hid h1
  have k1 := (Keeps.refl w).alloc (.cells #[.slice p n cap] 26)
  have HV := hid (fun w2 (k : Keeps w w2) => variableMask_any t.enc _ w2 (hv.keeps k) hnd)
  have HM := hid (fun w2 => subMasks_any (vm t.enc) hm64 w2)
  have HLf := hid (fun s (hs : s < 64) w2 (k : Keeps w w2) => lifted_any t.enc s _ w2 (hv.keeps k) hnd (by omega) hs)
  have HSb := hid (fun s vi w2 (k : Keeps w w2) (hvi : NdsL w2 vi (liftL t.enc s)) => substitute_any (liftL t.enc s) t.enc _ vi w2 (hv.keeps k) hvi hnd (lift_trees t ht s).1 (by
    have h1 := sub_len (M := 22) (fun x hx => Nat.le_trans (lift_len t s x hx) (by omega)) (by omega) t.enc
    have h3 : 22 * t.enc.length ≤ 22 * 20 := Nat.mul_le_mul_left _ hl
    omega))
  have HLL := hid (fun s => (show tot (liftL t.enc s) ≤ 2147483648 ∧ (liftL t.enc s).length ≤ 2147483648 by
    have h1 := tot_most (liftL t.enc s) 22 (fun x hx => Nat.le_trans (lift_len t s x hx) (by omega))
    have h2 := (lift_trees t ht s).1
    omega))
  have HSL := hid (fun s => (show (sub (liftL t.enc s) t.enc).length ≤ 440 by
    have h1 := sub_len (M := 22) (fun x hx => Nat.le_trans (lift_len t s x hx) (by omega)) (by omega) t.enc
    have h3 : 22 * t.enc.length ≤ 22 * 20 := Nat.mul_le_mul_left _ hl
    omega))
  have HTr := hid (fun s => sub_trees (lift_trees t ht s) t ht)
  generalize hvm : vm t.enc = m at *
  have HBt := hid hb
  have hmem : ∀ j (h : j < (subs m).length), (subs m)[j] < 64 ∧ (subs m)[j] &&& m = (subs m)[j] := fun j h => subs_mem.1 (List.getElem_mem h)
  have HMem := hid hmem
  clear h1 hv he hb hnd hmem hvm
  go_enter Tryz.func27, Tryz.ntmps27
  go_wp2_with fail
  refine H1.out.mono ?_; rintro e w2 ⟨rfl, k2⟩
  go_wp2_with fail
  refine (HV.out w2 (k1.trans k2)).mono ?_; rintro e w3 ⟨rfl, k3⟩
  go_wp2_with fail
  refine (HM.out w3).mono ?_; rintro e w4 ⟨v4, rfl, hv4, k4⟩
  have k04 := ((k1.trans k2).trans k3).trans k4
  obtain ⟨pm, cm, rfl, hlm, hcm, hat⟩ := At.of_own hv4
  obtain ⟨ln, hln⟩ : ∃ ln, ln = (subs m).length := ⟨_, rfl⟩
  have hml : ((subs m).map Int.ofNat).length = ln := by simp [hln]
  rw [hml] at hlm ⊢
  have hlb : ln ≤ 64 := by rw [hln]; exact (subs_len ⟨m, hm64⟩).2.1
  unfold maxLen at hcm
  have HAT := hid hat
  have HLN := hid hln
  clear hat hv4 hln hml
  go_wp2_with fail
  go_loopw [18] (fun i' wr => ∃ j : Nat, j ≤ ln ∧ i' = .int .i64 j ∧ Keeps w4 wr ∧ Hid (∀ i (h : i < (subs m).length), i < j → (subs m)[i] ≠ b)) (fun i' _ => ln - (intOf i').toNat)
  case atStart => exact ⟨0, by omega, rfl, Keeps.refl _, hid (fun i h hi => by omega)⟩
  case round =>
    obtain ⟨j, hj, rfl, kr, hno⟩ := hrel
    by_cases hlt : j < ln
    · have hlt' : (j : Int) < ln := by omega
      have hjs : j < (subs m).length := by have := HLN.out; omega
      obtain ⟨b0, off, rfl, hc⟩ := HAT.out.int j (by simpa using hjs)
      replace hc := kr.cell hc
      obtain ⟨s, hs⟩ : ∃ s, s = (subs m)[j] := ⟨_, rfl⟩
      have hcs : (((subs m).map Int.ofNat)[j]'(by simpa using hjs)) = (s : Int) := by simp [hs]
      rw [hcs] at hc
      obtain ⟨hs64, hsm⟩ := HMem.out j hjs
      rw [← hs] at hs64 hsm
      obtain ⟨u, hu, hok⟩ := HTr.out s
      have hPB := PB_eq hu
      have kwr := k04.trans kr
      have HSs := hid hs
      have HSU := hid (show u.enc.length ≤ 440 by rw [← hu]; exact HSL.out s)
      have hsb := HSb.out s
      rw [hu] at hsb
      have HSB := hid hsb
      have hlf := hid (HLf.out s hs64 wr kwr)
      clear hs hsb hcs
      -- what the mask is
      have hcase : (u.enc.length ≤ 28 ∧ sqB [] u = true ∧ s = b) ∨ ((¬ u.enc.length ≤ 28 ∨ sqB [] u = false) ∧ s ≠ b) := by
        obtain ⟨hb1, hb2, hb3⟩ := HBt.out
        by_cases e : s = b
        · left
          subst e
          have h2 := (hb3 hs64).2
          rw [hPB, Bool.and_eq_true, decide_eq_true_iff] at h2
          exact ⟨h2.1, h2.2, rfl⟩
        · right
          refine ⟨?_, e⟩
          have hlt2 : s < b := by
            rcases Nat.lt_or_ge s b with h | h
            · exact h
            · exfalso
              have hb64 : b < 64 := by omega
              obtain ⟨i, hi, e2⟩ := List.getElem_of_mem (subs_mem.2 ⟨hb64, (hb3 hb64).1⟩)
              rcases Nat.lt_or_ge i j with h3 | h3
              · exact hno.out i hi h3 e2
              · rcases Nat.lt_or_ge j i with h4 | h4
                · have := subs_lt h4 hi
                  rw [← HSs.out, e2] at this
                  omega
                · have : i = j := by omega
                  subst this
                  exact e (HSs.out.trans e2)
          have h2 := hb2 s hlt2 hsm
          rw [hPB, Bool.and_eq_false_iff, decide_eq_false_iff_not] at h2
          exact h2
      have HCase := hid hcase
      clear hcase hPB hu hsm
      go_wp2_with fail
      refine hlf.out.mono ?_; rintro e w5 ⟨v5, rfl, hv5, k5⟩
      have hL5 := hv5.ndsL (HLL.out s).2 (HLL.out s).1
      obtain ⟨p5, n5, c5, rfl⟩ := NdsL.shapeL hL5
      have hsub := hid (HSB.out _ w5 (kwr.trans k5) hL5)
      clear hv5 hL5
      go_wp2_with fail
      refine hsub.out.mono ?_; rintro e w6 ⟨v6, rfl, hv6, k6⟩
      have hn6 := hv6.nds (by have := HSU.out; omega)
      obtain ⟨p6, n6, c6, rfl⟩ := hn6.shape
      have hn6l := hn6.lenIs
      have kw6 := (kwr.trans k5).trans k6
      have kr6 := (kr.trans k5).trans k6
      have HN6 := hid hn6
      have HNL := hid hn6l
      clear hn6 hv6 hn6l
      by_cases h28 : u.enc.length ≤ 28
      · have h28' : (n6 : Int) ≤ 28 := by have := HNL.out; omega
        have HT := hid (isTheorem_28 u hok h28 _ w6 HN6.out)
        rcases HCase.out with ⟨_, hs2, hsb2⟩ | ⟨hs2, hsb2⟩
        · rw [hs2] at HT
          clear hs2
          have hx : pmX b = s ∧ pmC b = 0 := by rw [← hsb2]; simp [pmX, pmC, hs64]
          have HXb := hid hx
          clear hx hsb2
          go_wp2_with fail
          refine HT.out.mono ?_; rintro e w7 ⟨rfl, k7⟩
          go_wp2_with fail
          go_ret2
          exact ⟨ret_ii HXb.out.1.symm HXb.out.2.symm, kw6.trans k7⟩
        · have hs3 : sqB [] u = false := hs2.resolve_left (fun h => h h28)
          rw [hs3] at HT
          clear hs3 hs2
          have HNe := hid hsb2
          clear hsb2
          go_wp2_with fail
          refine HT.out.mono ?_; rintro e w7 ⟨rfl, k7⟩
          go_wp2
          go_roundw
          case rel =>
            refine ⟨j + 1, by omega, by go_num, kr6.trans k7, hid (fun i h hi => ?_)⟩
            by_cases e : i = j
            · subst e; rw [← HSs.out]; exact HNe.out
            · exact hno.out i h (by omega)
          case measure => simp [intOf]; omega
      · have h28' : ¬ (n6 : Int) ≤ 28 := by have := HNL.out; omega
        have hne : s ≠ b := by
          rcases HCase.out with ⟨h, _⟩ | ⟨_, h⟩
          · exact absurd h h28
          · exact h
        have HNe := hid hne
        clear hne
        go_wp2
        go_roundw
        case rel =>
          refine ⟨j + 1, by omega, by go_num, kr6, hid (fun i h hi => ?_)⟩
          by_cases e : i = j
          · subst e; rw [← HSs.out]; exact HNe.out
          · exact hno.out i h (by omega)
        case measure => simp [intOf]; omega
    · have hj2 : j = ln := by omega
      have hlt' : ¬ ((j : Int) < ln) := by omega
      have hb64 : ¬ b < 64 := fun h => by
        obtain ⟨i, hi, e2⟩ := List.getElem_of_mem (subs_mem.2 ⟨h, (HBt.out.2.2 h).1⟩)
        exact hno.out i hi (by have := HLN.out; omega) e2
      have hx : pmX b = 0 ∧ pmC b = 4 := by simp [pmX, pmC, hb64]
      have HXb := hid hx
      clear hx hj2 hb64
      go_wp2
      go_ret2
      exact ⟨ret_ii HXb.out.1.symm HXb.out.2.symm, k04.trans kr⟩
end Go.Proofs.YtajjlnonmaghlaaGreat
/- ProjectiveMask: the reference's side, and both together. -/
namespace Go.Proofs.YtajjlnonmaghlaaGreat
open Go.RowKit
set_option maxRecDepth 20000 in
set_option maxHeartbeats 4000000 in
theorem specPM_ok (t : Fm) (ht : OkF t) (hl : t.enc.length ≤ 20) (he : plainErr t.enc = 0) (b : Nat) (hb : Best t (vm t.enc) b) (v : Value) (w : World) (hv : Nds w v t.enc) :
    Calls Tryz.prog 26 #[v] w fun e w' => e = .returned (.tuple #[.int .i64 (pmX b), .int .i64 (pmC b)]) ∧ Keeps w w' := by
  obtain ⟨p, n, cap, rfl⟩ := hv.shape
  have hnl := hv.lenIs
  have hn20 : ¬ (20 : Int) < n := by omega
  have hn1 : n ≤ 1000 := by omega
  clear hnl
  have hnd := fm_nodes he
  have hm64 : vm t.enc < 64 := by have := vm_lt hnd t.enc.length (Nat.le_refl _); rwa [List.take_length] at this
  have h1 := l31Plain_any [t.enc] _ _ (NdsL.lit1 hv)
  rw [plainErrs_one, he] at h1
  have H1 := hid h1
  have k1 := (Keeps.refl w).alloc (.cells #[.slice p n cap] 26)
  have HV := hid (fun w2 (k : Keeps w w2) => l02Variables_any t.enc _ w2 (hv.keeps k) hnd)
  have HLf := hid (fun s (hs : s < 64) w2 (k : Keeps w w2) => l31Lift_any t.enc s _ w2 (hv.keeps k) hnd (by omega) hs)
  have HSb := hid (fun s vi w2 (k : Keeps w w2) (hvi : NdsL w2 vi (liftL t.enc s)) => l03Sub_any (liftL t.enc s) t.enc _ vi w2 (hv.keeps k) hvi hnd (lift_trees t ht s).1 (by
    have h1 := sub_len (M := 22) (fun x hx => Nat.le_trans (lift_len t s x hx) (by omega)) (by omega) t.enc
    have h3 : 22 * t.enc.length ≤ 22 * 20 := Nat.mul_le_mul_left _ hl
    omega))
  have HLL := hid (fun s => (show tot (liftL t.enc s) ≤ 2147483648 ∧ (liftL t.enc s).length ≤ 2147483648 by
    have h1 := tot_most (liftL t.enc s) 22 (fun x hx => Nat.le_trans (lift_len t s x hx) (by omega))
    have h2 := (lift_trees t ht s).1
    omega))
  have HSL := hid (fun s => (show (sub (liftL t.enc s) t.enc).length ≤ 440 by
    have h1 := sub_len (M := 22) (fun x hx => Nat.le_trans (lift_len t s x hx) (by omega)) (by omega) t.enc
    have h3 : 22 * t.enc.length ≤ 22 * 20 := Nat.mul_le_mul_left _ hl
    omega))
  have HTr := hid (fun s => sub_trees (lift_trees t ht s) t ht)
  generalize hvm : vm t.enc = m at *
  have HBt := hid hb
  have HOr := hid (orL_table ⟨m, hm64⟩)
  have HAn := hid (fun k (hk : k < 64) => andNot_table ⟨k, hk⟩ ⟨m, hm64⟩)
  have hmr := hid (mem_range m)
  have hml6 : (mem m).length ≤ 6 := low_len m 6
  clear h1 hv he hb hnd hvm
  go_enter Tryz.func26, Tryz.ntmps26
  go_wp2_with fail
  refine H1.out.mono ?_; rintro e w2 ⟨rfl, rfl⟩
  go_wp2_with fail
  refine (HV.out _ k1).mono ?_; rintro e w3 ⟨v3, rfl, hv3, k3⟩
  have k03 := k1.trans k3
  obtain ⟨pm, cm, rfl, hlm, hcm, hat⟩ := At.of_own hv3
  obtain ⟨ln, hln⟩ : ∃ ln, ln = (mem m).length := ⟨_, rfl⟩
  rw [← hln] at hlm ⊢
  unfold maxLen at hcm
  have hlb : ln ≤ 6 := by omega
  have HAT := hid hat
  have HLN := hid hln
  clear hat hv3 hln hml6
  go_wp2_with fail
  go_loopw [5, 7] (fun acc i' wr => ∃ j : Nat, j ≤ ln ∧ i' = .int .i64 j ∧ (∃ x : Int, acc = .int .i64 x ∧ Hid (x = orL ((mem m).take j))) ∧ wr = w3) (fun _ i' _ => ln - (intOf i').toNat)
  case atStart => exact ⟨0, by omega, rfl, ⟨0, rfl, hid (by simp [orL])⟩, rfl⟩
  case round =>
    obtain ⟨j, hj, rfl, ⟨x, rfl, hx⟩, hwr⟩ := hrel
    replace hwr := hwr.symm
    subst hwr
    by_cases hlt : j < ln
    · have hlt' : (j : Int) < ln := by omega
      have hjs : j < (mem m).length := by have := HLN.out; omega
      obtain ⟨b0, off, rfl, hc⟩ := HAT.out.int j hjs
      obtain ⟨y, hy, hy2⟩ := hmr.out (mem m)[j] (List.getElem_mem hjs)
      rw [hy2] at hc
      have HO := hid (l01One_any (y : Int) w3 (by omega) (by omega))
      have hsn := hid (show orL ((mem m).take (j + 1)) = bits .or .i64 x (2 ^ ((y : Int)).toNat) by
        rw [List.take_succ_eq_append_getElem hjs, orL_snoc, hx.out, hy2])
      clear hy2
      go_wp2_with fail
      refine HO.out.mono ?_; rintro e w4 ⟨rfl, rfl⟩
      go_wp2
      go_roundw
      case rel => exact ⟨j + 1, by omega, by go_num, ⟨_, rfl, hid hsn.out.symm⟩, trivial⟩
      case measure => simp [intOf]; omega
    · have hj2 : j = ln := by omega
      have hlt' : ¬ ((j : Int) < ln) := by omega
      have hxm : x = (m : Int) := by
        rw [hx.out, hj2, HLN.out, List.take_length]
        exact HOr.out
      subst hxm
      clear hx hj2
      go_wp2_with fail
      go_loopw [8] (fun i' w5 => ∃ k : Nat, k ≤ m + 1 ∧ i' = .int .i64 k ∧ Keeps w3 w5 ∧ k ≤ b) (fun i' _ => m + 1 - (intOf i').toNat)
      case atStart => exact ⟨0, by omega, rfl, Keeps.refl _, by omega⟩
      case round =>
        obtain ⟨k, hk, rfl, kr, hkb⟩ := hrel
        by_cases hkm : k ≤ m
        · have hkm' : (k : Int) ≤ m := by omega
          have hk64 : k < 64 := by omega
          have han := HAn.out k hk64
          by_cases hsub : k &&& m = k
          · rw [decide_eq_true hsub] at han
            have HAN := hid han
            have han' : (bits .andNot .i64 (k : Int) (m : Int) != 0) = false := by rw [HAN.out]; rfl
            obtain ⟨u, hu, hok⟩ := HTr.out k
            have hPB := PB_eq hu
            have kwr := k03.trans kr
            have HSU := hid (show u.enc.length ≤ 440 by rw [← hu]; exact HSL.out k)
            have hsb := HSb.out k
            rw [hu] at hsb
            have HSB := hid hsb
            have hlf := hid (HLf.out k hk64 wr kwr)
            have hcase : (u.enc.length ≤ 28 ∧ sqB [] u = true ∧ k = b) ∨ ((¬ u.enc.length ≤ 28 ∨ sqB [] u = false) ∧ k + 1 ≤ b) := by
              obtain ⟨hb1, hb2, hb3⟩ := HBt.out
              by_cases e : k = b
              · left
                subst e
                have h2 := (hb3 hk64).2
                rw [hPB, Bool.and_eq_true, decide_eq_true_iff] at h2
                exact ⟨h2.1, h2.2, rfl⟩
              · right
                have h2 := hb2 k (by omega) hsub
                rw [hPB, Bool.and_eq_false_iff, decide_eq_false_iff_not] at h2
                exact ⟨h2, by omega⟩
            have HCase := hid hcase
            clear hcase hPB hu hsb han hsub
            go_wp2_with fail
            refine hlf.out.mono ?_; rintro e w6 ⟨v6, rfl, hv6, k6⟩
            have hL6 := hv6.ndsL (HLL.out k).2 (HLL.out k).1
            obtain ⟨p6, n6, c6, rfl⟩ := NdsL.shapeL hL6
            have hsub := hid (HSB.out _ w6 (kwr.trans k6) hL6)
            clear hv6 hL6
            go_wp2_with fail
            refine hsub.out.mono ?_; rintro e w7 ⟨v7, rfl, hv7, k7⟩
            have hn7 := hv7.nds (by have := HSU.out; omega)
            obtain ⟨p7, n7, c7, rfl⟩ := hn7.shape
            have hn7l := hn7.lenIs
            have kw7 := (kwr.trans k6).trans k7
            have kr7 := (kr.trans k6).trans k7
            have HN7 := hid hn7
            have HNL := hid hn7l
            clear hn7 hv7 hn7l
            by_cases h28 : u.enc.length ≤ 28
            · have h28' : (n7 : Int) ≤ 28 := by have := HNL.out; omega
              have HT := hid (l31Theorem_28 u hok h28 _ w7 HN7.out)
              rcases HCase.out with ⟨_, hs2, hsb2⟩ | ⟨hs2, hsb2⟩
              · rw [hs2] at HT
                clear hs2
                have hx : pmX b = k ∧ pmC b = 0 := by rw [← hsb2]; simp [pmX, pmC, hk64]
                have HXb := hid hx
                clear hx hsb2
                go_wp2_with fail
                refine HT.out.mono ?_; rintro e w8 ⟨rfl, k8⟩
                go_wp2_with fail
                go_ret2
                exact ⟨ret_ii HXb.out.1.symm HXb.out.2.symm, kw7.trans k8⟩
              · have hs3 : sqB [] u = false := hs2.resolve_left (fun h => h h28)
                rw [hs3] at HT
                clear hs3 hs2
                go_wp2_with fail
                refine HT.out.mono ?_; rintro e w8 ⟨rfl, k8⟩
                go_wp2
                go_roundw
                case rel => exact ⟨k + 1, by omega, by go_num, kr7.trans k8, hsb2⟩
                case measure => simp [intOf]; omega
            · have h28' : ¬ (n7 : Int) ≤ 28 := by have := HNL.out; omega
              have hne : k + 1 ≤ b := by
                rcases HCase.out with ⟨h, _⟩ | ⟨_, h⟩
                · exact absurd h h28
                · exact h
              go_wp2
              go_roundw
              case rel => exact ⟨k + 1, by omega, by go_num, kr7, hne⟩
              case measure => simp [intOf]; omega
          · rw [decide_eq_false hsub] at han
            have HAN := hid han
            have han' : (bits .andNot .i64 (k : Int) (m : Int) != 0) = true := by rw [HAN.out]; rfl
            have hne : k + 1 ≤ b := by
              by_cases e : k = b
              · exfalso
                subst e
                exact hsub (HBt.out.2.2 hk64).1
              · omega
            clear han hsub
            go_wp2
            go_roundw
            case rel => exact ⟨k + 1, by omega, by go_num, kr, hne⟩
            case measure => simp [intOf]; omega
        · have hkm' : ¬ ((k : Int) ≤ m) := by omega
          have hb64 : ¬ b < 64 := fun h => by
            have h1 := (HBt.out.2.2 h).1
            have h2 : b ≤ m := by rw [← h1]; exact Nat.and_le_right
            omega
          have hx : pmX b = 0 ∧ pmC b = 4 := by simp [pmX, pmC, hb64]
          have HXb := hid hx
          clear hx hb64
          go_wp2
          go_ret2
          exact ⟨ret_ii HXb.out.1.symm HXb.out.2.symm, k03.trans kr⟩
/-- both sides answer x and c -/
def BothInt (S I : FuncId) (a : List Nd) (x c : Int) : Prop :=
  (∀ (v : Value) (w : World), Nds w v a → Calls Tryz.prog S #[v] w (fun e w' => e = .returned (.tuple #[.int .i64 x, .int .i64 c]) ∧ Keeps w w')) ∧
  (∀ (v : Value) (w : World), Nds w v a → Calls Tryz.prog I #[v] w (fun e w' => e = .returned (.tuple #[.int .i64 x, .int .i64 c]) ∧ Keeps w w'))
set_option maxRecDepth 20000 in
set_option maxHeartbeats 1000000 in
theorem bothPM (a : List Nd) (hla : a.length ≤ 1048576) : ∃ x c, BothInt 26 27 a x c := by
  by_cases h : plainErr a = 0
  · obtain ⟨t, hw, rfl, hp, _⟩ := plain_tree h
    by_cases h20 : 20 < t.enc.length
    · refine ⟨0, 3, fun v w hv => ?_, fun v w hv => ?_⟩
      · obtain ⟨p, n, cap, rfl⟩ := hv.shape
        have hnl := hv.lenIs
        have hn20 : (20 : Int) < n := by omega
        have hn1 : n ≤ 1048576 := by omega
        have h1 := l31Plain_any [t.enc] _ _ (NdsL.lit1 hv)
        rw [plainErrs_one, h] at h1
        have H1 := hid h1
        have k1 := (Keeps.refl w).alloc (.cells #[.slice p n cap] 26)
        clear hnl h1 hv h
        go_enter Tryz.func26, Tryz.ntmps26
        go_wp2_with fail
        refine H1.out.mono ?_; rintro e w2 ⟨rfl, rfl⟩
        go_wp2_with fail
        go_ret2
        exact ⟨rfl, k1⟩
      · obtain ⟨p, n, cap, rfl⟩ := hv.shape
        have h1 := smallFormulasCode_one t.enc hla _ _ (NdsL.lit1 hv)
        rw [show smCode t.enc = 3 by unfold smCode; rw [if_pos h, if_pos h20]] at h1
        have H1 := hid h1
        have k1 := (Keeps.refl w).alloc (.cells #[.slice p n cap] 26)
        clear h1 hv h
        go_enter Tryz.func27, Tryz.ntmps27
        go_wp2_with fail
        refine H1.out.mono ?_; rintro e w2 ⟨rfl, k2⟩
        go_wp2_with fail
        go_ret2
        exact ⟨rfl, k1.trans k2⟩
    · obtain ⟨b, hb⟩ := best_ex t (vm t.enc)
      exact ⟨_, _, fun v w hv => specPM_ok t ⟨hw, hp⟩ (by omega) h b hb v w hv, fun v w hv => implPM_ok t ⟨hw, hp⟩ (by omega) h b hb v w hv⟩
  · have h' : (plainErr a != 0) = true := by simp [h]
    refine ⟨0, plainErr a, fun v w hv => ?_, fun v w hv => ?_⟩
    · obtain ⟨p, n, cap, rfl⟩ := hv.shape
      have h1 := l31Plain_any [a] _ _ (NdsL.lit1 hv)
      rw [plainErrs_one] at h1
      have H1 := hid h1
      have H := hid h
      have k1 := (Keeps.refl w).alloc (.cells #[.slice p n cap] 26)
      clear h1 hv h
      go_enter Tryz.func26, Tryz.ntmps26
      go_wp2_with fail
      refine H1.out.mono ?_; rintro e w2 ⟨rfl, rfl⟩
      go_wp2_with fail
      go_ret2
      exact ⟨rfl, k1⟩
    · obtain ⟨p, n, cap, rfl⟩ := hv.shape
      have h1 := smallFormulasCode_one a hla _ _ (NdsL.lit1 hv)
      rw [show smCode a = plainErr a by unfold smCode; rw [if_neg h]] at h1
      have H1 := hid h1
      have k1 := (Keeps.refl w).alloc (.cells #[.slice p n cap] 26)
      clear h1 hv h
      go_enter Tryz.func27, Tryz.ntmps27
      go_wp2_with fail
      refine H1.out.mono ?_; rintro e w2 ⟨rfl, k2⟩
      go_wp2_with fail
      go_ret2
      exact ⟨rfl, k1.trans k2⟩
end Go.Proofs.YtajjlnonmaghlaaGreat
