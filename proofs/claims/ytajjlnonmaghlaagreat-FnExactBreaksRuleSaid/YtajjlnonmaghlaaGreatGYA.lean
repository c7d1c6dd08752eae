/- GlivenkoTheorem and IsClassicalKind: both sides answer alike. -/
import Derived.Test.YtajjlnonmaghlaaGreatGY3
import Derived.Test.YtajjlnonmaghlaaGreatGU4
import Derived.Test.YtajjlnonmaghlaaGreatGT1
import Derived.Test.YtajjlnonmaghlaaGreatGY7
import Derived.Test.YtajjlnonmaghlaaGreatGSJ
import Derived.Test.YtajjlnonmaghlaaGreatGVJ0
import Derived.Test.YtajjlnonmaghlaaGreatGN1
import Derived.Test.YtajjlnonmaghlaaGreatGW7
import Derived.Deep.RegionHeld3
namespace Go.Proofs.YtajjlnonmaghlaaGreat
open Go.RowKit
/-- both sides answer b and c -/
def BothOne (S I : FuncId) (a : List Nd) (b : Bool) (c : Int) : Prop :=
  (∀ (v : Value) (w : World), Nds w v a → Calls Tryz.prog S #[v] w (fun e w' => e = .returned (.tuple #[.bool b, .int .i64 c]) ∧ Keeps w w')) ∧
  (∀ (v : Value) (w : World), Nds w v a → Calls Tryz.prog I #[v] w (fun e w' => e = .returned (.tuple #[.bool b, .int .i64 c]) ∧ Keeps w w'))
theorem pow20 {n : Nat} (h : n ≤ 20) : 2 ^ n ≤ 1048576 := Nat.le_trans (Nat.pow_le_pow_right (by omega) h) (by decide)
theorem OkF.not {t : Fm} (h : OkF t) : OkF t.not := OkF.mkImp h okF_fls
--
set_option maxRecDepth 20000 in
set_option maxHeartbeats 1000000 in
theorem bothGlivenko (a : List Nd) : ∃ b c, BothOne 10 12 a b c := by
  by_cases h : plainErr a = 0
  · obtain ⟨t, hw, rfl, hp, hl⟩ := plain_tree h
    refine ⟨smallB (t.enc.length + 4) [] t.not.not, smallE (t.enc.length + 4), fun v w hv => specGlivenko_ok t hp h (by omega) v w hv, fun v w hv => ?_⟩
    have hok : OkF t := ⟨hw, hp⟩
    obtain ⟨p, n, cap, rfl⟩ := hv.shape
    have hne := plainCode_any [t.enc] _ _ (NdsL.lit1 hv)
    rw [plainErrs_one, h] at hne
    have HN := hid hne; clear hne h
    have k1 := (Keeps.refl w).alloc (.cells #[.slice p n cap] 26)
    have hlen := hid (show t.not.not.enc.length = t.enc.length + 4 by rw [not_len, not_len])
    by_cases hs : 20 < t.enc.length + 4
    · rw [show smallB (t.enc.length + 4) [] t.not.not = false from by simp [smallB]; omega, show smallE (t.enc.length + 4) = 3 from by simp [smallE]; omega]
      have HD := hid (fun w2 (k : Keeps w w2) => doubleNegation_any t _ w2 (hv.keeps k) (by omega))
      go_enter Tryz.func12, Tryz.ntmps12
      go_wp2_with fail
      refine HN.out.mono ?_; rintro e w2 ⟨rfl, k2⟩
      go_wp2_with fail
      refine (HD.out w2 (k1.trans k2)).mono ?_; rintro e w3 ⟨v3, rfl, hv3, k3⟩
      have hn3 : Nds w3 v3 t.not.not.enc := hv3.nds (by rw [show (Fm.not (Fm.not t)).enc.length = _ from hlen.out]; omega)
      obtain ⟨p3, n3, c3, rfl⟩ := hn3.shape
      have hnn := hn3.lenIs
      have hbig : (20 : Int) < n3 := by rw [hnn, hlen.out]; omega
      clear hnn
      go_wp2_with fail
      go_ret2
      exact ⟨rfl, (k1.trans k2).trans k3⟩
    · rw [show smallB (t.enc.length + 4) [] t.not.not = sqB [] t.not.not from by simp [smallB]; omega, show smallE (t.enc.length + 4) = 0 from by simp [smallE]; omega]
      have hwt : wts [] + wt t.not.not ≤ 50000000 := by
        have h1 := wt_le_pow t.not.not
        have h2 := pow20 (n := t.not.not.enc.length) (by rw [hlen.out]; omega)
        simp only [wts]; omega
      have HD := hid (fun w2 (k : Keeps w w2) => doubleNegation_any t _ w2 (hv.keeps k) (by omega))
      have HT := hid (fun v w2 (hv : Nds w2 v t.not.not.enc) => text_any t.not.not hok.not.not.1 (by rw [hlen.out]; omega) v w2 hv)
      have HP := hid (fun s (hs : bts s = t.not.not.body) w2 => provable_any [] t.not.not okL_nil hok.not.not hwt s (.slice none 0 0) w2 (Left.nil w2) hs)
      clear hwt
      go_enter Tryz.func12, Tryz.ntmps12
      go_wp2_with fail
      refine HN.out.mono ?_; rintro e w2 ⟨rfl, k2⟩
      go_wp2_with fail
      refine (HD.out w2 (k1.trans k2)).mono ?_; rintro e w3 ⟨v3, rfl, hv3, k3⟩
      have hn3 : Nds w3 v3 t.not.not.enc := hv3.nds (by rw [show (Fm.not (Fm.not t)).enc.length = _ from hlen.out]; omega)
      obtain ⟨p3, n3, c3, rfl⟩ := hn3.shape
      have hnn := hn3.lenIs
      have hbig : ¬ (20 : Int) < n3 := by rw [hnn, hlen.out]; omega
      have HN3 := hid hn3
      clear hnn hn3
      go_wp2_with fail
      refine (HT.out _ w3 HN3.out).mono ?_; rintro e w4 ⟨s, rfl, hs4, k4⟩
      go_wp2_with fail
      refine (HP.out s hs4 w4).mono ?_; rintro e w5 ⟨rfl, k5⟩
      go_wp2_with fail
      go_ret2
      exact ⟨rfl, (((k1.trans k2).trans k3).trans k4).trans k5⟩
  · have h' : (plainErr a != 0) = true := by simp [h]
    have H := hid h; clear h
    refine ⟨false, plainErr a, fun v w hv => ?_, fun v w hv => ?_⟩
    · go_enter Tryz.func10, Tryz.ntmps10
      go_wp2_with (go_at_call 30; refine (l29Code_any _ _ _ hv).mono ?_; rintro e w' ⟨rfl, rfl⟩)
      go_ret2
      exact ⟨rfl, Keeps.refl _⟩
    · obtain ⟨p, n, cap, rfl⟩ := hv.shape
      have hne := plainCode_any [a] _ _ (NdsL.lit1 hv)
      rw [plainErrs_one] at hne
      have HN := hid hne; clear hne
      have k1 := (Keeps.refl w).alloc (.cells #[.slice p n cap] 26)
      go_enter Tryz.func12, Tryz.ntmps12
      go_wp2_with (go_at_call 34; refine HN.out.mono ?_; rintro e w2 ⟨rfl, k2⟩)
      go_ret2
      exact ⟨rfl, k1.trans k2⟩
--
theorem sq_notnot (t : Fm) : Sq [t] t.not.not := by
  intro M w hw u hu h
  exact h u (M.refl u) (M.up t _ _ hu (hw t (by simp)))
set_option maxRecDepth 20000 in
set_option maxHeartbeats 1000000 in
theorem bothClassicalKind (a : List Nd) : ∃ b c, BothOne 14 15 a b c := by
  by_cases h : plainErr a = 0
  · obtain ⟨t, hw, rfl, hp, hl⟩ := plain_tree h
    refine ⟨smallB (2 * t.enc.length + 4) [t.not.not] t, smallE (2 * t.enc.length + 4), fun v w hv => specClassicalKind_ok t hp h (by omega) v w hv, fun v w hv => ?_⟩
    have hok : OkF t := ⟨hw, hp⟩
    obtain ⟨p, n, cap, rfl⟩ := hv.shape
    have hne := plainCode_any [t.enc] _ _ (NdsL.lit1 hv)
    rw [plainErrs_one, h] at hne
    have HN := hid hne; clear hne h
    have k1 := (Keeps.refl w).alloc (.cells #[.slice p n cap] 26)
    have hlen := hid (show t.not.not.enc.length = t.enc.length + 4 by rw [not_len, not_len])
    have hnl := hid hv.lenIs
    by_cases hs : 20 < 2 * t.enc.length + 4
    · rw [show smallB (2 * t.enc.length + 4) [t.not.not] t = false from by simp [smallB]; omega, show smallE (2 * t.enc.length + 4) = 3 from by simp [smallE]; omega]
      have HD := hid (fun w2 (k : Keeps w w2) => doubleNegation_any t _ w2 (hv.keeps k) (by omega))
      go_enter Tryz.func15, Tryz.ntmps15
      go_wp2_with fail
      refine HN.out.mono ?_; rintro e w2 ⟨rfl, k2⟩
      go_wp2_with fail
      refine (HD.out w2 (k1.trans k2)).mono ?_; rintro e w3 ⟨v3, rfl, hv3, k3⟩
      have hn3 : Nds w3 v3 t.not.not.enc := hv3.nds (by rw [show (Fm.not (Fm.not t)).enc.length = _ from hlen.out]; omega)
      obtain ⟨p3, n3, c3, rfl⟩ := hn3.shape
      have hnn := hn3.lenIs
      have hbig : (20 : Int) < (n : Int) + n3 := by have := hnl.out; rw [hnn, hlen.out]; omega
      have hb1 : n ≤ 1000 := by have := hnl.out; omega
      have hb2 : n3 ≤ 1000 := by rw [hnn, hlen.out]; omega
      clear hnn
      go_wp2_with fail
      go_ret2
      exact ⟨rfl, (k1.trans k2).trans k3⟩
    · rw [show smallB (2 * t.enc.length + 4) [t.not.not] t = sqB [t.not.not] t from by simp [smallB]; omega, show smallE (2 * t.enc.length + 4) = 0 from by simp [smallE]; omega]
      have hwt : wt t + wt t.not.not ≤ 50000000 := by
        have h1 := wt_le_pow t.not.not
        have h2 := pow20 (n := t.not.not.enc.length) (by rw [hlen.out]; omega)
        have h3 := wt_le_pow t
        have h4 := pow20 (n := t.enc.length) (by omega)
        omega
      have HD := hid (fun w2 (k : Keeps w w2) => doubleNegation_any t _ w2 (hv.keeps k) (by omega))
      have HE := hid (fun v3 w2 (k : Keeps w w2) (h3 : Nds w2 v3 t.not.not.enc) => equivalent_any t t.not.not hok hok.not.not hwt _ v3 w2 (hv.keeps k) h3)
      rw [sqB_true (sq_notnot t), Bool.true_and] at HE
      clear hwt
      go_enter Tryz.func15, Tryz.ntmps15
      go_wp2_with fail
      refine HN.out.mono ?_; rintro e w2 ⟨rfl, k2⟩
      go_wp2_with fail
      refine (HD.out w2 (k1.trans k2)).mono ?_; rintro e w3 ⟨v3, rfl, hv3, k3⟩
      have hn3 : Nds w3 v3 t.not.not.enc := hv3.nds (by rw [show (Fm.not (Fm.not t)).enc.length = _ from hlen.out]; omega)
      obtain ⟨p3, n3, c3, rfl⟩ := hn3.shape
      have hnn := hn3.lenIs
      have hbig : ¬ (20 : Int) < (n : Int) + n3 := by have := hnl.out; rw [hnn, hlen.out]; omega
      have hb1 : n ≤ 1000 := by have := hnl.out; omega
      have hb2 : n3 ≤ 1000 := by rw [hnn, hlen.out]; omega
      have HN3 := hid hn3
      clear hnn hn3
      go_wp2_with fail
      refine (HE.out _ w3 ((k1.trans k2).trans k3) HN3.out).mono ?_; rintro e w4 ⟨rfl, k4⟩
      go_wp2_with fail
      go_ret2
      exact ⟨rfl, ((k1.trans k2).trans k3).trans k4⟩
  · have h' : (plainErr a != 0) = true := by simp [h]
    have H := hid h; clear h
    refine ⟨false, plainErr a, fun v w hv => ?_, fun v w hv => ?_⟩
    · go_enter Tryz.func14, Tryz.ntmps14
      go_wp2_with (go_at_call 30; refine (l29Code_any _ _ _ hv).mono ?_; rintro e w' ⟨rfl, rfl⟩)
      go_ret2
      exact ⟨rfl, Keeps.refl _⟩
    · obtain ⟨p, n, cap, rfl⟩ := hv.shape
      have hne := plainCode_any [a] _ _ (NdsL.lit1 hv)
      rw [plainErrs_one] at hne
      have HN := hid hne; clear hne
      have k1 := (Keeps.refl w).alloc (.cells #[.slice p n cap] 26)
      go_enter Tryz.func15, Tryz.ntmps15
      go_wp2_with (go_at_call 34; refine HN.out.mono ?_; rintro e w2 ⟨rfl, k2⟩)
      go_ret2
      exact ⟨rfl, k1.trans k2⟩
end Go.Proofs.YtajjlnonmaghlaaGreat
/- UnifiesFormula: both sides answer alike. -/
namespace Go.Proofs.YtajjlnonmaghlaaGreat
open Go.RowKit
/-- a substitution of plain formulas makes a plain formula of a plain formula -/
theorem sub_fm {ims : List (List Nd)} (hs : isSub ims = true) (hp : allPlainL ims = false) : ∀ t : Fm, OkF t → ∃ u, sub ims t.enc = u.enc ∧ OkF u := by
  have hs' := hs
  simp only [isSub, Bool.and_eq_true, decide_eq_true_eq] at hs'
  have hall : ∀ x ∈ ims, plainErr x = 0 := fun x hx => by
    have h1 := allFm_all hs'.1 x hx
    have h2 : plainL x = true := by
      simp only [allPlainL, List.any_eq_false, Bool.not_eq_true', Bool.not_eq_false] at hp
      exact hp x hx
    simp [plainErr, h1, h2]
  intro t
  induction t with
  | var i =>
    intro ht
    have hi : i < ims.length := by have : i < 6 := ht.1; omega
    obtain ⟨u, hw, e, hpl, _⟩ := plain_tree (hall ims[i] (List.getElem_mem hi))
    refine ⟨u, ?_, hw, hpl⟩
    simp [Fm.enc, sub, subN, List.getD_eq_getElem?_getD, hi, e]
  | fls => intro _; exact ⟨.fls, by simp [Fm.enc, sub, subN], okF_fls⟩
  | and x y hx hy =>
    intro ht
    obtain ⟨u, h1, h2⟩ := hx (OkF.and ht).1
    obtain ⟨v, h3, h4⟩ := hy (OkF.and ht).2
    exact ⟨.and u v, by simp [Fm.enc, sub, subN, sub_append, h1, h3], ⟨h2.1, h4.1⟩, by simp [Fm.plain, h2.2, h4.2]⟩
  | or x y hx hy =>
    intro ht
    obtain ⟨u, h1, h2⟩ := hx (OkF.or ht).1
    obtain ⟨v, h3, h4⟩ := hy (OkF.or ht).2
    exact ⟨.or u v, by simp [Fm.enc, sub, subN, sub_append, h1, h3], ⟨h2.1, h4.1⟩, by simp [Fm.plain, h2.2, h4.2]⟩
  | imp x y hx hy =>
    intro ht
    obtain ⟨u, h1, h2⟩ := hx (OkF.imp ht).1
    obtain ⟨v, h3, h4⟩ := hy (OkF.imp ht).2
    exact ⟨.imp u v, by simp [Fm.enc, sub, subN, sub_append, h1, h3], ⟨h2.1, h4.1⟩, by simp [Fm.plain, h2.2, h4.2]⟩
  | box x _ => intro ht; exact absurd ht.2 (by simp [Fm.plain])
  | dia x _ => intro ht; exact absurd ht.2 (by simp [Fm.plain])
theorem NdsL.lit1N {w : World} {N : Nat} (hN : N = w.heap.size) {u : Value} {x : List Nd} (h : Nds w u x) : NdsL (w.alloc (.cells #[u] 26)) (.slice (some ⟨N, 0, none⟩) 1 1) [x] := by
  subst hN; exact NdsL.lit1 h
theorem fm_nodes {a : List Nd} (h : plainErr a = 0) : a.all okNd = true := by
  unfold plainErr at h
  split at h
  · rename_i hf
    exact (isFm_ok hf).1
  · cases h
theorem wt_small {c : Fm} (h : c.enc.length ≤ 20) : wt c ≤ 1048576 := Nat.le_trans (wt_le_pow c) (pow20 h)
set_option maxRecDepth 20000 in
theorem isTheorem_any (c : Fm) (hc : OkF c) (hl : c.enc.length ≤ 20) (v : Value) (w : World) (hv : Nds w v c.enc) :
    Calls Tryz.prog 48 #[v] w fun e w' => e = .returned (.bool (sqB [] c)) ∧ Keeps w w' := by
  have hwt := wt_small hl
  have HT := hid (text_any c hc.1 (by omega) v w hv)
  have HP := hid (fun s (hs : bts s = c.body) w2 => provable_any [] c okL_nil hc (by simp only [wts]; omega) s (.slice none 0 0) w2 (Left.nil w2) hs)
  clear hv
  go_enter Tryz.func48, Tryz.ntmps48
  go_wp2_with fail
  refine HT.out.mono ?_; rintro e w1 ⟨s, rfl, hs, k1⟩
  go_wp2_with fail
  refine (HP.out s hs w1).mono ?_; rintro e w2 ⟨rfl, k2⟩
  go_wp2_with fail
  go_ret
  exact ⟨rfl, k1.trans k2⟩
/-- both sides answer b and c -/
def BothTwo (S I : FuncId) (a : List Nd) (l : List (List Nd)) (b : Bool) (c : Int) : Prop :=
  (∀ (v u : Value) (w : World), Nds w v a → NdsL w u l → Calls Tryz.prog S #[v, u] w (fun e w' => e = .returned (.tuple #[.bool b, .int .i64 c]) ∧ Keeps w w')) ∧
  (∀ (v u : Value) (w : World), Nds w v a → NdsL w u l → Calls Tryz.prog I #[v, u] w (fun e w' => e = .returned (.tuple #[.bool b, .int .i64 c]) ∧ Keeps w w'))
theorem plainErr_range (a : List Nd) : plainErr a = 0 ∨ plainErr a = 1 ∨ plainErr a = 5 := by
  by_cases h : plainErr a = 0
  · exact .inl h
  · exact .inr (plainErr_ne h)
set_option maxRecDepth 20000 in
set_option maxHeartbeats 2000000 in
theorem unifies_err (a : List Nd) (ims : List (List Nd)) (h : imgErr (plainErr a) ims ≠ 0) : BothTwo 17 19 a ims false (imgErr (plainErr a) ims) := by
  have h' : (imgErr (plainErr a) ims != 0) = true := by simp [h]
  have H := hid h; clear h
  have HR := hid (plainErr_range a)
  refine ⟨fun v u w hv hu => ?_, fun v u w hv hu => ?_⟩
  · obtain ⟨p, n, q, rfl⟩ := hv.shape
    obtain ⟨p2, n2, q2, rfl⟩ := NdsL.shapeL hu
    have k1 := (Keeps.refl w).alloc (.cells #[.slice p n q] 26)
    have h1 := l31Plain_any [a] _ _ (NdsL.lit1 hv)
    rw [plainErrs_one] at h1
    have H1 := hid h1
    have H2 := hid (l31Images_any ims _ _ (hu.keeps k1))
    clear hv hu h1
    go_enter Tryz.func17, Tryz.ntmps17
    go_wp2_with fail
    refine H1.out.mono ?_; rintro e w2 ⟨rfl, rfl⟩
    go_wp2_with fail
    refine H2.out.mono ?_; rintro e w2 ⟨rfl, rfl⟩
    go_wp2_with fail
    refine (l31Both_any (plainErr a) ims _ HR.out).mono ?_; rintro e w2 ⟨rfl, rfl⟩
    go_wp2_with fail
    go_ret2
    exact ⟨rfl, k1⟩
  · obtain ⟨p, n, q, rfl⟩ := hv.shape
    obtain ⟨p2, n2, q2, rfl⟩ := NdsL.shapeL hu
    have k1 := (Keeps.refl w).alloc (.cells #[.slice p n q] 26)
    have h1 := plainCode_any [a] _ _ (NdsL.lit1 hv)
    rw [plainErrs_one] at h1
    have H1 := hid h1
    have H2 := hid (fun w2 (k : Keeps w w2) => imagesCode_any (plainErr a) ims _ w2 (hu.keeps k))
    clear hv hu h1
    go_enter Tryz.func19, Tryz.ntmps19
    go_wp2_with fail
    refine H1.out.mono ?_; rintro e w2 ⟨rfl, k2⟩
    go_wp2_with fail
    refine (H2.out w2 (k1.trans k2)).mono ?_; rintro e w3 ⟨rfl, k3⟩
    go_wp2_with fail
    go_ret2
    exact ⟨rfl, (k1.trans k2).trans k3⟩
set_option maxRecDepth 20000 in
set_option maxHeartbeats 2000000 in
theorem unifies_ok (t : Fm) (hl : t.enc.length ≤ 40) (he : plainErr t.enc = 0) (ims : List (List Nd)) (h : imgErr (plainErr t.enc) ims = 0) (u : Fm) (hu : sub ims t.enc = u.enc) (hok : OkF u) :
    BothTwo 17 19 t.enc ims (if 20 < u.enc.length then false else sqB [] u) (if 20 < u.enc.length then 3 else 0) := by
  obtain ⟨_, hs, hp⟩ := imgErr_zero h
  obtain ⟨h6, h40⟩ := isSub_facts hs
  have hnd := (fm_nodes he)
  have hlen : (sub ims t.enc).length ≤ 1600 := by
    have h1 := sub_len h40 (by omega) t.enc
    have h3 : 40 * t.enc.length ≤ 40 * 40 := Nat.mul_le_mul_left _ hl
    omega
  have hul : u.enc.length ≤ 1600 := by rw [← hu]; exact hlen
  have hmost : mostL [u.enc] = u.enc.length := by simp [mostL]
  refine ⟨fun v u1 w hv hu1 => ?_, fun v u1 w hv hu1 => ?_⟩
  · obtain ⟨p, n, q, rfl⟩ := hv.shape
    obtain ⟨p2, n2, q2, rfl⟩ := NdsL.shapeL hu1
    have k1 := (Keeps.refl w).alloc (.cells #[.slice p n q] 26)
    have h1 := l31Plain_any [t.enc] _ _ (NdsL.lit1 hv)
    rw [plainErrs_one, he] at h1
    have h3 := l31Both_any 0 ims (w.alloc (.cells #[.slice p n q] 26)) (.inl rfl)
    rw [he] at h
    rw [h] at h3
    have k2 := k1.alloc (.cells #[.slice p n q] 26)
    have h4 := l31Image_any ims [t.enc] _ _ _ (NdsL.lit1N (N := w.heap.size + 1) (w := w.alloc (.cells #[.slice p n q] 26)) (by simp) (hv.keeps k1)) (hu1.keeps k2) (fun a ha => by rw [List.mem_singleton.1 ha]; exact hnd) h6 (fun a ha => by rw [List.mem_singleton.1 ha]; omega) (by simp)
    rw [show [t.enc].map (sub ims) = [u.enc] by simp [hu], hmost] at h4
    have H1 := hid h1
    have H2 := hid (l31Images_any ims _ _ (hu1.keeps k1))
    have H3 := hid h3
    have H4 := hid h4
    clear h1 h3 h4 hv hu1 hu h hs hp he hmost
    by_cases hbig : 20 < u.enc.length
    · rw [if_pos hbig, if_pos hbig]
      have hb2 : (20 : Int) < u.enc.length := by omega
      go_enter Tryz.func17, Tryz.ntmps17
      go_wp2_with fail
      refine H1.out.mono ?_; rintro e w2 ⟨rfl, rfl⟩
      go_wp2_with fail
      refine H2.out.mono ?_; rintro e w2 ⟨rfl, rfl⟩
      go_wp2_with fail
      refine H3.out.mono ?_; rintro e w2 ⟨rfl, rfl⟩
      go_wp2_with fail
      refine H4.out.mono ?_; rintro e w2 ⟨v2, rfl, hv2, k3⟩
      go_wp2_with fail
      go_ret2
      exact ⟨rfl, k2.trans k3⟩
    · rw [if_neg hbig, if_neg hbig]
      have hb2 : ¬ (20 : Int) < u.enc.length := by omega
      have HT := hid (fun v w2 (hv : Nds w2 v u.enc) => l31Theorem_any u hok (by omega) v w2 hv)
      go_enter Tryz.func17, Tryz.ntmps17
      go_wp2_with fail
      refine H1.out.mono ?_; rintro e w2 ⟨rfl, rfl⟩
      go_wp2_with fail
      refine H2.out.mono ?_; rintro e w2 ⟨rfl, rfl⟩
      go_wp2_with fail
      refine H3.out.mono ?_; rintro e w2 ⟨rfl, rfl⟩
      go_wp2_with fail
      refine H4.out.mono ?_; rintro e w2 ⟨v2, rfl, hv2, k3⟩
      have hL := hv2.ndsL (by simp) (by simp [tot]; omega)
      obtain ⟨p4, n4, c4, rfl⟩ := NdsL.shapeL hL
      obtain ⟨b5, o5, u5, e, hc5, hu5⟩ := hL.get 0 (by simp)
      subst e
      rw [Nat.add_zero] at hc5
      simp only [List.getElem_cons_zero] at hu5
      obtain ⟨n4pos, hcap4⟩ : 0 < n4 ∧ n4 ≤ c4 := by obtain ⟨_, _, e, g1, _⟩ := hL; cases e; exact ⟨by simp, by simpa using g1⟩
      have HU5 := hid hu5
      clear hL hv2 hu5
      go_wp2_with fail
      refine (HT.out _ _ HU5.out).mono ?_; rintro e w3 ⟨rfl, k4⟩
      go_wp2_with fail
      go_ret2
      exact ⟨rfl, (k2.trans k3).trans k4⟩
  · obtain ⟨p, n, q, rfl⟩ := hv.shape
    obtain ⟨p2, n2, q2, rfl⟩ := NdsL.shapeL hu1
    have k1 := (Keeps.refl w).alloc (.cells #[.slice p n q] 26)
    have h1 := plainCode_any [t.enc] _ _ (NdsL.lit1 hv)
    rw [plainErrs_one, he] at h1
    rw [he] at h
    have h2 := fun w2 (k : Keeps w w2) => imagesCode_any 0 ims _ w2 (hu1.keeps k)
    rw [h] at h2
    have h3 := fun w2 (k : Keeps w w2) => substitute_any ims t.enc _ _ w2 (hv.keeps k) (hu1.keeps k) hnd h6 (by omega)
    rw [hu] at h3
    have H1 := hid h1
    have H2 := hid h2
    have H3 := hid h3
    have hsm : (!([u.enc].any fun x => decide (20 < x.length))) = decide (¬ 20 < u.enc.length) := by rw [Bool.eq_iff_iff]; simp
    have HS := hid (fun v w2 (hv : Nds w2 v u.enc) => haveSmall_any [u.enc] _ (w2.alloc (.cells #[v] 26)) (NdsL.lit1 hv))
    rw [hsm] at HS
    clear h1 h2 h3 hv hu1 hu h hs hp he hmost hsm
    by_cases hbig : 20 < u.enc.length
    · rw [if_pos hbig, if_pos hbig]
      rw [decide_eq_false (fun h => h hbig)] at HS
      go_enter Tryz.func19, Tryz.ntmps19
      go_wp2_with fail
      refine H1.out.mono ?_; rintro e w2 ⟨rfl, k2⟩
      go_wp2_with fail
      refine (H2.out w2 (k1.trans k2)).mono ?_; rintro e w3 ⟨rfl, k3⟩
      have k03 := (k1.trans k2).trans k3
      go_wp2_with fail
      refine (H3.out w3 k03).mono ?_; rintro e w4 ⟨v4, rfl, hv4, k4⟩
      have hn4 := hv4.nds (by omega)
      obtain ⟨p4, n4, c4, rfl⟩ := hn4.shape
      go_wp2_with fail
      refine (HS.out _ w4 hn4).mono ?_; rintro e w5 ⟨rfl, k5⟩
      go_wp2_with fail
      go_ret2
      exact ⟨rfl, ((k03.trans k4).alloc _).trans k5⟩
    · rw [if_neg hbig, if_neg hbig]
      rw [decide_eq_true hbig] at HS
      have HT := hid (fun v w2 (hv : Nds w2 v u.enc) => isTheorem_any u hok (by omega) v w2 hv)
      go_enter Tryz.func19, Tryz.ntmps19
      go_wp2_with fail
      refine H1.out.mono ?_; rintro e w2 ⟨rfl, k2⟩
      go_wp2_with fail
      refine (H2.out w2 (k1.trans k2)).mono ?_; rintro e w3 ⟨rfl, k3⟩
      have k03 := (k1.trans k2).trans k3
      go_wp2_with fail
      refine (H3.out w3 k03).mono ?_; rintro e w4 ⟨v4, rfl, hv4, k4⟩
      have hn4 := hv4.nds (by omega)
      obtain ⟨p4, n4, c4, rfl⟩ := hn4.shape
      have kl := (Keeps.refl w4).alloc (.cells #[.slice p4 n4 c4] 26)
      go_wp2_with fail
      refine (HS.out _ w4 hn4).mono ?_; rintro e w5 ⟨rfl, k5⟩
      go_wp2_with fail
      refine (HT.out _ w5 (hn4.keeps (kl.trans k5))).mono ?_; rintro e w6 ⟨rfl, k6⟩
      go_wp2_with fail
      go_ret2
      exact ⟨rfl, ((k03.trans k4).trans (kl.trans k5)).trans k6⟩
theorem bothUnifies (a : List Nd) (ims : List (List Nd)) : ∃ b c, BothTwo 17 19 a ims b c := by
  by_cases h : imgErr (plainErr a) ims = 0
  · obtain ⟨h0, hs, hp⟩ := imgErr_zero h
    obtain ⟨t, hw, rfl, hpl, hl⟩ := plain_tree h0
    obtain ⟨u, hu, hok⟩ := sub_fm hs hp t ⟨hw, hpl⟩
    exact ⟨_, _, unifies_ok t hl h0 ims h u hu hok⟩
  · exact ⟨_, _, unifies_err a ims h⟩
end Go.Proofs.YtajjlnonmaghlaaGreat
/- IsDerivable: both sides answer alike. -/
namespace Go.Proofs.YtajjlnonmaghlaaGreat
open Go.RowKit
theorem plain_each {l : List (List Nd)} (h : plainErrs l = 0) : ∀ x ∈ l, plainErr x = 0 := by
  intro x hx
  unfold plainErrs at h
  split at h
  · rename_i h1
    split at h
    · omega
    · rename_i h2
      have h3 := allFm_all h1 x hx
      have h4 : plainL x = true := by
        simp only [allPlainL, Bool.not_eq_true, List.any_eq_false, Bool.not_eq_true', Bool.not_eq_false] at h2
        exact h2 x hx
      simp [plainErr, h3, h4]
  · omega
theorem list_trees : ∀ {l : List (List Nd)}, (∀ x ∈ l, plainErr x = 0) → ∃ G, l = G.map Fm.enc ∧ OkL G
  | [], _ => ⟨[], rfl, okL_nil⟩
  | x :: l, h => by
    obtain ⟨G, rfl, hG⟩ := list_trees (l := l) (fun y hy => h y (by simp [hy]))
    obtain ⟨t, hw, rfl, hp, _⟩ := plain_tree (h x (by simp))
    exact ⟨t :: G, rfl, fun a ha => by
      rcases List.mem_cons.1 ha with rfl | ha
      · exact ⟨hw, hp⟩
      · exact hG a ha⟩
theorem nodes_tot (G : List Fm) : nodes G = tot (G.map Fm.enc) := by
  induction G with
  | nil => rfl
  | cons a G ih => simp [nodes, tot, ih]
theorem pow21 {a b : Nat} (h : a + b ≤ 20) : 2 ^ a + 2 ^ b ≤ 50000000 := by
  have h1 : 2 ^ a ≤ 2 ^ 20 := Nat.pow_le_pow_right (by omega) (by omega)
  have h2 : 2 ^ b ≤ 2 ^ 20 := Nat.pow_le_pow_right (by omega) (by omega)
  have h3 : (2 : Nat) ^ 20 = 1048576 := by decide
  omega
set_option maxRecDepth 20000 in
set_option maxHeartbeats 1000000 in
theorem textsOf_any (G : List Fm) (hG : OkL G) (hlen : ∀ a ∈ G, a.enc.length ≤ 40) (hn : G.length ≤ 1000) (v : Value) (w : World) (hv : FsL w v G) :
    Calls Tryz.prog 58 #[v] w fun e w' => ∃ v', e = .returned v' ∧ Left w' v' G ∧ Keeps w w' := by
  obtain ⟨p, n, cap, rfl⟩ := NdsL.shapeL hv
  obtain ⟨hm, hmc, hmx⟩ := FsL.len hv
  unfold maxLen at hmx
  have hn1 : n ≤ 1000 := by omega
  have HM := hid hm; clear hm
  have HV := hid hv; clear hv
  go_enter Tryz.func58, Tryz.ntmps58
  go_wp2
  go_loopw [3, 8] (fun r i' wr => ∃ k : Nat, k ≤ n ∧ i' = .int .i64 k ∧ (∃ ss, OwnS wr w.heap.size r ss ∧ Txts ss (G.take k)) ∧ Keeps w wr) (fun _ i _ => n - (intOf i).toNat)
  case atStart => exact ⟨0, by omega, rfl, ⟨[], OwnS.nil _ _, rfl⟩, Keeps.refl _⟩
  case round =>
    obtain ⟨k, hk, rfl, ⟨ss, hss, htx⟩, kw⟩ := hrel
    by_cases hlt : k < n
    · have hlt' : (k : Int) < n := by omega
      have hkG : k < G.length := by have := HM.out; omega
      obtain ⟨b, off, u1, rfl, hc, hu1⟩ := (HV.out.keeps kw).get k hkG
      have HT := hid (text_any G[k] (hG _ (List.getElem_mem hkG)).1 (by have := hlen _ (List.getElem_mem hkG); omega) u1 wr hu1)
      obtain ⟨q1, n1, c1, rfl⟩ := hu1.shape
      have hsl : ss.length ≤ 1000 := by have := htx.length; simp at this; omega
      have hsz := kw.size
      clear hu1
      go_wp2_with fail
      refine HT.out.mono ?_; rintro e w2 ⟨s, rfl, hs, k2⟩
      have hsz2 := k2.size
      go_wp2_with (at_builtin; refine appS rfl (.tmp 12) (.tmp 15) rfl w.heap.size _ ss rfl ((hss.keeps k2).keeps ((Keeps.refl w2).alloc _)) _ [s] rfl (Strs.lit1 w2 s) (by simp; omega) (by simp; omega) ?_; intro v3 w3 hv3 hg3 hr3)
      go_roundw
      case rel => exact ⟨k + 1, by omega, by go_num, ⟨_, hv3, by rw [List.take_succ_eq_append_getElem hkG]; exact htx.append (by simp [Txts, hs])⟩, (((kw.trans k2).alloc _).grown hg3 (fun q hq => by have := hr3 q hq; omega))⟩
      case measure => simp [intOf]; omega
    · obtain rfl : k = n := by omega
      have hlt' : ¬ ((k : Int) < k) := by omega
      have hL := hid (show Left wr _ G from by
        have h1 : G.take k = G := by have := HM.out; rw [this]; exact List.take_length
        rw [h1] at htx
        exact hss.left htx (by omega))
      clear hss htx
      go_wp2
      go_ret
      exact ⟨_, rfl, hL.out, kw⟩
theorem tot_most (l : List (List Nd)) (n : Nat) (h : ∀ x ∈ l, x.length ≤ n) : tot l ≤ n * l.length := by
  induction l with
  | nil => simp [tot]
  | cons x l ih =>
    have h1 := h x (List.mem_cons_self ..)
    have h2 := ih (fun y hy => h y (List.mem_cons_of_mem _ hy))
    simp only [tot, List.length_cons]
    rw [Nat.mul_succ]; omega
theorem fl_tot (l : List (List Nd)) : (fl l l.length).length = tot l := by
  rw [fl_all]
  induction l with
  | nil => rfl
  | cons x l ih => simp [tot] at ih ⊢; omega
set_option maxRecDepth 20000 in
theorem isSmallRule_any (xs : List (List Nd)) (c : List Nd) (v u : Value) (w : World) (hv : NdsL w v xs) (hu : Nds w u c) (hl : xs.length ≤ 1000000) (ht : tot (xs ++ [c]) ≤ 1000000000) :
    Calls Tryz.prog 56 #[.agg #[v, u]] w fun e w' => e = .returned (.bool (decide (tot (xs ++ [c]) ≤ 20))) ∧ Keeps w w' := by
  obtain ⟨p1, n1, q1, rfl⟩ := NdsL.shapeL hv
  obtain ⟨p2, n2, q2, rfl⟩ := hu.shape
  have kA := (Keeps.refl w).alloc (.cells #[.slice p1 n1 q1, .slice p2 n2 q2] 42)
  have HF := hid (formulas_any xs c _ _ _ (hv.keeps kA) (hu.keeps kA) hl)
  have HC := hid (fun v w2 (hv : NdsL w2 v (xs ++ [c])) => concatN_any (xs ++ [c]) v w2 hv (by rw [fl_tot]; omega))
  have hft := fl_tot (xs ++ [c])
  have HT := hid hft; clear hft
  clear hv hu
  go_enter Tryz.func56, Tryz.ntmps56
  go_wp2_with fail
  refine HF.out.mono ?_; rintro e w2 ⟨v2, rfl, hv2, k2⟩
  go_wp2_with fail
  refine (HC.out _ w2 hv2).mono ?_; rintro e w3 ⟨v3, rfl, hv3, k3⟩
  obtain ⟨p3, c3, rfl, hc3, _⟩ := At.of_own hv3
  have hlen3 := HT.out
  generalize (fl (xs ++ [c]) (xs ++ [c]).length).length = m at *
  subst hlen3
  by_cases h20 : tot (xs ++ [c]) ≤ 20
  · have h20' : ((tot (xs ++ [c]) : Nat) : Int) ≤ 20 := by omega
    go_wp2_with fail
    go_ret
    exact ⟨ret_bool (by simp [h20]), (kA.trans k2).trans k3⟩
  · have h20' : ¬ ((tot (xs ++ [c]) : Nat) : Int) ≤ 20 := by omega
    go_wp2_with fail
    go_ret
    exact ⟨ret_bool (by simp; omega), (kA.trans k2).trans k3⟩
/-- both sides answer b and c -/
def BothRule (S I : FuncId) (xs : List (List Nd)) (c : List Nd) (b : Bool) (k : Int) : Prop :=
  (∀ (v u : Value) (w : World), NdsL w v xs → Nds w u c → Calls Tryz.prog S #[.agg #[v, u]] w (fun e w' => e = .returned (.tuple #[.bool b, .int .i64 k]) ∧ Keeps w w')) ∧
  (∀ (v u : Value) (w : World), NdsL w v xs → Nds w u c → Calls Tryz.prog I #[.agg #[v, u]] w (fun e w' => e = .returned (.tuple #[.bool b, .int .i64 k]) ∧ Keeps w w'))
set_option maxRecDepth 20000 in
set_option maxHeartbeats 1000000 in
theorem derivable_err (xs : List (List Nd)) (c : List Nd) (h : ruleErr xs c ≠ 0) : BothRule 22 24 xs c false (ruleErr xs c) := by
  have h' : (ruleErr xs c != 0) = true := by simp [h]
  have H := hid h; clear h
  refine ⟨fun v u w hv hu => ?_, fun v u w hv hu => ?_⟩
  · obtain ⟨p1, n1, q1, rfl⟩ := NdsL.shapeL hv
    obtain ⟨p2, n2, q2, rfl⟩ := hu.shape
    have kA := (Keeps.refl w).alloc (.cells #[.slice p1 n1 q1, .slice p2 n2 q2] 42)
    have HC := hid (l31Code_any xs c _ _ _ (hv.keeps kA) (hu.keeps kA))
    clear hv hu
    go_enter Tryz.func22, Tryz.ntmps22
    go_wp2_with fail
    refine HC.out.mono ?_; rintro e w2 ⟨rfl, k2⟩
    go_wp2_with fail
    go_ret2
    exact ⟨rfl, kA.trans k2⟩
  · obtain ⟨p1, n1, q1, rfl⟩ := NdsL.shapeL hv
    obtain ⟨p2, n2, q2, rfl⟩ := hu.shape
    have kA := (Keeps.refl w).alloc (.cells #[.slice p1 n1 q1, .slice p2 n2 q2] 42)
    have HC := hid (ruleCode_nil xs c _ _ _ (hv.keeps kA) (hu.keeps kA))
    clear hv hu
    go_enter Tryz.func24, Tryz.ntmps24
    go_wp2_with fail
    refine HC.out.mono ?_; rintro e w2 ⟨rfl, k2⟩
    go_wp2_with fail
    go_ret2
    exact ⟨rfl, kA.trans k2⟩
set_option maxRecDepth 20000 in
set_option maxHeartbeats 2000000 in
theorem derivable_big (xs : List (List Nd)) (c : List Nd) (h : ruleErr xs c = 0) (hb : 20 < tot (xs ++ [c])) : BothRule 22 24 xs c false 3 := by
  obtain ⟨h6, hall⟩ := ruleErr_zero h
  have htot : tot (xs ++ [c]) ≤ 40 * (xs ++ [c]).length := tot_most _ 40 (fun x hx => (hall x hx).2)
  have ht2 : tot (xs ++ [c]) ≤ 1000 := by simp at htot; omega
  refine ⟨fun v u w hv hu => ?_, fun v u w hv hu => ?_⟩
  · obtain ⟨p1, n1, q1, rfl⟩ := NdsL.shapeL hv
    obtain ⟨p2, n2, q2, rfl⟩ := hu.shape
    have kA := (Keeps.refl w).alloc (.cells #[.slice p1 n1 q1, .slice p2 n2 q2] 42)
    have pa : (w.alloc (.cells #[.slice p1 n1 q1, .slice p2 n2 q2] 42)).cell? ⟨w.heap.size, 0, none⟩ = some (.slice p1 n1 q1) := by simp
    have pb : (w.alloc (.cells #[.slice p1 n1 q1, .slice p2 n2 q2] 42)).cell? ⟨w.heap.size, 1, none⟩ = some (.slice p2 n2 q2) := by simp
    have hC := l31Code_any xs c _ _ _ (hv.keeps kA) (hu.keeps kA)
    rw [h] at hC
    have HC := hid hC
    have HO := hid (fun w2 (k : Keeps w w2) => l31Of_any xs c _ _ w2 (hv.keeps k) (hu.keeps k) (by omega))
    have HB := hid (show (20 : Int) < (tot (xs ++ [c]) : Nat) by omega)
    have hS := hid (fun v w2 (h : NdsL w2 v (xs ++ [c])) => l31Size_any (xs ++ [c]) v w2 h (by omega))
    clear hv hu hC hb htot hall
    go_enter Tryz.func22, Tryz.ntmps22
    go_wp2_with fail
    refine HC.out.mono ?_; rintro e w2 ⟨rfl, k2⟩
    obtain ⟨qa, qb⟩ := cells_keeps k2 (And.intro pa pb)
    go_wp2_with fail
    refine (HO.out w2 (kA.trans k2)).mono ?_; rintro e w3 ⟨v3, rfl, hv3, k3⟩
    have hL := hv3.ndsL k3 (by simp; omega)
    go_wp2_with fail
    refine (hS.out _ w3 hL).mono ?_; rintro e w4 ⟨rfl, rfl⟩
    have hbb := HB.out
    go_wp2_with fail
    go_ret2
    exact ⟨rfl, (kA.trans k2).trans k3⟩
  · obtain ⟨p1, n1, q1, rfl⟩ := NdsL.shapeL hv
    obtain ⟨p2, n2, q2, rfl⟩ := hu.shape
    have kA := (Keeps.refl w).alloc (.cells #[.slice p1 n1 q1, .slice p2 n2 q2] 42)
    have pa : (w.alloc (.cells #[.slice p1 n1 q1, .slice p2 n2 q2] 42)).cell? ⟨w.heap.size, 0, none⟩ = some (.slice p1 n1 q1) := by simp
    have pb : (w.alloc (.cells #[.slice p1 n1 q1, .slice p2 n2 q2] 42)).cell? ⟨w.heap.size, 1, none⟩ = some (.slice p2 n2 q2) := by simp
    have hC := ruleCode_nil xs c _ _ _ (hv.keeps kA) (hu.keeps kA)
    rw [h] at hC
    have HC := hid hC
    have hS := fun w2 (k : Keeps w w2) => isSmallRule_any xs c _ _ w2 (hv.keeps k) (hu.keeps k) (by omega) (by omega)
    rw [decide_eq_false (by omega)] at hS
    have HS := hid hS
    clear hv hu hC hS hb htot hall
    go_enter Tryz.func24, Tryz.ntmps24
    go_wp2_with fail
    refine HC.out.mono ?_; rintro e w2 ⟨rfl, k2⟩
    obtain ⟨qa, qb⟩ := cells_keeps k2 (And.intro pa pb)
    go_wp2_with fail
    refine (HS.out w2 (kA.trans k2)).mono ?_; rintro e w3 ⟨rfl, k3⟩
    go_wp2_with fail
    go_ret2
    exact ⟨rfl, (kA.trans k2).trans k3⟩
set_option maxRecDepth 20000 in
set_option maxHeartbeats 2000000 in
theorem derivable_ok (G : List Fm) (t : Fm) (hG : OkL G) (ht : OkF t) (h : ruleErr (G.map Fm.enc) t.enc = 0) (hb : tot (G.map Fm.enc ++ [t.enc]) ≤ 20) : BothRule 22 24 (G.map Fm.enc) t.enc (sqB G t) 0 := by
  obtain ⟨h6, hall⟩ := ruleErr_zero h
  have hl40 : ∀ a ∈ G, a.enc.length ≤ 40 := fun a ha => (hall a.enc (List.mem_append.2 (.inl (List.mem_map.2 ⟨a, ha, rfl⟩)))).2
  have htl : t.enc.length ≤ 40 := (hall t.enc (by simp)).2
  have hGl : G.length ≤ 6 := by simpa using h6
  have hw : wts G + wt t ≤ 50000000 := by
    have h1 := wts_le_pow G
    have h2 := wt_le_pow t
    have h3 : nodes G + t.enc.length ≤ 20 := by
      rw [nodes_tot]
      have : tot (G.map Fm.enc ++ [t.enc]) = tot (G.map Fm.enc) + t.enc.length := by
        clear hb hall h6 h hl40 hGl h1
        induction G with
        | nil => simp [tot]
        | cons a G ih => have := ih (fun b hb => hG b (by simp [hb])); simp [tot] at this ⊢; omega
      omega
    have h4 := pow21 h3
    omega
  have ht2 : tot (G.map Fm.enc ++ [t.enc]) ≤ 1000 := by omega
  refine ⟨fun v u w hv hu => ?_, fun v u w hv hu => ?_⟩
  · obtain ⟨p1, n1, q1, rfl⟩ := NdsL.shapeL hv
    obtain ⟨p2, n2, q2, rfl⟩ := hu.shape
    have kA := (Keeps.refl w).alloc (.cells #[.slice p1 n1 q1, .slice p2 n2 q2] 42)
    have pa : (w.alloc (.cells #[.slice p1 n1 q1, .slice p2 n2 q2] 42)).cell? ⟨w.heap.size, 0, none⟩ = some (.slice p1 n1 q1) := by simp
    have pb : (w.alloc (.cells #[.slice p1 n1 q1, .slice p2 n2 q2] 42)).cell? ⟨w.heap.size, 1, none⟩ = some (.slice p2 n2 q2) := by simp
    have hC := l31Code_any _ _ _ _ _ (hv.keeps kA) (hu.keeps kA)
    rw [h] at hC
    have HC := hid hC
    have HO := hid (fun w2 (k : Keeps w w2) => l31Of_any _ _ _ _ w2 (hv.keeps k) (hu.keeps k) (by simp; omega))
    have HB := hid (show ¬ (20 : Int) < (tot (G.map Fm.enc ++ [t.enc]) : Nat) by omega)
    have hS := hid (fun v w2 (h : NdsL w2 v (G.map Fm.enc ++ [t.enc])) => l31Size_any _ v w2 h (by omega))
    have HX := hid (fun w2 (k : Keeps w w2) => l31Texts_any G hG hl40 (by omega) _ w2 (hv.keeps k))
    have HT := hid (fun w2 (k : Keeps w w2) => l02Text_any t ht.1 ht.2 (by omega) _ w2 (hu.keeps k))
    have HK := hid (fun R (hR : ∀ a, a ∈ R ↔ a ∈ G) (hwR : wts R ≤ wts G) (hlR : R.length ≤ G.length) s (hs : bts s = t.body) v w2 (hl : Left w2 v R) => by
      have h1 := l23Ok_any R t (fun a ha => hG a ((hR a).1 ha)) ht (fun a ha => hl40 a ((hR a).1 ha)) htl (by omega) (by omega) s v w2 hl hs
      rw [sqB_congr (sq_same hR)] at h1
      exact h1)
    clear hv hu hC hb hall
    go_enter Tryz.func22, Tryz.ntmps22
    go_wp2_with fail
    refine HC.out.mono ?_; rintro e w2 ⟨rfl, k2⟩
    obtain ⟨qa, qb⟩ := cells_keeps k2 (And.intro pa pb)
    go_wp2_with fail
    refine (HO.out w2 (kA.trans k2)).mono ?_; rintro e w3 ⟨v3, rfl, hv3, k3⟩
    have hL := hv3.ndsL k3 (by simp; omega)
    obtain ⟨qa3, qb3⟩ := cells_keeps k3 (And.intro qa qb)
    go_wp2_with fail
    refine (hS.out _ w3 hL).mono ?_; rintro e w4 ⟨rfl, rfl⟩
    have hbb := HB.out
    have kD := ((kA.trans k2).trans k3).drew
    have qd : w3.drew.cell? ⟨w.heap.size, 0, none⟩ = some (.slice p1 n1 q1) ∧ w3.drew.cell? ⟨w.heap.size, 1, none⟩ = some (.slice p2 n2 q2) := ⟨qa3, qb3⟩
    clear hL hv3
    go_wp2_with fail
    go_region_held3 (fun w' => w'.cell? ⟨w.heap.size, 0, none⟩ = some (.slice p1 n1 q1) ∧ w'.cell? ⟨w.heap.size, 1, none⟩ = some (.slice p2 n2 q2)) (first | exact qd | exact q5 | exact q6 | exact q7) (first
      | (go_at_call 53; refine (HX.out w3.drew kD).mono ?_; rintro e w5 ⟨v5, rfl, ⟨R, hR, hm, hwR, hlR⟩, k5⟩; have q5 := cells_keeps k5 qd)
      | (go_at_call 54; refine (HT.out w5 (kD.trans k5)).mono ?_; rintro e w6 ⟨s, rfl, hs, k6⟩; have q6 := cells_keeps k6 q5)
      | (go_at_call 52; refine (HK.out R hm hwR hlR s hs _ w6 (hR.keeps k6)).mono ?_; rintro e w7 ⟨rfl, k7⟩; have q7 := cells_keeps k7 q6))
    all_goals
      go_wp2
      go_ret2
      exact ⟨rfl, ((kD.trans k5).trans k6).trans k7⟩
  · obtain ⟨p1, n1, q1, rfl⟩ := NdsL.shapeL hv
    obtain ⟨p2, n2, q2, rfl⟩ := hu.shape
    have kA := (Keeps.refl w).alloc (.cells #[.slice p1 n1 q1, .slice p2 n2 q2] 42)
    have pa : (w.alloc (.cells #[.slice p1 n1 q1, .slice p2 n2 q2] 42)).cell? ⟨w.heap.size, 0, none⟩ = some (.slice p1 n1 q1) := by simp
    have pb : (w.alloc (.cells #[.slice p1 n1 q1, .slice p2 n2 q2] 42)).cell? ⟨w.heap.size, 1, none⟩ = some (.slice p2 n2 q2) := by simp
    have hC := ruleCode_nil _ _ _ _ _ (hv.keeps kA) (hu.keeps kA)
    rw [h] at hC
    have HC := hid hC
    have hS := fun w2 (k : Keeps w w2) => isSmallRule_any _ _ _ _ w2 (hv.keeps k) (hu.keeps k) (by simp; omega) (by omega)
    rw [decide_eq_true hb] at hS
    have HS := hid hS
    have HX := hid (fun w2 (k : Keeps w w2) => textsOf_any G hG hl40 (by omega) _ w2 (hv.keeps k))
    have HT := hid (fun w2 (k : Keeps w w2) => text_any t ht.1 (by omega) _ w2 (hu.keeps k))
    have HP := hid (fun v w2 (hl : Left w2 v G) => put_fm G [] v _ w2 hl (Left.nil w2) hG okL_nil (by simp only [wts]; omega))
    have HK := hid (fun R (hR : ∀ a, a ∈ R ↔ a ∈ G ∨ a ∈ ([] : List Fm)) (hwR : wts R ≤ wts G + wts []) s (hs : bts s = t.body) v w2 (hl : Left w2 v R) => by
      have h1 := provable_any R t (fun a ha => hG a (by simpa using (hR a).1 ha)) ht (by simp only [wts] at hwR; omega) s v w2 hl hs
      rw [sqB_congr (sq_same (fun a => (hR a).trans (by simp) : ∀ a, a ∈ R ↔ a ∈ G))] at h1
      exact h1)
    clear hv hu hC hS hb hall
    go_enter Tryz.func24, Tryz.ntmps24
    go_wp2_with fail
    refine HC.out.mono ?_; rintro e w2 ⟨rfl, k2⟩
    obtain ⟨qa, qb⟩ := cells_keeps k2 (And.intro pa pb)
    go_wp2_with fail
    refine (HS.out w2 (kA.trans k2)).mono ?_; rintro e w3 ⟨rfl, k3⟩
    obtain ⟨qa3, qb3⟩ := cells_keeps k3 (And.intro qa qb)
    have kD := ((kA.trans k2).trans k3).drew
    have qd : w3.drew.cell? ⟨w.heap.size, 0, none⟩ = some (.slice p1 n1 q1) ∧ w3.drew.cell? ⟨w.heap.size, 1, none⟩ = some (.slice p2 n2 q2) := ⟨qa3, qb3⟩
    go_wp2_with fail
    go_region_held3 (fun w' => w'.cell? ⟨w.heap.size, 0, none⟩ = some (.slice p1 n1 q1) ∧ w'.cell? ⟨w.heap.size, 1, none⟩ = some (.slice p2 n2 q2)) (first | exact qd | exact q4 | exact q5 | exact q6 | exact q7) (first
      | (go_at_call 58; refine (HX.out w3.drew kD).mono ?_; rintro e w4 ⟨v4, rfl, hv4, k4⟩; have q4 := cells_keeps k4 qd; obtain ⟨p4, n4, c4, rfl⟩ := hv4.shape)
      | (go_at_call 57; refine (HP.out _ w4 hv4).mono ?_; rintro e w5 ⟨v5, R, rfl, hR, hm, hwR, k5⟩; have q5 := cells_keeps k5 q4; have hRl := hR.left; obtain ⟨p5, n5, c5, rfl⟩ := hRl.shape)
      | (go_at_call 37; refine (HT.out w5 ((kD.trans k4).trans k5)).mono ?_; rintro e w6 ⟨s, rfl, hs, k6⟩; have q6 := cells_keeps k6 q5)
      | (go_at_call 36; refine (HK.out R hm hwR s hs _ w6 (hRl.keeps k6)).mono ?_; rintro e w7 ⟨rfl, k7⟩; have q7 := cells_keeps k7 q6))
    all_goals
      go_wp2
      go_ret2
      exact ⟨rfl, (((kD.trans k4).trans k5).trans k6).trans k7⟩
theorem bothDerivable (xs : List (List Nd)) (c : List Nd) : ∃ b k, BothRule 22 24 xs c b k := by
  by_cases h : ruleErr xs c = 0
  · have hp : plainErrs (xs ++ [c]) = 0 := by
      have h0 := h
      unfold ruleErr at h0
      split at h0
      · omega
      · exact h0
    by_cases hb : tot (xs ++ [c]) ≤ 20
    · obtain ⟨G, rfl, hG⟩ := list_trees (l := xs) (fun x hx => plain_each hp x (List.mem_append.2 (.inl hx)))
      obtain ⟨t, hw, rfl, hpl, _⟩ := plain_tree (plain_each hp c (by simp))
      exact ⟨_, _, derivable_ok G t hG ⟨hw, hpl⟩ h hb⟩
    · exact ⟨_, _, derivable_big xs c h (by omega)⟩
  · exact ⟨_, _, derivable_err xs c h⟩
end Go.Proofs.YtajjlnonmaghlaaGreat
/- BreaksRule: both sides answer alike. -/
namespace Go.Proofs.YtajjlnonmaghlaaGreat
open Go.RowKit
/-- all premises are theorems, the conclusion is none -/
noncomputable def brk (G : List Fm) (t : Fm) : Bool := (G.all fun a => sqB [] a) && !sqB [] t
theorem trees_sub {ims : List (List Nd)} (hs : isSub ims = true) (hp : allPlainL ims = false) : ∀ G : List Fm, OkL G → ∃ G', (G.map Fm.enc).map (sub ims) = G'.map Fm.enc ∧ OkL G'
  | [], _ => ⟨[], rfl, okL_nil⟩
  | a :: G, h => by
    obtain ⟨G', h1, h2⟩ := trees_sub hs hp G (fun x hx => h x (by simp [hx]))
    obtain ⟨u, h3, h4⟩ := sub_fm hs hp a (h a (by simp))
    refine ⟨u :: G', by simp only [List.map_cons, h3, h1], fun x hx => ?_⟩
    rcases List.mem_cons.1 hx with rfl | hx
    · exact h4
    · exact h2 x hx
set_option maxRecDepth 20000 in
set_option maxHeartbeats 1000000 in
theorem l31Breaks_any (G : List Fm) (t : Fm) (hG : OkL G) (ht : OkF t) (hl : ∀ a ∈ G ++ [t], a.enc.length ≤ 20) (hn : G.length ≤ 1000) (v : Value) (w : World) (hv : FsL w v (G ++ [t])) :
    Calls Tryz.prog 67 #[v] w fun e w' => e = .returned (.bool (brk G t)) ∧ Keeps w w' := by
  obtain ⟨p, n, cap, rfl⟩ := NdsL.shapeL hv
  obtain ⟨hm, hmc, hmx⟩ := FsL.len hv
  unfold maxLen at hmx
  have hm2 : n = G.length + 1 := by rw [hm]; simp
  have hn1 : n ≤ 1001 := by omega
  have hn0 : 0 < n := by omega
  have HM := hid hm2; clear hm hm2
  have HV := hid hv; clear hv
  have hok : ∀ a ∈ G ++ [t], OkF a := fun a ha => (List.mem_append.1 ha).elim (hG a) (fun h => by rw [List.mem_singleton.1 h]; exact ht)
  go_enter Tryz.func67, Tryz.ntmps67
  go_wp2
  go_loopw [3] (fun i' wr => ∃ k : Nat, k < n ∧ i' = .int .i64 k ∧ Keeps w wr ∧ Hid ((G.take k).all (fun a => sqB [] a) = true)) (fun i _ => n - (intOf i).toNat)
  case atStart => exact ⟨0, hn0, rfl, Keeps.refl _, by simp [Hid]⟩
  case round =>
    obtain ⟨k, hk, rfl, kw, hall⟩ := hrel
    by_cases hlt : k + 1 < n
    · have hlt' : (k : Int) + 1 < n := by omega
      have hkG : k < G.length := by have := HM.out; omega
      have hkL : k < (G ++ [t]).length := by simp; omega
      obtain ⟨b, off, u1, rfl, hc, hu1⟩ := (HV.out.keeps kw).get k hkL
      have hge : (G ++ [t])[k] = G[k] := List.getElem_append_left hkG
      have HT := hid (l31Theorem_any _ (hok _ (List.getElem_mem hkL)) (hl _ (List.getElem_mem hkL)) u1 wr hu1)
      rw [hge] at HT
      have hsucc := hid (show G.take (k + 1) = G.take k ++ [G[k]] from List.take_succ_eq_append_getElem hkG)
      have hbr := hid (fun (h : sqB [] G[k] = false) => (show brk G t = false by
        unfold brk
        rw [show (G.all fun a => sqB [] a) = false from List.all_eq_false.2 ⟨G[k], List.getElem_mem hkG, by simp [h]⟩]; rfl))
      obtain ⟨pu, nu, cu, rfl⟩ := hu1.shape
      clear hu1 hge
      cases hs : sqB [] G[k] with
      | true =>
        rw [hs] at HT
        have Hs := hid hs; clear hs
        go_wp2_with fail
        refine HT.out.mono ?_; rintro e w2 ⟨rfl, k2⟩
        go_wp2
        go_roundw
        case rel => exact ⟨k + 1, by omega, by go_num, kw.trans k2, hid (by rw [hsucc.out, List.all_append, hall.out]; simp [Hs.out])⟩
        case measure => simp [intOf]; omega
      | false =>
        rw [hs] at HT
        have Hb := hid (hbr.out hs); clear hs
        go_wp2_with fail
        refine HT.out.mono ?_; rintro e w2 ⟨rfl, k2⟩
        go_wp2
        go_ret
        exact ⟨ret_bool Hb.out.symm, kw.trans k2⟩
    · have hkG : k = G.length := by have := HM.out; omega
      have hlt' : ¬ ((k : Int) + 1 < n) := by omega
      have hkL : n - 1 < (G ++ [t]).length := by have := HM.out; simp; omega
      obtain ⟨b, off, u1, rfl, hc, hu1⟩ := (HV.out.keeps kw).get (n - 1) hkL
      have hge : (G ++ [t])[n - 1] = t := by
        have : n - 1 = G.length := by have := HM.out; omega
        simp [this]
      rw [hge] at hu1
      have HT := hid (l31Theorem_any t ht (hl t (by simp)) u1 wr hu1)
      have hbr := hid (show brk G t = !sqB [] t by
        have h1 := hall.out
        rw [hkG, List.take_length] at h1
        unfold brk
        rw [h1]; rfl)
      obtain ⟨pu, nu, cu, rfl⟩ := hu1.shape
      have hidx : ((n : Int) - 1) = ((n - 1 : Nat) : Int) := by omega
      have hidx2 : ((n : Int) - 1).toNat = n - 1 := by omega
      clear hu1 hge hkG
      go_wp2_with fail
      refine HT.out.mono ?_; rintro e w2 ⟨rfl, k2⟩
      go_wp2
      go_ret
      exact ⟨ret_bool hbr.out.symm, kw.trans k2⟩
open Classical in
/-- what is asked of nodes, as what is asked of their formula -/
noncomputable def prN (L : List Fm) (f : Fm → Bool) (x : List Nd) : Bool := decide (∃ a, a ∈ L ∧ x = a.enc ∧ f a = true)
theorem prN_eq {L : List Fm} (f : Fm → Bool) {a : Fm} (ha : a ∈ L) : prN L f a.enc = f a := by
  unfold prN
  rw [Bool.eq_iff_iff, decide_eq_true_iff]
  constructor
  · rintro ⟨b, _, h1, h2⟩
    rw [enc_inj h1]
    exact h2
  · exact fun h => ⟨a, ha, rfl, h⟩
theorem any_prN (L : List Fm) (f : Fm → Bool) : (L.map Fm.enc).any (prN L f) = L.any f := by
  rw [Bool.eq_iff_iff, List.any_eq_true, List.any_eq_true]
  constructor
  · rintro ⟨x, hx, hp⟩
    obtain ⟨a, ha, rfl⟩ := List.mem_map.1 hx
    exact ⟨a, ha, by rw [← prN_eq f ha]; exact hp⟩
  · rintro ⟨a, ha, hp⟩
    exact ⟨a.enc, List.mem_map.2 ⟨a, ha, rfl⟩, by rw [prN_eq f ha]; exact hp⟩
theorem enters_isBroken_1 : Enters 114 := fun _ _ => by kernel_rfl
set_option maxRecDepth 20000 in
theorem isBroken_1_any (a : Fm) (ha : OkF a) (hl : a.enc.length ≤ 20) (u : Value) (w : World) (hu : Nds w u a.enc) :
    Calls Tryz.prog 114 #[u] w fun e w' => e = .returned (.bool (!sqB [] a)) ∧ Keeps w w' := by
  have HT := hid (isTheorem_any a ha hl u w hu)
  clear hu
  go_enter Tryz.func114, Tryz.ntmps114
  go_wp2_with fail
  refine HT.out.mono ?_; rintro e w2 ⟨rfl, k2⟩
  go_wp2_with fail
  go_ret
  exact ⟨rfl, k2⟩
set_option maxRecDepth 20000 in
set_option maxHeartbeats 1000000 in
theorem isBroken_any (G : List Fm) (t : Fm) (hG : OkL G) (ht : OkF t) (hl : ∀ a ∈ G ++ [t], a.enc.length ≤ 20) (v u : Value) (w : World) (hv : FsL w v G) (hu : Nds w u t.enc) :
    Calls Tryz.prog 70 #[.agg #[v, u]] w fun e w' => e = .returned (.bool (brk G t)) ∧ Keeps w w' := by
  obtain ⟨p1, n1, q1, rfl⟩ := NdsL.shapeL hv
  obtain ⟨p2, n2, q2, rfl⟩ := hu.shape
  have kA := (Keeps.refl w).alloc (.cells #[.slice p1 n1 q1, .slice p2 n2 q2] 42)
  have pa : (w.alloc (.cells #[.slice p1 n1 q1, .slice p2 n2 q2] 42)).cell? ⟨w.heap.size, 0, none⟩ = some (.slice p1 n1 q1) := by simp
  have pb : (w.alloc (.cells #[.slice p1 n1 q1, .slice p2 n2 q2] 42)).cell? ⟨w.heap.size, 1, none⟩ = some (.slice p2 n2 q2) := by simp
  have hC := containsFuncL (prN G fun a => !sqB [] a) 114 #[] (G.map Fm.enc) _ _ (NdsL.keeps hv kA) enters_isBroken_1 (fun x u1 w1 hx _ hu1 => by
    obtain ⟨a, ha, rfl⟩ := List.mem_map.1 hx
    rw [prN_eq _ ha]
    exact isBroken_1_any a (hG a ha) (hl a (List.mem_append.2 (.inl ha))) u1 w1 hu1)
  rw [any_prN] at hC
  have HT := hid (fun w2 (k : Keeps w w2) => isTheorem_any t ht (hl t (by simp)) _ w2 (hu.keeps k))
  have hb : brk G t = (!(G.any fun a => !sqB [] a) && !sqB [] t) := by
    unfold brk
    congr 1
    rw [Bool.eq_iff_iff]
    simp [List.all_eq_true, List.any_eq_false]
  rw [hb]
  clear hb hv hu
  cases hs : (G.any fun a => !sqB [] a) with
  | true =>
    rw [hs] at hC
    have HC := hid hC
    clear hs
    go_enter Tryz.func70, Tryz.ntmps70
    go_wp2_with fail
    refine HC.out.mono ?_; rintro e w2 ⟨rfl, k2⟩
    go_wp2_with fail
    go_ret
    exact ⟨by simp, kA.trans k2⟩
  | false =>
    rw [hs] at hC
    have HC := hid hC
    clear hs
    go_enter Tryz.func70, Tryz.ntmps70
    go_wp2_with fail
    refine HC.out.mono ?_; rintro e w2 ⟨rfl, k2⟩
    obtain ⟨qa, qb⟩ := cells_keeps k2 (And.intro pa pb)
    go_wp2_with fail
    refine (HT.out w2 (kA.trans k2)).mono ?_; rintro e w3 ⟨rfl, k3⟩
    go_wp2_with fail
    go_ret
    exact ⟨by simp, (kA.trans k2).trans k3⟩
/-- both sides answer b and k -/
def BothRL (S I : FuncId) (xs : List (List Nd)) (c : List Nd) (l : List (List Nd)) (b : Bool) (k : Int) : Prop :=
  (∀ (v u vi : Value) (w : World), NdsL w v xs → Nds w u c → NdsL w vi l → Calls Tryz.prog S #[.agg #[v, u], vi] w (fun e w' => e = .returned (.tuple #[.bool b, .int .i64 k]) ∧ Keeps w w')) ∧
  (∀ (v u vi : Value) (w : World), NdsL w v xs → Nds w u c → NdsL w vi l → Calls Tryz.prog I #[.agg #[v, u], vi] w (fun e w' => e = .returned (.tuple #[.bool b, .int .i64 k]) ∧ Keeps w w'))
set_option maxRecDepth 20000 in
set_option maxHeartbeats 1000000 in
theorem breaks_err (xs : List (List Nd)) (c : List Nd) (ims : List (List Nd)) (h : imgErr (ruleErr xs c) ims ≠ 0) : BothRL 28 29 xs c ims false (imgErr (ruleErr xs c) ims) := by
  have h' : (imgErr (ruleErr xs c) ims != 0) = true := by simp [h]
  have H := hid h; clear h
  have HR := hid (ruleErr_range xs c)
  refine ⟨fun v u vi w hv hu hvi => ?_, fun v u vi w hv hu hvi => ?_⟩
  · obtain ⟨p1, n1, q1, rfl⟩ := NdsL.shapeL hv
    obtain ⟨p2, n2, q2, rfl⟩ := hu.shape
    obtain ⟨p3, n3, q3, rfl⟩ := NdsL.shapeL hvi
    have kA := (Keeps.refl w).alloc (.cells #[.slice p1 n1 q1, .slice p2 n2 q2] 42)
    have HC := hid (l31Code_any xs c _ _ _ (hv.keeps kA) (hu.keeps kA))
    have HI := hid (fun w2 (k : Keeps w w2) => l31Images_any ims _ w2 (hvi.keeps k))
    clear hv hu hvi
    go_enter Tryz.func28, Tryz.ntmps28
    go_wp2_with fail
    refine HC.out.mono ?_; rintro e w2 ⟨rfl, k2⟩
    go_wp2_with fail
    refine (HI.out w2 (kA.trans k2)).mono ?_; rintro e w3 ⟨rfl, rfl⟩
    go_wp2_with fail
    refine (l31Both_any (ruleErr xs c) ims _ HR.out).mono ?_; rintro e w3 ⟨rfl, rfl⟩
    go_wp2_with fail
    go_ret2
    exact ⟨rfl, kA.trans k2⟩
  · obtain ⟨p1, n1, q1, rfl⟩ := NdsL.shapeL hv
    obtain ⟨p2, n2, q2, rfl⟩ := hu.shape
    obtain ⟨p3, n3, q3, rfl⟩ := NdsL.shapeL hvi
    have kA := (Keeps.refl w).alloc (.cells #[.slice p1 n1 q1, .slice p2 n2 q2] 42)
    have HC := hid (ruleCode_nil xs c _ _ _ (hv.keeps kA) (hu.keeps kA))
    have HI := hid (fun w2 (k : Keeps w w2) => imagesCode_any (ruleErr xs c) ims _ w2 (hvi.keeps k))
    clear hv hu hvi
    go_enter Tryz.func29, Tryz.ntmps29
    go_wp2_with fail
    refine HC.out.mono ?_; rintro e w2 ⟨rfl, k2⟩
    go_wp2_with fail
    refine (HI.out w2 (kA.trans k2)).mono ?_; rintro e w3 ⟨rfl, k3⟩
    go_wp2_with fail
    go_ret2
    exact ⟨rfl, (kA.trans k2).trans k3⟩
set_option maxRecDepth 20000 in
set_option maxHeartbeats 2000000 in
theorem breaks_ok (xs : List (List Nd)) (c : List Nd) (ims : List (List Nd)) (h : imgErr (ruleErr xs c) ims = 0) (G : List Fm) (t : Fm) (hG : OkL G) (ht : OkF t) (hGe : xs.map (sub ims) = G.map Fm.enc) (hte : sub ims c = t.enc) :
    BothRL 28 29 xs c ims (if ((G ++ [t]).any fun a => decide (20 < a.enc.length)) then false else brk G t) (if ((G ++ [t]).any fun a => decide (20 < a.enc.length)) then 3 else 0) := by
  obtain ⟨hr0, hs0, _⟩ := imgErr_zero h
  obtain ⟨hx6, hall⟩ := ruleErr_zero hr0
  obtain ⟨h6, hi40⟩ := isSub_facts hs0
  have hsl : ∀ a ∈ xs ++ [c], (sub ims a).length ≤ 1600 := fun a ha => by
    have h1 := sub_len hi40 (by omega) a
    have h2 := (hall a ha).2
    have h3 : 40 * a.length ≤ 40 * 40 := Nat.mul_le_mul_left _ h2
    omega
  have hGn : G.length = xs.length := by have := congrArg List.length hGe; simpa using this.symm
  have hGl : ∀ a ∈ G ++ [t], a.enc.length ≤ 1600 := fun a ha => by
    rcases List.mem_append.1 ha with ha | ha
    · have h1 : a.enc ∈ G.map Fm.enc := List.mem_map.2 ⟨a, ha, rfl⟩
      rw [← hGe] at h1
      obtain ⟨x, hx, e⟩ := List.mem_map.1 h1
      rw [← e]; exact hsl x (List.mem_append.2 (.inl hx))
    · rw [List.mem_singleton.1 ha, ← hte]; exact hsl c (by simp)
  have himg : (xs ++ [c]).map (sub ims) = (G ++ [t]).map Fm.enc := by simp [hGe, hte]
  have hmost : mostL ((G ++ [t]).map Fm.enc) ≤ 20 ↔ ((G ++ [t]).any fun a => decide (20 < a.enc.length)) = false := by
    rw [mostL_le, List.any_eq_false]
    constructor
    · intro h a ha
      have := h a.enc (List.mem_map.2 ⟨a, ha, rfl⟩)
      simp; omega
    · intro h x hx
      obtain ⟨a, ha, rfl⟩ := List.mem_map.1 hx
      have := h a ha
      simp at this; omega
  have hmost2 : mostL ((G ++ [t]).map Fm.enc) ≤ 1600 := (mostL_le _ _).2 fun x hx => by
    obtain ⟨a, ha, rfl⟩ := List.mem_map.1 hx
    exact hGl a ha
  have hany : (((G ++ [t]).map Fm.enc).any fun x => decide (20 < x.length)) = ((G ++ [t]).any fun a => decide (20 < a.enc.length)) := by rw [List.any_map]; rfl
  refine ⟨fun v u vi w hv hu hvi => ?_, fun v u vi w hv hu hvi => ?_⟩
  · obtain ⟨p1, n1, q1, rfl⟩ := NdsL.shapeL hv
    obtain ⟨p2, n2, q2, rfl⟩ := hu.shape
    obtain ⟨p3, n3, q3, rfl⟩ := NdsL.shapeL hvi
    have kA := (Keeps.refl w).alloc (.cells #[.slice p1 n1 q1, .slice p2 n2 q2] 42)
    have pa : (w.alloc (.cells #[.slice p1 n1 q1, .slice p2 n2 q2] 42)).cell? ⟨w.heap.size, 0, none⟩ = some (.slice p1 n1 q1) := by simp
    have pb : (w.alloc (.cells #[.slice p1 n1 q1, .slice p2 n2 q2] 42)).cell? ⟨w.heap.size, 1, none⟩ = some (.slice p2 n2 q2) := by simp
    have hC := l31Code_any xs c _ _ _ (hv.keeps kA) (hu.keeps kA)
    rw [hr0] at hC
    have hB := fun w2 => l31Both_any 0 ims w2 (.inl rfl)
    rw [hr0] at h
    rw [h] at hB
    have HC := hid hC
    have HB := hid hB
    have HI := hid (fun w2 (k : Keeps w w2) => l31Images_any ims _ w2 (hvi.keeps k))
    have HO := hid (fun w2 (k : Keeps w w2) => l31Of_any xs c _ _ w2 (hv.keeps k) (hu.keeps k) (by omega))
    have hX := fun vl w2 (k : Keeps w w2) (hl : NdsL w2 vl (xs ++ [c])) => l31Image_any ims (xs ++ [c]) vl _ w2 hl (hvi.keeps k) (fun a ha => (hall a ha).1) h6 (fun a ha => by have := hsl a ha; omega) (by simp; omega)
    rw [himg] at hX
    have HX := hid hX
    have hn7 : (xs ++ [c]).length ≤ 2147483648 := by simp; omega
    have htG : tot ((G ++ [t]).map Fm.enc) ≤ 1600 * ((G ++ [t]).map Fm.enc).length := tot_most _ 1600 (fun x hx => by obtain ⟨a, ha, rfl⟩ := List.mem_map.1 hx; exact hGl a ha)
    have htG2 : tot ((G ++ [t]).map Fm.enc) ≤ 2147483648 ∧ ((G ++ [t]).map Fm.enc).length ≤ 2147483648 := by simp at htG ⊢; omega
    clear hv hu hvi hC hB hX
    cases hbig : ((G ++ [t]).any fun a => decide (20 < a.enc.length)) with
    | true =>
      have hm20 : ¬ mostL ((G ++ [t]).map Fm.enc) ≤ 20 := fun h => by rw [hmost.1 h] at hbig; cases hbig
      have hb2 : (20 : Int) < (mostL ((G ++ [t]).map Fm.enc) : Nat) := by omega
      simp only [if_true]
      generalize mostL ((G ++ [t]).map Fm.enc) = mm at *
      clear hbig hmost hany himg
      go_enter Tryz.func28, Tryz.ntmps28
      go_wp2_with fail
      refine HC.out.mono ?_; rintro e w2 ⟨rfl, k2⟩
      obtain ⟨qa, qb⟩ := cells_keeps k2 (And.intro pa pb)
      go_wp2_with fail
      refine (HI.out w2 (kA.trans k2)).mono ?_; rintro e w3 ⟨rfl, rfl⟩
      go_wp2_with fail
      refine (HB.out w2).mono ?_; rintro e w3 ⟨rfl, rfl⟩
      go_wp2_with fail
      refine (HO.out w2 (kA.trans k2)).mono ?_; rintro e w3 ⟨v3, rfl, hv3, k3⟩
      have hL := hv3.ndsL k3 hn7
      go_wp2_with fail
      refine (HX.out _ w3 ((kA.trans k2).trans k3) hL).mono ?_; rintro e w4 ⟨v4, rfl, hv4, k4⟩
      go_wp2_with fail
      go_ret2
      exact ⟨rfl, ((kA.trans k2).trans k3).trans k4⟩
    | false =>
      have hm20 : mostL ((G ++ [t]).map Fm.enc) ≤ 20 := hmost.2 hbig
      have hb2 : ¬ (20 : Int) < (mostL ((G ++ [t]).map Fm.enc) : Nat) := by omega
      have hl20 : ∀ a ∈ G ++ [t], a.enc.length ≤ 20 := fun a ha => (mostL_le _ _).1 hm20 a.enc (List.mem_map.2 ⟨a, ha, rfl⟩)
      have HBr := hid (fun v w2 (hv : FsL w2 v (G ++ [t])) => l31Breaks_any G t hG ht hl20 (by omega) v w2 hv)
      simp only [Bool.false_eq_true, if_false]
      generalize mostL ((G ++ [t]).map Fm.enc) = mm at *
      clear hbig hmost hany himg
      go_enter Tryz.func28, Tryz.ntmps28
      go_wp2_with fail
      refine HC.out.mono ?_; rintro e w2 ⟨rfl, k2⟩
      obtain ⟨qa, qb⟩ := cells_keeps k2 (And.intro pa pb)
      go_wp2_with fail
      refine (HI.out w2 (kA.trans k2)).mono ?_; rintro e w3 ⟨rfl, rfl⟩
      go_wp2_with fail
      refine (HB.out w2).mono ?_; rintro e w3 ⟨rfl, rfl⟩
      go_wp2_with fail
      refine (HO.out w2 (kA.trans k2)).mono ?_; rintro e w3 ⟨v3, rfl, hv3, k3⟩
      have hL := hv3.ndsL k3 hn7
      go_wp2_with fail
      refine (HX.out _ w3 ((kA.trans k2).trans k3) hL).mono ?_; rintro e w4 ⟨v4, rfl, hv4, k4⟩
      have hL4 : FsL w4 v4 (G ++ [t]) := hv4.ndsL htG2.2 htG2.1
      go_wp2_with fail
      refine (HBr.out _ w4 hL4).mono ?_; rintro e w5 ⟨rfl, k5⟩
      go_wp2_with fail
      go_ret2
      exact ⟨rfl, (((kA.trans k2).trans k3).trans k4).trans k5⟩
  · obtain ⟨p1, n1, q1, rfl⟩ := NdsL.shapeL hv
    obtain ⟨p2, n2, q2, rfl⟩ := hu.shape
    obtain ⟨p3, n3, q3, rfl⟩ := NdsL.shapeL hvi
    have kA := (Keeps.refl w).alloc (.cells #[.slice p1 n1 q1, .slice p2 n2 q2] 42)
    have pa : (w.alloc (.cells #[.slice p1 n1 q1, .slice p2 n2 q2] 42)).cell? ⟨w.heap.size, 0, none⟩ = some (.slice p1 n1 q1) := by simp
    have pb : (w.alloc (.cells #[.slice p1 n1 q1, .slice p2 n2 q2] 42)).cell? ⟨w.heap.size, 1, none⟩ = some (.slice p2 n2 q2) := by simp
    have hC := ruleCode_nil xs c _ _ _ (hv.keeps kA) (hu.keeps kA)
    rw [hr0] at hC
    have hI := fun w2 (k : Keeps w w2) => imagesCode_any 0 ims _ w2 (hvi.keeps k)
    rw [hr0] at h
    rw [h] at hI
    have hX := fun w2 (k : Keeps w w2) => imageOf_any xs c ims _ _ _ w2 (hv.keeps k) (hu.keeps k) (hvi.keeps k) (fun a ha => (hall a ha).1) h6 (fun a ha => by have := hsl a ha; omega) (by omega)
    rw [hGe, hte] at hX
    have HC := hid hC
    have HI := hid hI
    have HX := hid hX
    have htG : tot (G.map Fm.enc) ≤ 1600 * (G.map Fm.enc).length := tot_most _ 1600 (fun x hx => by obtain ⟨a, ha, rfl⟩ := List.mem_map.1 hx; exact hGl a (List.mem_append.2 (.inl ha)))
    have htG2 : tot (G.map Fm.enc) ≤ 2147483648 ∧ (G.map Fm.enc).length ≤ 2147483648 := by simp at htG ⊢; omega
    have htl := hGl t (by simp)
    have HF := hid (fun v u w2 (h1 : NdsL w2 v (G.map Fm.enc)) (h2 : Nds w2 u t.enc) => formulas_any (G.map Fm.enc) t.enc v u w2 h1 h2 (by simp; omega))
    have hS := fun v w2 (h : NdsL w2 v ((G ++ [t]).map Fm.enc)) => haveSmall_any _ v w2 h
    rw [hany] at hS
    have hmap : (G ++ [t]).map Fm.enc = G.map Fm.enc ++ [t.enc] := by simp
    rw [hmap] at hS
    clear hv hu hvi hC hI hX hmost hmost2 himg hany hmap
    cases hbig : ((G ++ [t]).any fun a => decide (20 < a.enc.length)) with
    | true =>
      rw [hbig] at hS
      have HS := hid hS
      simp only [if_true]
      clear hbig hS
      go_enter Tryz.func29, Tryz.ntmps29
      go_wp2_with fail
      refine HC.out.mono ?_; rintro e w2 ⟨rfl, k2⟩
      obtain ⟨qa, qb⟩ := cells_keeps k2 (And.intro pa pb)
      go_wp2_with fail
      refine (HI.out w2 (kA.trans k2)).mono ?_; rintro e w3 ⟨rfl, k3⟩
      obtain ⟨qa3, qb3⟩ := cells_keeps k3 (And.intro qa qb)
      have k03 := (kA.trans k2).trans k3
      go_wp2_with fail
      refine (HX.out w3 k03).mono ?_; rintro e w4 ⟨v4, u4, rfl, hR, k4⟩
      have hL4 := hR.ndsL htG2.2 htG2.1
      have hu4 := hR.nds (by omega)
      obtain ⟨p4, n4, q4, rfl⟩ := NdsL.shapeL hL4
      obtain ⟨p5, n5, q5, rfl⟩ := hu4.shape
      have kl := (Keeps.refl w4).alloc (.cells #[.slice p4 n4 q4, .slice p5 n5 q5] 42)
      have HF4 := hid (HF.out _ _ _ (hL4.keeps kl) (hu4.keeps kl))
      clear hR hL4 hu4
      go_wp2_with fail
      refine HF4.out.mono ?_; rintro e w5 ⟨v5, rfl, hv5, k5⟩
      go_wp2_with fail
      refine (HS.out _ w5 hv5).mono ?_; rintro e w6 ⟨rfl, k6⟩
      go_wp2_with fail
      go_ret2
      exact ⟨rfl, ((k03.trans k4).trans (kl.trans k5)).trans k6⟩
    | false =>
      have hl20 : ∀ a ∈ G ++ [t], a.enc.length ≤ 20 := fun a ha => by
        have := List.any_eq_false.1 hbig a ha
        simp at this; omega
      have HBr := hid (fun v u w2 (h1 : FsL w2 v G) (h2 : Nds w2 u t.enc) => isBroken_any G t hG ht hl20 v u w2 h1 h2)
      rw [hbig] at hS
      have HS := hid hS
      simp only [Bool.false_eq_true, if_false]
      clear hbig hS
      go_enter Tryz.func29, Tryz.ntmps29
      go_wp2_with fail
      refine HC.out.mono ?_; rintro e w2 ⟨rfl, k2⟩
      obtain ⟨qa, qb⟩ := cells_keeps k2 (And.intro pa pb)
      go_wp2_with fail
      refine (HI.out w2 (kA.trans k2)).mono ?_; rintro e w3 ⟨rfl, k3⟩
      obtain ⟨qa3, qb3⟩ := cells_keeps k3 (And.intro qa qb)
      have k03 := (kA.trans k2).trans k3
      go_wp2_with fail
      refine (HX.out w3 k03).mono ?_; rintro e w4 ⟨v4, u4, rfl, hR, k4⟩
      have hL4 := hR.ndsL htG2.2 htG2.1
      have hu4 := hR.nds (by omega)
      obtain ⟨p4, n4, q4, rfl⟩ := NdsL.shapeL hL4
      obtain ⟨p5, n5, q5, rfl⟩ := hu4.shape
      have kl := (Keeps.refl w4).alloc (.cells #[.slice p4 n4 q4, .slice p5 n5 q5] 42)
      have ra : (w4.alloc (.cells #[.slice p4 n4 q4, .slice p5 n5 q5] 42)).cell? ⟨w4.heap.size, 0, none⟩ = some (.slice p4 n4 q4) := by simp
      have rb : (w4.alloc (.cells #[.slice p4 n4 q4, .slice p5 n5 q5] 42)).cell? ⟨w4.heap.size, 1, none⟩ = some (.slice p5 n5 q5) := by simp
      have HF4 := hid (HF.out _ _ _ (hL4.keeps kl) (hu4.keeps kl))
      have HBr4 := hid (fun w2 (k : Keeps w4 w2) => HBr.out _ _ w2 (hL4.keeps k) (hu4.keeps k))
      clear hR hL4 hu4
      go_wp2_with fail
      refine HF4.out.mono ?_; rintro e w5 ⟨v5, rfl, hv5, k5⟩
      go_wp2_with fail
      refine (HS.out _ w5 hv5).mono ?_; rintro e w6 ⟨rfl, k6⟩
      obtain ⟨s1, s2⟩ := cells_keeps (k5.trans k6) (And.intro ra rb)
      go_wp2_with fail
      refine (HBr4.out w6 (kl.trans (k5.trans k6))).mono ?_; rintro e w7 ⟨rfl, k7⟩
      go_wp2_with fail
      go_ret2
      exact ⟨rfl, ((k03.trans k4).trans (kl.trans (k5.trans k6))).trans k7⟩
theorem bothBreaks (xs : List (List Nd)) (c : List Nd) (ims : List (List Nd)) : ∃ b k, BothRL 28 29 xs c ims b k := by
  by_cases h : imgErr (ruleErr xs c) ims = 0
  · obtain ⟨h0, hs, hp⟩ := imgErr_zero h
    have hpe : plainErrs (xs ++ [c]) = 0 := by
      have h1 := h0
      unfold ruleErr at h1
      split at h1
      · omega
      · exact h1
    obtain ⟨G, rfl, hG⟩ := list_trees (l := xs) (fun x hx => plain_each hpe x (List.mem_append.2 (.inl hx)))
    obtain ⟨t, hw, rfl, hpl, _⟩ := plain_tree (plain_each hpe c (by simp))
    obtain ⟨G', h1, h2⟩ := trees_sub hs hp G hG
    obtain ⟨t', h3, h4⟩ := sub_fm hs hp t ⟨hw, hpl⟩
    exact ⟨_, _, breaks_ok _ _ ims h G' t' h2 h4 h1 h3⟩
  · exact ⟨_, _, breaks_err xs c ims h⟩
end Go.Proofs.YtajjlnonmaghlaaGreat
