/- UnifiesFormula: both sides answer alike. -/
import Derived.Test.YtajjlnonmaghlaaGreatGY4
import Derived.Test.YtajjlnonmaghlaaGreatGY7
import Derived.Test.YtajjlnonmaghlaaGreatGSG
namespace Go.Proofs.YtajjlnonmaghlaaGreat
open Go.RowKit
/-- a substitution of plain formulas makes a plain formula of a plain formula -/
theorem sub_fm {ims : List (List Nd)} (hs : isSub ims = true) (hp : allPlainL ims = false) : ∀ t : Fm, OkF t → ∃ u, sub ims t.enc = u.enc ∧ OkF u := by
  have hs' := hs
  simp only [isSub, Bool.and_eq_true, decide_eq_true_eq] at hs'
  have hall : ∀ x ∈ ims, plainErr x = 0 := fun x hx => by
    have h1 := allFm_all hs'.1 x hx
    have h2 : plainL x = true := by
      simp only [allPlainL, List.any_eq_false, Bool.not_eq_true', Bool.not_eq_false] at hp
      exact hp x hx
    simp [plainErr, h1, h2]
  intro t
  induction t with
  | var i =>
    intro ht
    have hi : i < ims.length := by have : i < 6 := ht.1; omega
    obtain ⟨u, hw, e, hpl, _⟩ := plain_tree (hall ims[i] (List.getElem_mem hi))
    refine ⟨u, ?_, hw, hpl⟩
    simp [Fm.enc, sub, subN, List.getD_eq_getElem?_getD, hi, e]
  | fls => intro _; exact ⟨.fls, by simp [Fm.enc, sub, subN], okF_fls⟩
  | and x y hx hy =>
    intro ht
    obtain ⟨u, h1, h2⟩ := hx (OkF.and ht).1
    obtain ⟨v, h3, h4⟩ := hy (OkF.and ht).2
    exact ⟨.and u v, by simp [Fm.enc, sub, subN, sub_append, h1, h3], ⟨h2.1, h4.1⟩, by simp [Fm.plain, h2.2, h4.2]⟩
  | or x y hx hy =>
    intro ht
    obtain ⟨u, h1, h2⟩ := hx (OkF.or ht).1
    obtain ⟨v, h3, h4⟩ := hy (OkF.or ht).2
    exact ⟨.or u v, by simp [Fm.enc, sub, subN, sub_append, h1, h3], ⟨h2.1, h4.1⟩, by simp [Fm.plain, h2.2, h4.2]⟩
  | imp x y hx hy =>
    intro ht
    obtain ⟨u, h1, h2⟩ := hx (OkF.imp ht).1
    obtain ⟨v, h3, h4⟩ := hy (OkF.imp ht).2
    exact ⟨.imp u v, by simp [Fm.enc, sub, subN, sub_append, h1, h3], ⟨h2.1, h4.1⟩, by simp [Fm.plain, h2.2, h4.2]⟩
  | box x _ => intro ht; exact absurd ht.2 (by simp [Fm.plain])
  | dia x _ => intro ht; exact absurd ht.2 (by simp [Fm.plain])
theorem NdsL.lit1N {w : World} {N : Nat} (hN : N = w.heap.size) {u : Value} {x : List Nd} (h : Nds w u x) : NdsL (w.alloc (.cells #[u] 26)) (.slice (some ⟨N, 0, none⟩) 1 1) [x] := by
  subst hN; exact NdsL.lit1 h
theorem fm_nodes {a : List Nd} (h : plainErr a = 0) : a.all okNd = true := by
  unfold plainErr at h
  split at h
  · rename_i hf
    exact (isFm_ok hf).1
  · cases h
theorem wt_small {c : Fm} (h : c.enc.length ≤ 20) : wt c ≤ 1048576 := Nat.le_trans (wt_le_pow c) (pow20 h)
set_option maxRecDepth 20000 in
theorem isTheorem_any (c : Fm) (hc : OkF c) (hl : c.enc.length ≤ 20) (v : Value) (w : World) (hv : Nds w v c.enc) :
    Calls Tryz.prog 48 #[v] w fun e w' => e = .returned (.bool (sqB [] c)) ∧ Keeps w w' := by
  have hwt := wt_small hl
  have HT := hid (text_any c hc.1 (by omega) v w hv)
  have HP := hid (fun s (hs : bts s = c.body) w2 => provable_any [] c okL_nil hc (by simp only [wts]; omega) s (.slice none 0 0) w2 (Left.nil w2) hs)
  clear hv
  go_enter Tryz.func48, Tryz.ntmps48
  go_wp2_with fail
  refine HT.out.mono ?_; rintro e w1 ⟨s, rfl, hs, k1⟩
  go_wp2_with fail
  refine (HP.out s hs w1).mono ?_; rintro e w2 ⟨rfl, k2⟩
  go_wp2_with fail
  go_ret
  exact ⟨rfl, k1.trans k2⟩
/-- both sides answer b and c -/
def BothTwo (S I : FuncId) (a : List Nd) (l : List (List Nd)) (b : Bool) (c : Int) : Prop :=
  (∀ (v u : Value) (w : World), Nds w v a → NdsL w u l → Calls Tryz.prog S #[v, u] w (fun e w' => e = .returned (.tuple #[.bool b, .int .i64 c]) ∧ Keeps w w')) ∧
  (∀ (v u : Value) (w : World), Nds w v a → NdsL w u l → Calls Tryz.prog I #[v, u] w (fun e w' => e = .returned (.tuple #[.bool b, .int .i64 c]) ∧ Keeps w w'))
theorem plainErr_range (a : List Nd) : plainErr a = 0 ∨ plainErr a = 1 ∨ plainErr a = 5 := by
  by_cases h : plainErr a = 0
  · exact .inl h
  · exact .inr (plainErr_ne h)
set_option maxRecDepth 20000 in
set_option maxHeartbeats 2000000 in
theorem unifies_err (a : List Nd) (ims : List (List Nd)) (h : imgErr (plainErr a) ims ≠ 0) : BothTwo 17 19 a ims false (imgErr (plainErr a) ims) := by
  have h' : (imgErr (plainErr a) ims != 0) = true := by simp [h]
  have H := hid h; clear h
  have HR := hid (plainErr_range a)
  refine ⟨fun v u w hv hu => ?_, fun v u w hv hu => ?_⟩
  · obtain ⟨p, n, q, rfl⟩ := hv.shape
    obtain ⟨p2, n2, q2, rfl⟩ := NdsL.shapeL hu
    have k1 := (Keeps.refl w).alloc (.cells #[.slice p n q] 26)
    have h1 := l31Plain_any [a] _ _ (NdsL.lit1 hv)
    rw [plainErrs_one] at h1
    have H1 := hid h1
    have H2 := hid (l31Images_any ims _ _ (hu.keeps k1))
    clear hv hu h1
    go_enter Tryz.func17, Tryz.ntmps17
    go_wp2_with fail
    refine H1.out.mono ?_; rintro e w2 ⟨rfl, rfl⟩
    go_wp2_with fail
    refine H2.out.mono ?_; rintro e w2 ⟨rfl, rfl⟩
    go_wp2_with fail
    refine (l31Both_any (plainErr a) ims _ HR.out).mono ?_; rintro e w2 ⟨rfl, rfl⟩
    go_wp2_with fail
    go_ret2
    exact ⟨rfl, k1⟩
  · obtain ⟨p, n, q, rfl⟩ := hv.shape
    obtain ⟨p2, n2, q2, rfl⟩ := NdsL.shapeL hu
    have k1 := (Keeps.refl w).alloc (.cells #[.slice p n q] 26)
    have h1 := plainCode_any [a] _ _ (NdsL.lit1 hv)
    rw [plainErrs_one] at h1
    have H1 := hid h1
    have H2 := hid (fun w2 (k : Keeps w w2) => imagesCode_any (plainErr a) ims _ w2 (hu.keeps k))
    clear hv hu h1
    go_enter Tryz.func19, Tryz.ntmps19
    go_wp2_with fail
    refine H1.out.mono ?_; rintro e w2 ⟨rfl, k2⟩
    go_wp2_with fail
    refine (H2.out w2 (k1.trans k2)).mono ?_; rintro e w3 ⟨rfl, k3⟩
    go_wp2_with fail
    go_ret2
    exact ⟨rfl, (k1.trans k2).trans k3⟩
set_option maxRecDepth 20000 in
set_option maxHeartbeats 2000000 in
theorem unifies_ok (t : Fm) (hl : t.enc.length ≤ 40) (he : plainErr t.enc = 0) (ims : List (List Nd)) (h : imgErr (plainErr t.enc) ims = 0) (u : Fm) (hu : sub ims t.enc = u.enc) (hok : OkF u) :
    BothTwo 17 19 t.enc ims (if 20 < u.enc.length then false else sqB [] u) (if 20 < u.enc.length then 3 else 0) := by
  obtain ⟨_, hs, hp⟩ := imgErr_zero h
  obtain ⟨h6, h40⟩ := isSub_facts hs
  have hnd := (fm_nodes he)
  have hlen : (sub ims t.enc).length ≤ 1600 := by
    have h1 := sub_len h40 (by omega) t.enc
    have h3 : 40 * t.enc.length ≤ 40 * 40 := Nat.mul_le_mul_left _ hl
    omega
  have hul : u.enc.length ≤ 1600 := by rw [← hu]; exact hlen
  have hmost : mostL [u.enc] = u.enc.length := by simp [mostL]
  refine ⟨fun v u1 w hv hu1 => ?_, fun v u1 w hv hu1 => ?_⟩
  · obtain ⟨p, n, q, rfl⟩ := hv.shape
    obtain ⟨p2, n2, q2, rfl⟩ := NdsL.shapeL hu1
    have k1 := (Keeps.refl w).alloc (.cells #[.slice p n q] 26)
    have h1 := l31Plain_any [t.enc] _ _ (NdsL.lit1 hv)
    rw [plainErrs_one, he] at h1
    have h3 := l31Both_any 0 ims (w.alloc (.cells #[.slice p n q] 26)) (.inl rfl)
    rw [he] at h
    rw [h] at h3
    have k2 := k1.alloc (.cells #[.slice p n q] 26)
    have h4 := l31Image_any ims [t.enc] _ _ _ (NdsL.lit1N (N := w.heap.size + 1) (w := w.alloc (.cells #[.slice p n q] 26)) (by simp) (hv.keeps k1)) (hu1.keeps k2) (fun a ha => by rw [List.mem_singleton.1 ha]; exact hnd) h6 (fun a ha => by rw [List.mem_singleton.1 ha]; omega) (by simp)
    rw [show [t.enc].map (sub ims) = [u.enc] by simp [hu], hmost] at h4
    have H1 := hid h1
    have H2 := hid (l31Images_any ims _ _ (hu1.keeps k1))
    have H3 := hid h3
    have H4 := hid h4
    clear h1 h3 h4 hv hu1 hu h hs hp he hmost
    by_cases hbig : 20 < u.enc.length
    · rw [if_pos hbig, if_pos hbig]
      have hb2 : (20 : Int) < u.enc.length := by omega
      go_enter Tryz.func17, Tryz.ntmps17
      go_wp2_with fail
      refine H1.out.mono ?_; rintro e w2 ⟨rfl, rfl⟩
      go_wp2_with fail
      refine H2.out.mono ?_; rintro e w2 ⟨rfl, rfl⟩
      go_wp2_with fail
      refine H3.out.mono ?_; rintro e w2 ⟨rfl, rfl⟩
      go_wp2_with fail
      refine H4.out.mono ?_; rintro e w2 ⟨v2, rfl, hv2, k3⟩
      go_wp2_with fail
      go_ret2
      exact ⟨rfl, k2.trans k3⟩
    · rw [if_neg hbig, if_neg hbig]
      have hb2 : ¬ (20 : Int) < u.enc.length := by omega
      have HT := hid (fun v w2 (hv : Nds w2 v u.enc) => l31Theorem_any u hok (by omega) v w2 hv)
      go_enter Tryz.func17, Tryz.ntmps17
      go_wp2_with fail
      refine H1.out.mono ?_; rintro e w2 ⟨rfl, rfl⟩
      go_wp2_with fail
      refine H2.out.mono ?_; rintro e w2 ⟨rfl, rfl⟩
      go_wp2_with fail
      refine H3.out.mono ?_; rintro e w2 ⟨rfl, rfl⟩
      go_wp2_with fail
      refine H4.out.mono ?_; rintro e w2 ⟨v2, rfl, hv2, k3⟩
      have hL := hv2.ndsL (by simp) (by simp [tot]; omega)
      obtain ⟨p4, n4, c4, rfl⟩ := NdsL.shapeL hL
      obtain ⟨b5, o5, u5, e, hc5, hu5⟩ := hL.get 0 (by simp)
      subst e
      rw [Nat.add_zero] at hc5
      simp only [List.getElem_cons_zero] at hu5
      obtain ⟨n4pos, hcap4⟩ : 0 < n4 ∧ n4 ≤ c4 := by obtain ⟨_, _, e, g1, _⟩ := hL; cases e; exact ⟨by simp, by simpa using g1⟩
      have HU5 := hid hu5
      clear hL hv2 hu5
      go_wp2_with fail
      refine (HT.out _ _ HU5.out).mono ?_; rintro e w3 ⟨rfl, k4⟩
      go_wp2_with fail
      go_ret2
      exact ⟨rfl, (k2.trans k3).trans k4⟩
  · obtain ⟨p, n, q, rfl⟩ := hv.shape
    obtain ⟨p2, n2, q2, rfl⟩ := NdsL.shapeL hu1
    have k1 := (Keeps.refl w).alloc (.cells #[.slice p n q] 26)
    have h1 := plainCode_any [t.enc] _ _ (NdsL.lit1 hv)
    rw [plainErrs_one, he] at h1
    rw [he] at h
    have h2 := fun w2 (k : Keeps w w2) => imagesCode_any 0 ims _ w2 (hu1.keeps k)
    rw [h] at h2
    have h3 := fun w2 (k : Keeps w w2) => substitute_any ims t.enc _ _ w2 (hv.keeps k) (hu1.keeps k) hnd h6 (by omega)
    rw [hu] at h3
    have H1 := hid h1
    have H2 := hid h2
    have H3 := hid h3
    have hsm : (!([u.enc].any fun x => decide (20 < x.length))) = decide (¬ 20 < u.enc.length) := by rw [Bool.eq_iff_iff]; simp
    have HS := hid (fun v w2 (hv : Nds w2 v u.enc) => haveSmall_any [u.enc] _ (w2.alloc (.cells #[v] 26)) (NdsL.lit1 hv))
    rw [hsm] at HS
    clear h1 h2 h3 hv hu1 hu h hs hp he hmost hsm
    by_cases hbig : 20 < u.enc.length
    · rw [if_pos hbig, if_pos hbig]
      rw [decide_eq_false (fun h => h hbig)] at HS
      go_enter Tryz.func19, Tryz.ntmps19
      go_wp2_with fail
      refine H1.out.mono ?_; rintro e w2 ⟨rfl, k2⟩
      go_wp2_with fail
      refine (H2.out w2 (k1.trans k2)).mono ?_; rintro e w3 ⟨rfl, k3⟩
      have k03 := (k1.trans k2).trans k3
      go_wp2_with fail
      refine (H3.out w3 k03).mono ?_; rintro e w4 ⟨v4, rfl, hv4, k4⟩
      have hn4 := hv4.nds (by omega)
      obtain ⟨p4, n4, c4, rfl⟩ := hn4.shape
      go_wp2_with fail
      refine (HS.out _ w4 hn4).mono ?_; rintro e w5 ⟨rfl, k5⟩
      go_wp2_with fail
      go_ret2
      exact ⟨rfl, ((k03.trans k4).alloc _).trans k5⟩
    · rw [if_neg hbig, if_neg hbig]
      rw [decide_eq_true hbig] at HS
      have HT := hid (fun v w2 (hv : Nds w2 v u.enc) => isTheorem_any u hok (by omega) v w2 hv)
      go_enter Tryz.func19, Tryz.ntmps19
      go_wp2_with fail
      refine H1.out.mono ?_; rintro e w2 ⟨rfl, k2⟩
      go_wp2_with fail
      refine (H2.out w2 (k1.trans k2)).mono ?_; rintro e w3 ⟨rfl, k3⟩
      have k03 := (k1.trans k2).trans k3
      go_wp2_with fail
      refine (H3.out w3 k03).mono ?_; rintro e w4 ⟨v4, rfl, hv4, k4⟩
      have hn4 := hv4.nds (by omega)
      obtain ⟨p4, n4, c4, rfl⟩ := hn4.shape
      have kl := (Keeps.refl w4).alloc (.cells #[.slice p4 n4 c4] 26)
      go_wp2_with fail
      refine (HS.out _ w4 hn4).mono ?_; rintro e w5 ⟨rfl, k5⟩
      go_wp2_with fail
      refine (HT.out _ w5 (hn4.keeps (kl.trans k5))).mono ?_; rintro e w6 ⟨rfl, k6⟩
      go_wp2_with fail
      go_ret2
      exact ⟨rfl, ((k03.trans k4).trans (kl.trans k5)).trans k6⟩
theorem bothUnifies (a : List Nd) (ims : List (List Nd)) : ∃ b c, BothTwo 17 19 a ims b c := by
  by_cases h : imgErr (plainErr a) ims = 0
  · obtain ⟨h0, hs, hp⟩ := imgErr_zero h
    obtain ⟨t, hw, rfl, hpl, hl⟩ := plain_tree h0
    obtain ⟨u, hu, hok⟩ := sub_fm hs hp t ⟨hw, hpl⟩
    exact ⟨_, _, unifies_ok t hl h0 ims h u hu hok⟩
  · exact ⟨_, _, unifies_err a ims h⟩
end Go.Proofs.YtajjlnonmaghlaaGreat
