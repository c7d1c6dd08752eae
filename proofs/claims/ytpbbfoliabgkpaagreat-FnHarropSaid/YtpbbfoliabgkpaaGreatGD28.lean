/- FnHarrop: the walk of the law. -/
import Derived.Test.YtpbbfoliabgkpaaGreatGD27
import Derived.Test.YtpbbfoliabgkpaaGreatGK1
import Derived.Test.YtpbbfoliabgkpaaGreatGPH
import Derived.Test.YtpbbfoliabgkpaaGreatGD10
namespace Go.Proofs.YtpbbfoliabgkpaaGreat
open Go.RowKit
theorem harrop_prop : ∀ t : Fm, t.plain = true → t.harrop = true → HarropF t := by
  intro t
  induction t with
  | var i => intro _ _; trivial
  | fls => intro _ _; trivial
  | and a b iha ihb =>
    intro hp hh
    simp only [Fm.plain, Bool.and_eq_true] at hp
    simp only [Fm.harrop, Bool.and_eq_true] at hh
    exact ⟨iha hp.1 hh.1, ihb hp.2 hh.2⟩
  | or a b _ _ => intro _ hh; simp [Fm.harrop] at hh
  | imp a b _ ihb =>
    intro hp hh
    simp only [Fm.plain, Bool.and_eq_true] at hp
    exact ihb hp.2 hh
  | box a _ => intro hp; simp [Fm.plain] at hp
  | dia a _ => intro hp; simp [Fm.plain] at hp
--
set_option maxHeartbeats 400000 in
theorem harropFacts (a : List Nd) : ∃ b c, BothIsHarrop a b c ∧ ((c = 0 ∧ ∃ t, OkF t ∧ a = t.enc ∧ a.length ≤ 40 ∧ b = t.harrop) ∨ (c ≠ 0 ∧ b = false)) := by
  have hne := fun (v : Value) (w : World) (hv : Nds w v a) => plainCode_any [a] _ _ (NdsL.lit1 hv)
  rw [plainErrs_one] at hne
  by_cases h : plainErr a = 0
  · obtain ⟨t, hw, rfl, hp, hl⟩ := plain_tree h
    rw [h] at hne
    have H := hid h; clear h
    have HN := hid hne; clear hne
    refine ⟨t.harrop, 0, ⟨fun v w hv => ?_, fun v w hv => ?_⟩, .inl ⟨rfl, t, ⟨hw, hp⟩, rfl, hl, rfl⟩⟩
    · try clear hcpy
      go_enter Tryz.func11, Tryz.ntmps11
      go_wp2_with (first | (go_at_call 63; refine (l29Code_any _ _ _ hv).mono ?_; rintro e w' ⟨rfl, rfl⟩; rw [H.out]) | (go_at_call 64; refine (l29Harrop_any t  _ _ hv).mono ?_; rintro e w' ⟨rfl, rfl⟩))
      go_ret2
      exact ⟨rfl, Keeps.refl _⟩
    · try clear hcpy
      obtain ⟨p, n, cap, rfl⟩ := hv.shape
      have k1 := (Keeps.refl w).alloc (.cells #[.slice p n cap] 24)
      go_enter Tryz.func10, Tryz.ntmps10
      go_wp2_with (first | (go_at_call 61; refine (HN.out _ _ hv).mono ?_; rintro e w2 ⟨rfl, k2⟩) | (go_at_call 62; refine (isHarrop_any t  _ _ (hv.keeps (k1.trans k2))).mono ?_; rintro e w' ⟨rfl, rfl⟩))
      go_ret2
      exact ⟨rfl, k1.trans k2⟩
  · have h' : (plainErr a != 0) = true := by simp [h]
    have hcpy := h
    have H := hid h; clear h
    have HN := hid hne; clear hne
    refine ⟨false, plainErr a, ⟨fun v w hv => ?_, fun v w hv => ?_⟩, .inr ⟨hcpy, rfl⟩⟩
    · try clear hcpy
      go_enter Tryz.func11, Tryz.ntmps11
      go_wp2_with (go_at_call 63; refine (l29Code_any _ _ _ hv).mono ?_; rintro e w' ⟨rfl, rfl⟩)
      go_ret2
      exact ⟨rfl, Keeps.refl _⟩
    · try clear hcpy
      obtain ⟨p, n, cap, rfl⟩ := hv.shape
      have k1 := (Keeps.refl w).alloc (.cells #[.slice p n cap] 24)
      go_enter Tryz.func10, Tryz.ntmps10
      go_wp2_with (go_at_call 61; refine (HN.out _ _ hv).mono ?_; rintro e w2 ⟨rfl, k2⟩)
      go_ret2
      exact ⟨rfl, k1.trans k2⟩
set_option maxRecDepth 20000 in
set_option maxHeartbeats 1000000 in
theorem formulaText_any (t : Fm) (ht : OkF t) (hl : t.enc.length ≤ 40) (v : Value) (w : World) (hv : Nds w v t.enc) :
    Calls Tryz.prog 12 #[v] w fun e w' => ∃ s, e = .returned (.tuple #[.string s, .int .i64 0]) ∧ bts s = t.body ∧ Keeps w w' := by
  have HI := hid (isFormula_any t.enc v w hv)
  have hf : isFm t.enc = true := by unfold isFm; rw [isTree_of_enc ht.1, decide_eq_true hl]; rfl
  rw [hf] at HI
  have HT := hid (fun w2 (k : Keeps w w2) => text_any t ht.1 (by omega) v w2 (hv.keeps k))
  clear hv
  go_enter Tryz.func12, Tryz.ntmps12
  go_wp2_with fail
  refine HI.out.mono ?_; rintro e w2 ⟨rfl, k2⟩
  go_wp2_with fail
  refine (HT.out _ k2).mono ?_; rintro e w3 ⟨s, rfl, hs, k3⟩
  go_wp2_with fail
  go_ret2
  exact ⟨s, rfl, hs, k2.trans k3⟩
set_option maxRecDepth 20000 in
set_option maxHeartbeats 4000000 in
theorem lawHarrop (v : Value) (n : Nat) (w : World) (hv : Bts w v n) :
    Calls Tryz.prog 3 #[v] w fun e w' => e = .returned (.bool true) ∧ Keeps w w' := by
  have HBig := hid (big_any v n w hv)
  by_cases hn : 4096 < n
  · rw [decide_eq_true hn] at HBig
    go_enter Tryz.func3, Tryz.ntmps3
    go_wp2_with fail
    refine HBig.out.mono ?_; rintro e w' ⟨rfl, rfl⟩
    go_wp2_with fail
    go_ret
    exact ⟨rfl, Keeps.refl _⟩
  · rw [decide_eq_false hn] at HBig
    have HD := hid (drawIsHarrop_any v n w hv (by omega))
    have HP := hid (fun w2 (k : Keeps w w2) => drawProvedDisjunct_any v n w2 (hv.keeps k) (by omega))
    obtain ⟨pv, cv, rfl, _⟩ := hv
    go_enter Tryz.func3, Tryz.ntmps3
    go_wp2_with fail
    refine HBig.out.mono ?_; rintro e w' ⟨rfl, rfl⟩
    go_wp2_with fail
    refine HD.out.mono ?_; rintro e w1 ⟨va, a, rfl, hva, hla, k1⟩
    have hna := hva.nds (by omega)
    obtain ⟨b, c, ⟨hS, hI⟩, hF⟩ := harropFacts a
    have HI := hid (hI va w1 hna)
    have HS := hid (fun w2 (k : Keeps w1 w2) => hS va w2 (hna.keeps k))
    have HF := hid hF
    have HNA := hid hna
    clear hS hI hF hva hna HD HBig
    have e1 : (c != c) = false := by simp
    have e2 : (b != b) = false := by simp
    go_wp2_with fail
    refine HI.out.mono ?_; rintro e w2 ⟨rfl, k2⟩
    go_wp2_with fail
    refine (HS.out w2 k2).mono ?_; rintro e w3 ⟨rfl, k3⟩
    have k23 := k2.trans k3
    have KW := hid (k1.trans k23)
    rcases HF.out with ⟨rfl, t, okt, rfl, hl40, rfl⟩ | ⟨hc, rfl⟩
    · have HT := hid (formulaText_any t okt hl40 va w3 (HNA.out.keeps k23))
      generalize hH : t.harrop = h at *
      clear HI HS HF
      go_wp2_with fail
      refine HT.out.mono ?_; rintro e w4 ⟨s, rfl, hs, k4⟩
      have hss := small_size hs hl40
      go_wp2_with fail
      refine (HP.out w4 (KW.out.trans k4)).mono ?_; rintro e w5 ⟨x, s1, s2, t1, t2, rfl, hx1, hx2, ok1, ok2, hl1, hl2, k5⟩
      have HQ := hid (provedDisjunct_any t t1 t2 okt ok1 ok2 s s1 s2 _ _ hs hss hl40 hx1 (by omega) hx2 (by omega) (Strs.lit1 w5 s))
      have ka := (Keeps.refl w5).alloc (.cells #[.string s] 9)
      have KF := hid (((KW.out.trans k4).trans k5).trans ka)
      go_wp2_with fail
      refine HQ.out.mono ?_; rintro e w6 ⟨m, four, rfl, k6, hm⟩
      have KG := hid (KF.out.trans k6)
      have hz : four = 0 → h = true → m ≠ 0 := by
        intro h4 hh hm0
        obtain ⟨q1, q2, q3⟩ := hm h4 hm0
        subst hh
        rcases harrop_or (harrop_prop t okt.2 hH) (sqB_iff.1 q1) with h5 | h5
        · rw [sqB_true h5] at q2; cases q2
        · rw [sqB_true h5] at q3; cases q3
      clear hm hH
      by_cases h4 : four = 0
      · have p4 : (four != 0) = false := by simp [h4]
        cases h with
        | true =>
          have pm : (m != 0) = true := by simp [hz h4 rfl]
          clear hz h4
          go_wp2_with fail
          go_ret
          exact ⟨rfl, KG.out⟩
        | false =>
          clear hz h4
          go_wp2_with fail
          go_ret
          exact ⟨rfl, KG.out⟩
      · have p4 : (four != 0) = true := by simp [h4]
        clear hz h4
        go_wp2_with fail
        go_ret
        exact ⟨rfl, KG.out⟩
    · have pc : (c != 0) = true := by simp [hc]
      clear hc HI HS HF
      go_wp2_with fail
      go_ret
      exact ⟨rfl, KW.out⟩
end Go.Proofs.YtpbbfoliabgkpaaGreat
