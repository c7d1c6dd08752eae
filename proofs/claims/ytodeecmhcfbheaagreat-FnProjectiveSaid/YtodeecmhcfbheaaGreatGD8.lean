/- ProjectiveMask and LiftSubstitution, with what they hand back told; the law of lifted substitutions. (printed by mkd6.py) -/
import Derived.Test.YtodeecmhcfbheaaGreatGYA
import Derived.Test.YtodeecmhcfbheaaGreatGM5
import Derived.Test.YtodeecmhcfbheaaGreatGZF
import Derived.Test.YtodeecmhcfbheaaGreatGRB
namespace Go.Proofs.YtodeecmhcfbheaaGreat
open Go.RowKit
set_option maxRecDepth 20000 in
set_option maxHeartbeats 1000000 in
theorem pmBoth (a : List Nd) (hla : a.length ≤ 1048576) : ∃ x c, BothInt 44 43 a x c ∧ (c = 0 → ∃ (t : Fm) (b : Nat), a = t.enc ∧ OkF t ∧ t.enc.length ≤ 20 ∧ x = (b : Int) ∧ b < 64 ∧ b &&& vm t.enc = b ∧ PB t b = true) := by
  by_cases h : plainErr a = 0
  · obtain ⟨t, hw, rfl, hp, _⟩ := plain_tree h
    by_cases h20 : 20 < t.enc.length
    · refine ⟨0, 3, ⟨fun v w hv => ?_, fun v w hv => ?_⟩, fun h => by omega⟩
      · obtain ⟨p, n, cap, rfl⟩ := hv.shape
        have hnl := hv.lenIs
        have hn20 : (20 : Int) < n := by omega
        have hn1 : n ≤ 1048576 := by omega
        have h1 := l31Plain_any [t.enc] _ _ (NdsL.lit1 hv)
        rw [plainErrs_one, h] at h1
        have H1 := hid h1
        have k1 := (Keeps.refl w).alloc (.cells #[.slice p n cap] 24)
        clear hnl h1 hv h
        go_enter Tryz.func44, Tryz.ntmps44
        go_wp2_with fail
        refine H1.out.mono ?_; rintro e w2 ⟨rfl, rfl⟩
        go_wp2_with fail
        go_ret2
        exact ⟨rfl, k1⟩
      · obtain ⟨p, n, cap, rfl⟩ := hv.shape
        have h1 := smallFormulasCode_one t.enc hla _ _ (NdsL.lit1 hv)
        rw [show smCode t.enc = 3 by unfold smCode; rw [if_pos h, if_pos h20]] at h1
        have H1 := hid h1
        have k1 := (Keeps.refl w).alloc (.cells #[.slice p n cap] 24)
        clear h1 hv h
        go_enter Tryz.func43, Tryz.ntmps43
        go_wp2_with fail
        refine H1.out.mono ?_; rintro e w2 ⟨rfl, k2⟩
        go_wp2_with fail
        go_ret2
        exact ⟨rfl, k1.trans k2⟩
    · obtain ⟨b, hb⟩ := best_ex t (vm t.enc)
      refine ⟨_, _, ⟨fun v w hv => specPM_ok t ⟨hw, hp⟩ (by omega) h b hb v w hv, fun v w hv => implPM_ok t ⟨hw, hp⟩ (by omega) h b hb v w hv⟩, fun hc => ?_⟩
      have hb64 : b < 64 := by
        unfold pmC at hc
        split at hc
        · assumption
        · cases hc
      exact ⟨t, b, rfl, ⟨hw, hp⟩, by omega, by unfold pmX; rw [if_pos hb64], hb64, (hb.2.2 hb64).1, (hb.2.2 hb64).2⟩
  · have h' : (plainErr a != 0) = true := by simp [h]
    refine ⟨0, plainErr a, ⟨fun v w hv => ?_, fun v w hv => ?_⟩, fun hc => absurd hc h⟩
    · obtain ⟨p, n, cap, rfl⟩ := hv.shape
      have h1 := l31Plain_any [a] _ _ (NdsL.lit1 hv)
      rw [plainErrs_one] at h1
      have H1 := hid h1
      have H := hid h
      have k1 := (Keeps.refl w).alloc (.cells #[.slice p n cap] 24)
      clear h1 hv h
      go_enter Tryz.func44, Tryz.ntmps44
      go_wp2_with fail
      refine H1.out.mono ?_; rintro e w2 ⟨rfl, rfl⟩
      go_wp2_with fail
      go_ret2
      exact ⟨rfl, k1⟩
    · obtain ⟨p, n, cap, rfl⟩ := hv.shape
      have h1 := smallFormulasCode_one a hla _ _ (NdsL.lit1 hv)
      rw [show smCode a = plainErr a by unfold smCode; rw [if_neg h]] at h1
      have H1 := hid h1
      have k1 := (Keeps.refl w).alloc (.cells #[.slice p n cap] 24)
      clear h1 hv h
      go_enter Tryz.func43, Tryz.ntmps43
      go_wp2_with fail
      refine H1.out.mono ?_; rintro e w2 ⟨rfl, k2⟩
      go_wp2_with fail
      go_ret2
      exact ⟨rfl, k1.trans k2⟩
set_option maxRecDepth 20000 in
set_option maxHeartbeats 4000000 in
theorem bothLift_ok (a : List Nd) (m : Nat) (h : plainErr a = 0) (hm64 : m < 64) : BothLift a m (if bigL (liftL a m) then [] else liftL a m) (if bigL (liftL a m) then 3 else 0) := by
  have hne := fun (v : Value) (w : World) (hv : Nds w v a) => plainCode_any [a] _ _ (NdsL.lit1 hv)
  have hns := fun (v : Value) (w : World) (hv : Nds w v a) => l31Plain_any [a] _ _ (NdsL.lit1 hv)
  rw [plainErrs_one] at hne hns
  have HN := hid hne; clear hne
  have HS := hid hns; clear hns
  obtain ⟨hok, hla⟩ := plainErr_ok h
  rw [h] at HN HS
  clear h
  have hm : inR (m : Int) 0 63 = true := by simp [inR]; omega
  have hbig := liftL_big a m
  have hmem := liftF_mem a m (mem (vm a))
  have hlen := liftF_len a m (mem (vm a))
  change ∀ x ∈ liftL a m, _ at hmem
  change (liftL a m).length = 6 at hlen
  have htot := tot_bound _ _ hmem
  rw [hlen] at htot
  have hl2 := low_len (vm a) 6
  change (mem (vm a)).length ≤ 6 at hl2
  have HLI := hid (fun v w hv => lifted_any a m v w hv hok (by omega) hm64)
  have HLS := hid (fun v w hv => l31Lift_any a m v w hv hok (by omega) hm64)
  have HV := hid (fun v w hv => l02Variables_any a v w hv hok)
  have HF := hid (fun w => l01Full_any 6 w (by omega) (by omega))
  have HI := hid (fun w => l01In_any (m : Int) 0 63 w)
  have HM := hid (fun w => isMask6_any (m : Int) w)
  rw [hm] at HI HM
  have HOK := hid hok; clear hok
  refine ⟨fun v w hv => ?_, fun v w hv => ?_⟩
  · have hv0 := hv
    obtain ⟨p, cap, rfl, _, _, _, _⟩ := hv
    have k1 := (Keeps.refl w).alloc (.cells #[.slice p a.length cap] 24)
    by_cases hM : 0 < (mem (vm a)).length
    · by_cases hL : 40 < a.length + 2
      · have hbv : bigL (liftL a m) = true := by rw [hbig, decide_eq_true hM, decide_eq_true hL]; rfl
        rw [hbv]
        have d1 : decide (((mem (vm a)).length : Int) > 0) = true := by simp; omega
        have d2 : decide ((a.length : Int) + 2 > 40) = true := by simp; omega
        clear hbv hbig
        go_enter Tryz.func46, Tryz.ntmps46
        go_wp2_with fail
        refine (HS.out _ _ hv0).mono ?_; rintro e w' ⟨rfl, rfl⟩
        go_wp2_with fail
        refine (HF.out _).mono ?_; rintro e w' ⟨rfl, rfl⟩
        go_wp2_with fail
        refine (HI.out _).mono ?_; rintro e w' ⟨rfl, rfl⟩
        go_wp2_with fail
        refine (HV.out _ _ (hv0.keeps k1)).mono ?_; rintro e w2 ⟨u2, rfl, hu2, k2⟩
        obtain ⟨pu, cu, rfl, _, _, _, _⟩ := hu2.ints (by omega)
        go_wp2_with fail
        go_ret2
        exact ⟨_, rfl, ndsL_nil _, k1.trans k2⟩
      · have hbv : bigL (liftL a m) = false := by rw [hbig, decide_eq_false hL]; simp
        rw [hbv]
        have d1 : decide (((mem (vm a)).length : Int) > 0) = true := by simp; omega
        have d2 : decide ((a.length : Int) + 2 > 40) = false := by simp; omega
        clear hbv hbig
        go_enter Tryz.func46, Tryz.ntmps46
        go_wp2_with fail
        refine (HS.out _ _ hv0).mono ?_; rintro e w' ⟨rfl, rfl⟩
        go_wp2_with fail
        refine (HF.out _).mono ?_; rintro e w' ⟨rfl, rfl⟩
        go_wp2_with fail
        refine (HI.out _).mono ?_; rintro e w' ⟨rfl, rfl⟩
        go_wp2_with fail
        refine (HV.out _ _ (hv0.keeps k1)).mono ?_; rintro e w2 ⟨u2, rfl, hu2, k2⟩
        obtain ⟨pu, cu, rfl, _, _, _, _⟩ := hu2.ints (by omega)
        go_wp2_with fail
        refine (HLS.out _ _ (hv0.keeps (k1.trans k2))).mono ?_; rintro e w3 ⟨u3, rfl, hu3, k3⟩
        go_wp2_with fail
        go_ret2
        exact ⟨_, rfl, hu3.ndsL (by rw [hlen]; omega) (by omega), (k1.trans k2).trans k3⟩
    · have hbv : bigL (liftL a m) = false := by rw [hbig, decide_eq_false hM]; simp
      rw [hbv]
      have d1 : decide (((mem (vm a)).length : Int) > 0) = false := decide_eq_false (by omega)
      clear hbv hbig
      go_enter Tryz.func46, Tryz.ntmps46
      go_wp2_with fail
      refine (HS.out _ _ hv0).mono ?_; rintro e w' ⟨rfl, rfl⟩
      go_wp2_with fail
      refine (HF.out _).mono ?_; rintro e w' ⟨rfl, rfl⟩
      go_wp2_with fail
      refine (HI.out _).mono ?_; rintro e w' ⟨rfl, rfl⟩
      go_wp2_with fail
      refine (HV.out _ _ (hv0.keeps k1)).mono ?_; rintro e w2 ⟨u2, rfl, hu2, k2⟩
      obtain ⟨pu, cu, rfl, _, _, _, _⟩ := hu2.ints (by omega)
      go_wp2_with fail
      refine (HLS.out _ _ (hv0.keeps (k1.trans k2))).mono ?_; rintro e w3 ⟨u3, rfl, hu3, k3⟩
      go_wp2_with fail
      go_ret2
      exact ⟨_, rfl, hu3.ndsL (by rw [hlen]; omega) (by omega), (k1.trans k2).trans k3⟩
  · have hv0 := hv
    obtain ⟨p, cap, rfl, _, _, _, _⟩ := hv
    have k1 := (Keeps.refl w).alloc (.cells #[.slice p a.length cap] 24)
    clear hbig
    cases hb : bigL (liftL a m)
    · have HB0 := hid hb; clear hb
      simp only [Bool.false_eq_true, if_false]
      go_enter Tryz.func45, Tryz.ntmps45
      go_wp2_with fail
      refine (HN.out _ _ hv0).mono ?_; rintro e w2 ⟨rfl, k2⟩
      go_wp2_with fail
      refine (HM.out _).mono ?_; rintro e w' ⟨rfl, rfl⟩
      go_wp2_with fail
      refine (HLI.out _ _ (hv0.keeps (k1.trans k2))).mono ?_; rintro e w3 ⟨u3, rfl, hu3, k3⟩
      obtain ⟨g3, c3, e3, _, _⟩ := hu3.shape (by rw [hlen]; omega)
      rw [hlen] at e3
      subst e3
      have kk := (k1.trans k2)
      have hnl := hu3.ndsL (by rw [hlen]; omega) (by omega)
      have HB := hid (limitedAll_small _ _ _ hnl HB0.out)
      clear hnl
      go_wp2_with fail
      refine HB.out.mono ?_; rintro e w4 ⟨rfl, k4⟩
      go_wp2_with fail
      go_ret2
      exact ⟨_, rfl, (hu3.keeps k4).mono kk.size, (kk.trans k3).trans k4⟩
    · have HB0 := hid hb; clear hb
      simp only [if_true]
      go_enter Tryz.func45, Tryz.ntmps45
      go_wp2_with fail
      refine (HN.out _ _ hv0).mono ?_; rintro e w2 ⟨rfl, k2⟩
      go_wp2_with fail
      refine (HM.out _).mono ?_; rintro e w' ⟨rfl, rfl⟩
      go_wp2_with fail
      refine (HLI.out _ _ (hv0.keeps (k1.trans k2))).mono ?_; rintro e w3 ⟨u3, rfl, hu3, k3⟩
      obtain ⟨g3, c3, e3, _, _⟩ := hu3.shape (by rw [hlen]; omega)
      rw [hlen] at e3
      subst e3
      have kk := (k1.trans k2)
      have hnl := hu3.ndsL (by rw [hlen]; omega) (by omega)
      have HB := hid (limitedAll_big _ _ _ hnl HB0.out)
      clear hnl
      go_wp2_with fail
      refine HB.out.mono ?_; rintro e w4 ⟨rfl, k4⟩
      go_wp2_with fail
      go_ret2
      exact ⟨_, rfl, OwnL.nil _ _, (kk.trans k3).trans k4⟩
theorem mem_bit : ∀ (m : Fin 64) (r : Fin 6), ((r : Nat) : Int) ∈ mem m ↔ (m : Nat).testBit r = true := by decide +kernel
theorem liftF_get (a : List Nd) (mask : Nat) (r : Nat) (hr : r < 6) : ∀ (M : List Int) (l : List (List Nd)), (∀ x ∈ M, ∃ k : Nat, k < 6 ∧ x = k) → l.length = 6 →
    (M.foldl (fun l v => l.set v.toNat (liftI a mask v)) l).getD r [] = if (r : Int) ∈ M then liftI a mask r else l.getD r []
  | [], l, _, _ => by simp
  | x :: M, l, hM, hl => by
    obtain ⟨k, hk, rfl⟩ := hM x (by simp)
    rw [List.foldl_cons, liftF_get a mask r hr M _ (fun y hy => hM y (by simp [hy])) (by simp [hl])]
    by_cases h1 : (r : Int) ∈ M
    · rw [if_pos h1, if_pos (by simp [h1])]
    · rw [if_neg h1]
      by_cases h2 : r = k
      · subst h2
        rw [if_pos (by simp), List.getD_eq_getElem?_getD]
        simp [hl, hr]
      · have h3 : ¬ (r : Int) ∈ ((k : Int) :: M) := by
          intro h
          rcases List.mem_cons.1 h with h | h
          · omega
          · exact h1 h
        rw [if_neg h3, List.getD_eq_getElem?_getD, List.getD_eq_getElem?_getD, Int.toNat_natCast, List.getElem?_set_ne (fun e => h2 e.symm)]
theorem liftL_get (t : Fm) (_ht : OkF t) (b r : Nat) (hr : r < 6) : (liftL t.enc b).getD r [] = (Fm.imp t (.var r)).enc ∨ (liftL t.enc b).getD r [] = (Fm.and t (.var r)).enc ∨ (liftL t.enc b).getD r [] = (Fm.var r).enc := by
  have h := liftF_get t.enc b r hr (mem (vm t.enc)) (idL 6) (mem_range _) (idL_len 6)
  have e : liftL t.enc b = (mem (vm t.enc)).foldl (fun l v => l.set v.toNat (liftI t.enc b v)) (idL 6) := rfl
  rw [e, h]
  split
  · unfold liftI
    rw [Int.toNat_natCast]
    by_cases hb : b.testBit r = true
    · left; rw [if_pos hb]; simp [Fm.enc]
    · right; left; rw [if_neg hb]; simp [Fm.enc]
  · right; right
    have hr6 : r = 0 ∨ r = 1 ∨ r = 2 ∨ r = 3 ∨ r = 4 ∨ r = 5 := by omega
    rcases hr6 with rfl | rfl | rfl | rfl | rfl | rfl <;> rfl
/-- a lifted substitution as formulas -/
theorem lift_fm (t : Fm) (ht : OkF t) (b : Nat) : ∃ σ : List Fm, liftL t.enc b = σ.map Fm.enc ∧ OkL σ ∧ σ.length = 6 := by
  obtain ⟨h6, h⟩ := lift_trees t ht b
  have : ∀ l : List (List Nd), (∀ x ∈ l, ∃ u : Fm, x = u.enc ∧ OkF u) → ∃ σ : List Fm, l = σ.map Fm.enc ∧ OkL σ := by
    intro l
    induction l with
    | nil => intro _; exact ⟨[], rfl, okL_nil⟩
    | cons x l ih =>
      intro h
      obtain ⟨σ, rfl, hσ⟩ := ih (fun y hy => h y (by simp [hy]))
      obtain ⟨u, rfl, hu⟩ := h x (by simp)
      exact ⟨u :: σ, rfl, fun y hy => (List.mem_cons.1 hy).elim (fun e => e ▸ hu) (hσ y)⟩
  obtain ⟨σ, e, hσ⟩ := this _ h
  refine ⟨σ, e, hσ, ?_⟩
  rw [e, List.length_map] at h6
  exact h6
theorem sq_weak {G : List Fm} {c : Fm} (h : Sq [] c) : Sq G c := fun M w _ => h M w (fun a ha => by simp at ha)
/-- what a projective formula proves of a variable is what its lifted substitution makes a theorem -/
theorem lift_law (t : Fm) (ht : OkF t) (b r : Nat) (hr : r < 6) (σ : List Fm) (e : liftL t.enc b = σ.map Fm.enc) (h6 : σ.length = 6) (hu : Sq [] (sg σ t)) : sqB [] (sg σ (.var r)) = sqB [t] (.var r) := by
  have hg : (liftL t.enc b).getD r [] = (sg σ (.var r)).enc := by
    rw [e]
    simp [sg, subF, List.getD_eq_getElem?_getD, h6, hr]
  refine sqB_congr ⟨fun h => ?_, fun h => ?_⟩
  · rcases liftL_get t ht b r hr with h1 | h1 | h1
    · rw [enc_inj (hg.symm.trans h1)] at h
      exact sq_imp.1 h
    · rw [enc_inj (hg.symm.trans h1)] at h
      exact sq_weak (sq_and.1 h).2
    · rw [enc_inj (hg.symm.trans h1)] at h
      exact sq_weak h
  · have h2 := sq_subF (fun i => σ.getD i .fls) h
    intro M w hw
    refine h2 M w (fun a ha => ?_)
    simp at ha
    subst ha
    exact hu M w hw
end Go.Proofs.YtodeecmhcfbheaaGreat
/- FnProjective: the law. -/
namespace Go.Proofs.YtodeecmhcfbheaaGreat
open Go.RowKit
--
theorem big_any (v : Value) (n : Nat) (w : World) (hv : Bts w v n) : Calls Tryz.prog 9 #[v] w fun e w' => e = .returned (.bool (decide (4096 < n))) ∧ w = w' := by
  obtain ⟨p, c, rfl, hc, hm, _⟩ := hv
  unfold maxLen at hm
  go_enter Tryz.func9, Tryz.ntmps9
  go_wp2
  go_ret
  exact ⟨ret_bool (by rw [Bool.eq_iff_iff]; simp; omega), rfl⟩
theorem Bts.keeps {w w' : World} {v : Value} {n : Nat} (h : Bts w v n) (k : Keeps w w') : Bts w' v n := (BtsB.low h k).up k.size
/-- what is asked of a projective formula's lifted substitution -/
structure ProjOk (t : Fm) (b : Nat) : Prop where
  lift : ∃ L : List (List Nd), L.length = 6 ∧ tot L ≤ 1000 ∧ BothLift t.enc b L 0 ∧
    (∃ yes three, OneTwo 47 t.enc L yes three ∧ ((three = 3 ∧ yes = false) ∨ (three = 0 ∧ yes = true))) ∧
    ∀ r, r < 3 → ∃ d four bk six, BothRule 20 19 [t.enc] (Fm.var r).enc d four ∧
      (∀ (v u vi : Value) (w : World), NdsL w v [t.enc] → Nds w u (Fm.var r).enc → NdsL w vi L → Calls Tryz.prog 17 #[.agg #[v, u], vi] w (fun e w' => e = .returned (.tuple #[.bool bk, .int .i64 six]) ∧ Keeps w w')) ∧
      (four = 3 ∨ (four = 0 ∧ six = 3) ∨ (four = 0 ∧ six = 0 ∧ bk = !d))
theorem fm_err {t : Fm} (ht : OkF t) (hl : t.enc.length ≤ 40) : plainErr t.enc = 0 := by
  unfold plainErr
  have h1 : isFm t.enc = true := by unfold isFm; rw [isTree_of_enc ht.1, decide_eq_true hl]; rfl
  rw [if_pos h1, plainL_enc, if_pos ht.2]
theorem fms_err {G : List Fm} (hG : OkL G) (hl : ∀ a ∈ G, a.enc.length ≤ 40) : plainErrs (G.map Fm.enc) = 0 := by
  have h1 : allFm (G.map Fm.enc) = true := by
    unfold allFm
    rw [Bool.not_eq_true', List.any_eq_false]
    intro x hx
    obtain ⟨y, hy, rfl⟩ := List.mem_map.1 hx
    simp [isFm, isTree_of_enc (hG y hy).1, hl y hy]
  have h2 : allPlainL (G.map Fm.enc) = false := by
    unfold allPlainL
    rw [List.any_eq_false]
    intro x hx
    obtain ⟨y, hy, rfl⟩ := List.mem_map.1 hx
    simp [plainL_enc, (hG y hy).2]
  unfold plainErrs
  rw [if_pos h1, h2]; rfl
theorem img_ok {σ : List Fm} (h6 : σ.length = 6) (hσ : OkL σ) (hl : ∀ a ∈ σ, a.enc.length ≤ 40) : imgErr 0 (σ.map Fm.enc) = 0 := by
  have h := fms_err hσ hl
  unfold plainErrs at h
  unfold imgErr isSub
  split at h
  · rename_i h1
    split at h
    · omega
    · rename_i h2
      rw [if_neg (by simp [h1, h6]), if_neg (by simpa using h2)]
  · omega
theorem projOk (t : Fm) (ht : OkF t) (hl : t.enc.length ≤ 20) (b : Nat) (hb : b < 64) (hp : PB t b = true) : ProjOk t b := by
  obtain ⟨σ, e, hσ, h6⟩ := lift_fm t ht b
  have hle := lift_len t b
  have hσ40 : ∀ a ∈ σ, a.enc.length ≤ 22 := fun a ha => by
    have := hle a.enc (by rw [e]; exact List.mem_map.2 ⟨a, ha, rfl⟩)
    omega
  have hpe := fm_err ht (by omega)
  have hsg : sub (liftL t.enc b) t.enc = (sg σ t).enc := by rw [e]; exact sub_sg σ h6 t ht
  rw [PB_eq hsg, Bool.and_eq_true, decide_eq_true_iff, sqB_iff] at hp
  have hoku := sg_ok hσ t ht
  have hL6 : (liftL t.enc b).length = 6 := by rw [e, List.length_map, h6]
  have hbig : bigL (liftL t.enc b) = false := by
    unfold bigL
    rw [List.any_eq_false]
    intro x hx
    have := hle x hx
    simp; omega
  have himg : imgErr 0 (liftL t.enc b) = 0 := by rw [e]; exact img_ok h6 hσ (fun a ha => by have := hσ40 a ha; omega)
  refine ⟨liftL t.enc b, hL6, ?_, ?_, ?_, fun r hr => ?_⟩
  · have := tot_most (liftL t.enc b) 22 (fun x hx => by have := hle x hx; omega)
    rw [hL6] at this; omega
  · have := bothLift_ok t.enc b hpe hb
    rw [hbig] at this
    exact this
  · have h := unifies_ok_i t (by omega) hpe (liftL t.enc b) (by rw [hpe]; exact himg) (sg σ t) hsg hoku
    refine ⟨_, _, h, ?_⟩
    by_cases h20 : 20 < (sg σ t).enc.length
    · rw [if_pos h20, if_pos h20]; exact .inl ⟨rfl, rfl⟩
    · rw [if_neg h20, if_neg h20]; exact .inr ⟨rfl, sqB_true hp.2⟩
  · have hv : OkF (.var r) := ⟨by show r < 6; omega, rfl⟩
    have hre : ruleErr [t.enc] (Fm.var r).enc = 0 := by
      unfold ruleErr
      rw [if_neg (by simp)]
      exact fms_err (G := [t, .var r]) (fun x hx => by simp at hx; rcases hx with rfl | rfl; exact ht; exact hv) (fun x hx => by simp at hx; rcases hx with rfl | rfl; omega; simp [Fm.enc])
    have hbr := breaks_ok [t.enc] (Fm.var r).enc (liftL t.enc b) (by rw [hre]; exact himg) [sg σ t] (sg σ (.var r)) (fun x hx => by rw [List.mem_singleton.1 hx]; exact hoku) (sg_ok hσ _ hv) (by simp [hsg]) (by rw [e]; exact sub_sg σ h6 _ hv)
    by_cases h20 : 20 < tot [t.enc, (Fm.var r).enc]
    · exact ⟨_, _, _, _, derivable_big _ _ hre h20, hbr.2, .inl rfl⟩
    · refine ⟨_, _, _, _, derivable_ok [t] (.var r) (fun x hx => by rw [List.mem_singleton.1 hx]; exact ht) hv hre (by simpa using h20), hbr.2, .inr ?_⟩
      by_cases hany : (([sg σ t] ++ [sg σ (.var r)]).any fun a => decide (20 < a.enc.length)) = true
      · rw [if_pos hany]; exact .inl ⟨rfl, rfl⟩
      · rw [if_neg hany, if_neg hany]
        refine .inr ⟨rfl, rfl, ?_⟩
        unfold brk
        rw [lift_law t ht b r (by omega) σ e h6 hp.2]
        simp [sqB_true hp.2]
end Go.Proofs.YtodeecmhcfbheaaGreat
/- FnProjective: the walk of the law. -/
namespace Go.Proofs.YtodeecmhcfbheaaGreat
open Go.RowKit
theorem likeL_same (xs : List (List Nd)) (v v' : Value) (w : World) (hv : NdsL w v xs) (hv' : NdsL w v' xs) :
    Calls Tryz.prog 26 #[v, v'] w fun e w' => e = .returned (.bool true) ∧ Keeps w w' := by
  have h := likeFormulas5_any xs xs v v' w hv hv'
  rw [decide_eq_true rfl] at h
  exact h
theorem cell_new2 {w : World} {n : Nat} {u v : Value} {T : TypeId} (hn : n = w.heap.size) : (w.alloc (.cells #[u, v] T)).cell? ⟨n, 0, none⟩ = some u ∧ (w.alloc (.cells #[u, v] T)).cell? ⟨n, 1, none⟩ = some v := by
  subst hn; constructor <;> simp
--
set_option maxRecDepth 20000 in
set_option maxHeartbeats 8000000 in
theorem lawProjective (v : Value) (n : Nat) (w : World) (hv : Bts w v n) :
    Calls Tryz.prog 7 #[v] w fun e w' => e = .returned (.bool true) ∧ Keeps w w' := by
  have HBig := hid (big_any v n w hv)
  by_cases hn : 4096 < n
  · rw [decide_eq_true hn] at HBig
    go_enter Tryz.func7, Tryz.ntmps7
    go_wp2_with fail
    refine HBig.out.mono ?_; rintro e w' ⟨rfl, rfl⟩
    go_wp2_with fail
    go_ret
    exact ⟨rfl, Keeps.refl _⟩
  · rw [decide_eq_false hn] at HBig
    have HD := hid (drawProjectiveMask_any v n w hv (by omega))
    have HRo := hid (fun w2 (k : Keeps w w2) => roll_any v n 3103 w2 (hv.keeps k) (by omega) (by omega))
    obtain ⟨pv, cv, rfl, _⟩ := hv
    go_enter Tryz.func7, Tryz.ntmps7
    go_wp2_with fail
    refine HBig.out.mono ?_; rintro e w' ⟨rfl, rfl⟩
    go_wp2_with fail
    refine HD.out.mono ?_; rintro e w1 ⟨v1, a, rfl, hv1, hl1, k1⟩
    obtain ⟨x, c, ⟨hS, hI⟩, hc⟩ := pmBoth a (by omega)
    have hn1 := hv1.nds (by omega)
    obtain ⟨p1, n1, q1, rfl⟩ := hn1.shape
    have HI := hid (hI _ w1 hn1)
    have HS := hid (fun w2 (k : Keeps w1 w2) => hS _ w2 (hn1.keeps k))
    clear hS hI hv1 HD HBig
    by_cases h0 : c = 0
    · obtain ⟨t, b, rfl, ht, htl, rfl, hb, _, hp⟩ := hc h0
      subst h0
      obtain ⟨L, hL6, hLt, ⟨hLS, hLI⟩, ⟨yes, three, hU, hU3⟩, hR⟩ := (projOk t ht htl b hb hp).lift
      have HLI := hid (fun w2 (k : Keeps w1 w2) => hLI _ w2 (hn1.keeps k))
      have HLS := hid (fun w2 (k : Keeps w1 w2) => hLS _ w2 (hn1.keeps k))
      have HU := hid (fun u w2 (k : Keeps w1 w2) (hu : NdsL w2 u L) => hU _ u w2 (hn1.keeps k) hu)
      have HRr := hid hR
      have HN1 := hid hn1
      clear hLI hLS hU hR hn1 hp ht htl hc
      generalize t.enc = A at *
      rcases hU3 with ⟨rfl, rfl⟩ | ⟨rfl, rfl⟩
      all_goals
        go_wp2_with fail
        refine HI.out.mono ?_; rintro e w2 ⟨rfl, k2⟩
        go_wp2_with fail
        refine (HS.out w2 k2).mono ?_; rintro e w3 ⟨rfl, k3⟩
        have k13 := k2.trans k3
        go_wp2_with fail
        refine (HLI.out w3 k13).mono ?_; rintro e w4 ⟨v4, rfl, hv4, k4⟩
        have hL4 := hv4.ndsL (by omega) (by omega)
        have k14 := k13.trans k4
        go_wp2_with fail
        refine (HLS.out w4 k14).mono ?_; rintro e w5 ⟨v5, rfl, hv5, k5⟩
        have HL4 := hid (hL4.keeps k5)
        have HL5 := hid hv5
        have k15 := k14.trans k5
        clear hL4 hv4 hv5
        go_wp2_with fail
        refine (likeL_same L v4 v5 w5 HL4.out HL5.out).mono ?_; rintro e w6 ⟨rfl, k6⟩
        have k16 := k15.trans k6
        have HL6 := hid (HL5.out.keeps k6)
        go_wp2_with fail
        refine (HU.out v5 w6 k16 HL6.out).mono ?_; rintro e w7 ⟨rfl, k7⟩
        have k17 := k16.trans k7
        have HL7 := hid (HL6.out.keeps k7)
        clear HL4 HL5 HL6
        go_wp2_with fail
        refine (HRo.out w7 (k1.trans k17)).mono ?_; rintro e w8 ⟨B, rfl, hB, hs, k8⟩
        have HL8 := hid (HL7.out.keeps k8)
        go_wp2_with fail
        refine (below_any 3 B w8 hs (by omega)).mono ?_; rintro e w9 ⟨r, rfl, hr, d9⟩
        have hr3 : r < 3 := by omega
        have k79 := Dr.keepsOf k8 hB d9
        have k19 := k17.trans k79
        have HL9 := hid (HL7.out.keeps k79)
        obtain ⟨d, four, bk, six, ⟨hDS, hDI⟩, hBr, hF⟩ := HRr.out r hr3
        have kW2 : Keeps w9 ((w9.alloc (.cells #[.int .i64 0, .int .i64 r] 73)).alloc (.cells #[.slice p1 n1 q1] 24)) := ((Keeps.refl w9).alloc _).alloc _
        have kW : Keeps w9 (((w9.alloc (.cells #[.int .i64 0, .int .i64 r] 73)).alloc (.cells #[.slice p1 n1 q1] 24)).alloc (.cells #[.slice (some ⟨w9.heap.size + 1, 0, none⟩) 1 1, .slice (some ⟨w9.heap.size, 0, none⟩) 1 1] 37)) := kW2.alloc _
        have hNb : Nds (((w9.alloc (.cells #[.int .i64 0, .int .i64 r] 73)).alloc (.cells #[.slice p1 n1 q1] 24)).alloc (.cells #[.slice (some ⟨w9.heap.size + 1, 0, none⟩) 1 1, .slice (some ⟨w9.heap.size, 0, none⟩) 1 1] 37)) (.slice (some ⟨w9.heap.size, 0, none⟩) 1 1) (Fm.var r).enc := ((OwnN.lit1 w9 ⟨0, r⟩).nds (by simp)).keeps (((Keeps.refl _).alloc _).alloc _)
        have hLa : NdsL (((w9.alloc (.cells #[.int .i64 0, .int .i64 r] 73)).alloc (.cells #[.slice p1 n1 q1] 24)).alloc (.cells #[.slice (some ⟨w9.heap.size + 1, 0, none⟩) 1 1, .slice (some ⟨w9.heap.size, 0, none⟩) 1 1] 37)) (.slice (some ⟨w9.heap.size + 1, 0, none⟩) 1 1) [A] := (NdsL.lit1N (w := w9.alloc (.cells #[.int .i64 0, .int .i64 r] 73)) (N := w9.heap.size + 1) (by simp) (HN1.out.keeps (k19.alloc _))).keeps ((Keeps.refl _).alloc _)
        have ca : (((w9.alloc (.cells #[.int .i64 0, .int .i64 r] 73)).alloc (.cells #[.slice p1 n1 q1] 24)).alloc (.cells #[.slice (some ⟨w9.heap.size + 1, 0, none⟩) 1 1, .slice (some ⟨w9.heap.size, 0, none⟩) 1 1] 37)).cell? ⟨w9.heap.size + 1 + 1, 0, none⟩ = some (.slice (some ⟨w9.heap.size + 1, 0, none⟩) 1 1) := (cell_new2 (by simp)).1
        have cb : (((w9.alloc (.cells #[.int .i64 0, .int .i64 r] 73)).alloc (.cells #[.slice p1 n1 q1] 24)).alloc (.cells #[.slice (some ⟨w9.heap.size + 1, 0, none⟩) 1 1, .slice (some ⟨w9.heap.size, 0, none⟩) 1 1] 37)).cell? ⟨w9.heap.size + 1 + 1, 1, none⟩ = some (.slice (some ⟨w9.heap.size, 0, none⟩) 1 1) := (cell_new2 (by simp)).2
        have HA := hid (hDI _ _ _ hLa hNb)
        have HB := hid (fun w2 (k : Keeps (((w9.alloc (.cells #[.int .i64 0, .int .i64 r] 73)).alloc (.cells #[.slice p1 n1 q1] 24)).alloc (.cells #[.slice (some ⟨w9.heap.size + 1, 0, none⟩) 1 1, .slice (some ⟨w9.heap.size, 0, none⟩) 1 1] 37)) w2) => hDS _ _ w2 (hLa.keeps k) (hNb.keeps k))
        have HC := hid (fun w2 (k : Keeps (((w9.alloc (.cells #[.int .i64 0, .int .i64 r] 73)).alloc (.cells #[.slice p1 n1 q1] 24)).alloc (.cells #[.slice (some ⟨w9.heap.size + 1, 0, none⟩) 1 1, .slice (some ⟨w9.heap.size, 0, none⟩) 1 1] 37)) w2) => hBr _ _ v5 w2 (hLa.keeps k) (hNb.keeps k) (HL9.out.keeps (kW.trans k)))
        have K1W := hid ((k1.trans k19).trans kW)
        clear hNb hLa hDI hDS hBr
        rcases hF with rfl | ⟨rfl, rfl⟩ | ⟨rfl, rfl, rfl⟩
        all_goals
          go_wp2_with fail
          refine HA.out.mono ?_; rintro e w10 ⟨rfl, k10⟩
          obtain ⟨da, db⟩ := cells_keeps k10 (And.intro ca cb)
          go_wp2_with fail
          refine (HB.out w10 k10).mono ?_; rintro e w11 ⟨rfl, k11⟩
          have k1011 := k10.trans k11
          obtain ⟨ea, eb⟩ := cells_keeps k11 (And.intro da db)
          go_wp2_with fail
          refine (HC.out w11 k1011).mono ?_; rintro e w12 ⟨rfl, k12⟩
          go_wp2_with fail
          go_ret
          exact ⟨by first | rfl | (cases d <;> rfl), (K1W.out.trans k1011).trans k12⟩
    · have h0' : (c != 0) = true := by simp [h0]
      have HN0 := hid h0
      clear hc hn1 h0
      go_wp2_with fail
      refine HI.out.mono ?_; rintro e w2 ⟨rfl, k2⟩
      go_wp2_with fail
      refine (HS.out w2 k2).mono ?_; rintro e w3 ⟨rfl, k3⟩
      have hcc : (c != c) = false := by simp
      have hxx : (x != x) = false := by simp
      go_wp2_with fail
      go_ret
      exact ⟨rfl, (k1.trans k2).trans k3⟩
end Go.Proofs.YtodeecmhcfbheaaGreat
