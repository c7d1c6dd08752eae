/- LiftSubstitution on both sides, and its law. -/
import Derived.Test.YtffjmnimnmmemaaM4
import Derived.Test.YtffjmnimnmmemaaT1
import Derived.Test.YtffjmnimnmmemaaL3
namespace Go.Proofs.Ytffjmnimnmmemaa
open Go.RowKit
theorem plainErr_ok {a : List Nd} (h : plainErr a = 0) : a.all okNd = true ∧ a.length ≤ 40 := by
  unfold plainErr at h
  split at h
  · rename_i hf
    simp [isFm, isTree] at hf
    exact ⟨by simpa using hf.2.1, hf.1⟩
  · cases h
theorem any_set {l : List (List Nd)} {i : Nat} {y : List Nd} (hi : i < l.length) (hy : 40 < y.length) : bigL (l.set i y) = true := by
  unfold bigL
  exact List.any_eq_true.2 ⟨y, List.mem_set hi y, by simpa using hy⟩
theorem liftF_mem (a : List Nd) (mask : Nat) (ms : List Int) : ∀ x ∈ liftF a mask ms, x.length ≤ a.length + 2 := by
  unfold liftF
  have : ∀ (l : List (List Nd)), (∀ x ∈ l, x.length ≤ a.length + 2) → ∀ x ∈ ms.foldl (fun l v => l.set v.toNat (liftI a mask v)) l, x.length ≤ a.length + 2 := by
    induction ms with
    | nil => intro l h; exact h
    | cons m ms ih =>
      intro l h
      rw [List.foldl_cons]
      refine ih _ (fun x hx => ?_)
      rcases List.mem_or_eq_of_mem_set hx with h1 | rfl
      · exact h x h1
      · rw [liftI_len]; exact Nat.le_refl _
  refine this _ (fun x hx => ?_)
  simp [idL] at hx
  obtain ⟨v, _, rfl⟩ := hx
  simp [Fm.enc]
theorem liftL_big (a : List Nd) (mask : Nat) : bigL (liftL a mask) = (decide (0 < (mem (vm a)).length) && decide (40 < a.length + 2)) := by
  have hmr := mem_range (vm a)
  unfold liftL
  generalize mem (vm a) = M at *
  by_cases hl : 40 < a.length + 2
  · rcases List.eq_nil_or_concat M with rfl | ⟨M', m, rfl⟩
    · simp [liftF]; decide
    · obtain ⟨k, hk, e⟩ := hmr m (by simp)
      rw [List.concat_eq_append, liftF_snoc]
      rw [any_set (by rw [liftF_len]; omega) (by rw [liftI_len]; exact hl)]
      simp; omega
  · have : bigL (liftF a mask M) = false := by
      rw [Bool.eq_false_iff]; intro h
      unfold bigL at h
      obtain ⟨x, hx, h2⟩ := List.any_eq_true.1 h
      have := liftF_mem a mask M x hx
      simp at h2; omega
    rw [this]; simp [hl]
theorem tot_bound (l : List (List Nd)) (n : Nat) (h : ∀ x ∈ l, x.length ≤ n) : tot l ≤ n * l.length := by
  induction l with
  | nil => simp [tot]
  | cons x l ih =>
    have h1 := h x (List.mem_cons_self ..)
    have h2 := ih (fun y hy => h y (List.mem_cons_of_mem _ hy))
    simp only [tot, List.length_cons]
    rw [Nat.mul_succ]; omega
theorem not_big {l : List (List Nd)} (h : bigL l = false) : ∀ x ∈ l, x.length ≤ 40 := by
  intro x hx
  rcases Nat.lt_or_ge 40 x.length with h1 | h1
  · have : bigL l = true := List.any_eq_true.2 ⟨x, hx, by simpa using h1⟩
    rw [h] at this; cases this
  · exact h1
theorem limitedAll_small (l : List (List Nd)) (v : Value) (w : World) (hv : NdsL w v l) (hb : bigL l = false) :
    Calls Try.prog 75 #[v] w fun e w' => e = .returned (.tuple #[v, .int .i64 0]) ∧ Keeps w w' := by
  have h := limitedAll_any l v w hv
  rw [hb] at h
  exact h
theorem limitedAll_big (l : List (List Nd)) (v : Value) (w : World) (hv : NdsL w v l) (hb : bigL l = true) :
    Calls Try.prog 75 #[v] w fun e w' => e = .returned (.tuple #[.slice none 0 0, .int .i64 3]) ∧ Keeps w w' := by
  have h := limitedAll_any l v w hv
  rw [hb] at h
  exact h
def BothLift (a : List Nd) (mask : Int) (r : List (List Nd)) (c : Int) : Prop :=
  (∀ v w, Nds w v a → Calls Try.prog 24 #[v, .int .i64 mask] w fun e w' => ∃ u, e = .returned (.tuple #[u, .int .i64 c]) ∧ NdsL w' u r ∧ Keeps w w') ∧
  (∀ v w, Nds w v a → Calls Try.prog 25 #[v, .int .i64 mask] w fun e w' => ∃ u, e = .returned (.tuple #[u, .int .i64 c]) ∧ OwnL w' w.heap.size u r ∧ Keeps w w')
theorem ndsL_nil (w : World) : NdsL w (.slice none 0 0) [] := (OwnL.nil w 0).ndsL (by simp) (by simp [tot])
--
set_option maxRecDepth 20000 in
set_option maxHeartbeats 4000000 in
theorem bothLift (a : List Nd) (mask : Int) : ∃ r c, BothLift a mask r c ∧ r.length ≤ 6 ∧ tot r ≤ 1000 := by
  have hne := fun (v : Value) (w : World) (hv : Nds w v a) => plainCode_any [a] _ _ (NdsL.lit1 hv)
  have hns := fun (v : Value) (w : World) (hv : Nds w v a) => l31Plain_any [a] _ _ (NdsL.lit1 hv)
  rw [plainErrs_one] at hne hns
  have HN := hid hne; clear hne
  have HS := hid hns; clear hns
  by_cases h : plainErr a = 0
  · obtain ⟨hok, hla⟩ := plainErr_ok h
    have h' : (plainErr a != 0) = false := by simp [h]
    rw [h] at HN HS
    clear h h'
    by_cases hm : inR mask 0 63 = true
    · obtain ⟨m, rfl, hm64⟩ : ∃ m : Nat, mask = m ∧ m < 64 := ⟨mask.toNat, by simp [inR] at hm; omega, by simp [inR] at hm; omega⟩
      have hbig := liftL_big a m
      have hmem := liftF_mem a m (mem (vm a))
      have hlen := liftF_len a m (mem (vm a))
      change ∀ x ∈ liftL a m, _ at hmem
      change (liftL a m).length = 6 at hlen
      have htot := tot_bound _ _ hmem
      rw [hlen] at htot
      have hl2 := low_len (vm a) 6
      change (mem (vm a)).length ≤ 6 at hl2
      have HLI := hid (fun v w hv => lifted_any a m v w hv hok (by omega) hm64)
      have HLS := hid (fun v w hv => l31Lift_any a m v w hv hok (by omega) hm64)
      have HV := hid (fun v w hv => l02Variables_any a v w hv hok)
      have HF := hid (fun w => l01Full_any 6 w (by omega) (by omega))
      have HI := hid (fun w => l01In_any (m : Int) 0 63 w)
      have HM := hid (fun w => isMask6_any (m : Int) w)
      rw [hm] at HI HM
      have HOK := hid hok; clear hok
      refine ⟨if bigL (liftL a m) then [] else liftL a m, if bigL (liftL a m) then 3 else 0, ⟨fun v w hv => ?_, fun v w hv => ?_⟩, ?_, ?_⟩
      · have hv0 := hv
        obtain ⟨p, cap, rfl, _, _, _, _⟩ := hv
        have k1 := (Keeps.refl w).alloc (.cells #[.slice p a.length cap] 24)
        by_cases hM : 0 < (mem (vm a)).length
        · by_cases hL : 40 < a.length + 2
          · have hbv : bigL (liftL a m) = true := by rw [hbig, decide_eq_true hM, decide_eq_true hL]; rfl
            rw [hbv]
            have d1 : decide (((mem (vm a)).length : Int) > 0) = true := by simp; omega
            have d2 : decide ((a.length : Int) + 2 > 40) = true := by simp; omega
            clear hbv hbig
            go_enter Try.func24, Try.ntmps24
            go_wp2_with fail
            refine (HS.out _ _ hv0).mono ?_; rintro e w' ⟨rfl, rfl⟩
            go_wp2_with fail
            refine (HF.out _).mono ?_; rintro e w' ⟨rfl, rfl⟩
            go_wp2_with fail
            refine (HI.out _).mono ?_; rintro e w' ⟨rfl, rfl⟩
            go_wp2_with fail
            refine (HV.out _ _ (hv0.keeps k1)).mono ?_; rintro e w2 ⟨u2, rfl, hu2, k2⟩
            obtain ⟨pu, cu, rfl, _, _, _, _⟩ := hu2.ints (by omega)
            go_wp2_with fail
            go_ret2
            exact ⟨_, rfl, ndsL_nil _, k1.trans k2⟩
          · have hbv : bigL (liftL a m) = false := by rw [hbig, decide_eq_false hL]; simp
            rw [hbv]
            have d1 : decide (((mem (vm a)).length : Int) > 0) = true := by simp; omega
            have d2 : decide ((a.length : Int) + 2 > 40) = false := by simp; omega
            clear hbv hbig
            go_enter Try.func24, Try.ntmps24
            go_wp2_with fail
            refine (HS.out _ _ hv0).mono ?_; rintro e w' ⟨rfl, rfl⟩
            go_wp2_with fail
            refine (HF.out _).mono ?_; rintro e w' ⟨rfl, rfl⟩
            go_wp2_with fail
            refine (HI.out _).mono ?_; rintro e w' ⟨rfl, rfl⟩
            go_wp2_with fail
            refine (HV.out _ _ (hv0.keeps k1)).mono ?_; rintro e w2 ⟨u2, rfl, hu2, k2⟩
            obtain ⟨pu, cu, rfl, _, _, _, _⟩ := hu2.ints (by omega)
            go_wp2_with fail
            refine (HLS.out _ _ (hv0.keeps (k1.trans k2))).mono ?_; rintro e w3 ⟨u3, rfl, hu3, k3⟩
            go_wp2_with fail
            go_ret2
            exact ⟨_, rfl, hu3.ndsL (by rw [hlen]; omega) (by omega), (k1.trans k2).trans k3⟩
        · have hbv : bigL (liftL a m) = false := by rw [hbig, decide_eq_false hM]; simp
          rw [hbv]
          have d1 : decide (((mem (vm a)).length : Int) > 0) = false := decide_eq_false (by omega)
          clear hbv hbig
          go_enter Try.func24, Try.ntmps24
          go_wp2_with fail
          refine (HS.out _ _ hv0).mono ?_; rintro e w' ⟨rfl, rfl⟩
          go_wp2_with fail
          refine (HF.out _).mono ?_; rintro e w' ⟨rfl, rfl⟩
          go_wp2_with fail
          refine (HI.out _).mono ?_; rintro e w' ⟨rfl, rfl⟩
          go_wp2_with fail
          refine (HV.out _ _ (hv0.keeps k1)).mono ?_; rintro e w2 ⟨u2, rfl, hu2, k2⟩
          obtain ⟨pu, cu, rfl, _, _, _, _⟩ := hu2.ints (by omega)
          go_wp2_with fail
          refine (HLS.out _ _ (hv0.keeps (k1.trans k2))).mono ?_; rintro e w3 ⟨u3, rfl, hu3, k3⟩
          go_wp2_with fail
          go_ret2
          exact ⟨_, rfl, hu3.ndsL (by rw [hlen]; omega) (by omega), (k1.trans k2).trans k3⟩
      · have hv0 := hv
        obtain ⟨p, cap, rfl, _, _, _, _⟩ := hv
        have k1 := (Keeps.refl w).alloc (.cells #[.slice p a.length cap] 24)
        clear hbig
        cases hb : bigL (liftL a m)
        · have HB0 := hid hb; clear hb
          simp only [Bool.false_eq_true, if_false]
          go_enter Try.func25, Try.ntmps25
          go_wp2_with fail
          refine (HN.out _ _ hv0).mono ?_; rintro e w2 ⟨rfl, k2⟩
          go_wp2_with fail
          refine (HM.out _).mono ?_; rintro e w' ⟨rfl, rfl⟩
          go_wp2_with fail
          refine (HLI.out _ _ (hv0.keeps (k1.trans k2))).mono ?_; rintro e w3 ⟨u3, rfl, hu3, k3⟩
          obtain ⟨g3, c3, e3, _, _⟩ := hu3.shape (by rw [hlen]; omega)
          rw [hlen] at e3
          subst e3
          have kk := (k1.trans k2)
          have hnl := hu3.ndsL (by rw [hlen]; omega) (by omega)
          have HB := hid (limitedAll_small _ _ _ hnl HB0.out)
          clear hnl
          go_wp2_with fail
          refine HB.out.mono ?_; rintro e w4 ⟨rfl, k4⟩
          go_wp2_with fail
          go_ret2
          exact ⟨_, rfl, (hu3.keeps k4).mono kk.size, (kk.trans k3).trans k4⟩
        · have HB0 := hid hb; clear hb
          simp only [if_true]
          go_enter Try.func25, Try.ntmps25
          go_wp2_with fail
          refine (HN.out _ _ hv0).mono ?_; rintro e w2 ⟨rfl, k2⟩
          go_wp2_with fail
          refine (HM.out _).mono ?_; rintro e w' ⟨rfl, rfl⟩
          go_wp2_with fail
          refine (HLI.out _ _ (hv0.keeps (k1.trans k2))).mono ?_; rintro e w3 ⟨u3, rfl, hu3, k3⟩
          obtain ⟨g3, c3, e3, _, _⟩ := hu3.shape (by rw [hlen]; omega)
          rw [hlen] at e3
          subst e3
          have kk := (k1.trans k2)
          have hnl := hu3.ndsL (by rw [hlen]; omega) (by omega)
          have HB := hid (limitedAll_big _ _ _ hnl HB0.out)
          clear hnl
          go_wp2_with fail
          refine HB.out.mono ?_; rintro e w4 ⟨rfl, k4⟩
          go_wp2_with fail
          go_ret2
          exact ⟨_, rfl, OwnL.nil _ _, (kk.trans k3).trans k4⟩
      · split
        · simp
        · rw [hlen]; omega
      · cases hb : bigL (liftL a m)
        · simp only [Bool.false_eq_true, if_false]
          have := tot_bound _ 40 (not_big hb)
          rw [hlen] at this; omega
        · simp [tot]
    · have hmf : inR mask 0 63 = false := by simpa using hm
      have HF := hid (fun w => l01Full_any 6 w (by omega) (by omega))
      have HI := hid (fun w => l01In_any mask 0 63 w)
      have HM := hid (fun w => isMask6_any mask w)
      rw [hmf] at HI HM
      clear hm hmf
      refine ⟨[], 2, ⟨fun v w hv => ?_, fun v w hv => ?_⟩, by simp, by simp [tot]⟩
      · have hv0 := hv
        obtain ⟨p, cap, rfl, _, _, _, _⟩ := hv
        have k1 := (Keeps.refl w).alloc (.cells #[.slice p a.length cap] 24)
        go_enter Try.func24, Try.ntmps24
        go_wp2_with fail
        refine (HS.out _ _ hv0).mono ?_; rintro e w' ⟨rfl, rfl⟩
        go_wp2_with fail
        refine (HF.out _).mono ?_; rintro e w' ⟨rfl, rfl⟩
        go_wp2_with fail
        refine (HI.out _).mono ?_; rintro e w' ⟨rfl, rfl⟩
        go_wp2_with fail
        go_ret2
        exact ⟨_, rfl, ndsL_nil _, k1⟩
      · have hv0 := hv
        obtain ⟨p, cap, rfl, _, _, _, _⟩ := hv
        have k1 := (Keeps.refl w).alloc (.cells #[.slice p a.length cap] 24)
        go_enter Try.func25, Try.ntmps25
        go_wp2_with fail
        refine (HN.out _ _ hv0).mono ?_; rintro e w2 ⟨rfl, k2⟩
        go_wp2_with fail
        refine (HM.out _).mono ?_; rintro e w' ⟨rfl, rfl⟩
        go_wp2_with fail
        go_ret2
        exact ⟨_, rfl, OwnL.nil _ _, k1.trans k2⟩
  · have h' : (plainErr a != 0) = true := by simp [h]
    generalize plainErr a = c at *
    have H := hid h; clear h
    refine ⟨[], c, ⟨fun v w hv => ?_, fun v w hv => ?_⟩, by simp, by simp [tot]⟩
    · have hv0 := hv
      obtain ⟨p, cap, rfl, _, _, _, _⟩ := hv
      have k1 := (Keeps.refl w).alloc (.cells #[.slice p a.length cap] 24)
      go_enter Try.func24, Try.ntmps24
      go_wp2_with fail
      refine (HS.out _ _ hv0).mono ?_; rintro e w' ⟨rfl, rfl⟩
      go_wp2_with fail
      go_ret2
      exact ⟨_, rfl, ndsL_nil _, k1⟩
    · have hv0 := hv
      obtain ⟨p, cap, rfl, _, _, _, _⟩ := hv
      have k1 := (Keeps.refl w).alloc (.cells #[.slice p a.length cap] 24)
      go_enter Try.func25, Try.ntmps25
      go_wp2_with fail
      refine (HN.out _ _ hv0).mono ?_; rintro e w2 ⟨rfl, k2⟩
      go_wp2_with fail
      go_ret2
      exact ⟨_, rfl, OwnL.nil _ _, k1.trans k2⟩
end Go.Proofs.Ytffjmnimnmmemaa
