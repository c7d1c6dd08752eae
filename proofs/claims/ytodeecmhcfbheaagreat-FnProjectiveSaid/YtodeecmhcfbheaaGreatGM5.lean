/- Walks: lifted substitutions on both sides. -/
import Derived.Test.YtodeecmhcfbheaaGreatGM3
import Derived.StillTailTactics
import Derived.Deep.RegionHeld3
import Derived.Test.YtodeecmhcfbheaaGreatGT1
import Derived.Test.YtodeecmhcfbheaaGreatGL5
namespace Go.Proofs.YtodeecmhcfbheaaGreat
open Go.RowKit
/-- the image of a variable of a formula under its lifted substitution -/
def liftI (a : List Nd) (mask : Nat) (v : Int) : List Nd := ⟨if mask.testBit v.toNat then 4 else 2, 0⟩ :: (a ++ [⟨0, v⟩])
def liftF (a : List Nd) (mask : Nat) (ms : List Int) : List (List Nd) := ms.foldl (fun l v => l.set v.toNat (liftI a mask v)) (idL 6)
def liftL (a : List Nd) (mask : Nat) : List (List Nd) := liftF a mask (mem (vm a))
theorem liftF_snoc (a : List Nd) (mask : Nat) (ms : List Int) (v : Int) : liftF a mask (ms ++ [v]) = (liftF a mask ms).set v.toNat (liftI a mask v) := by simp [liftF, List.foldl_append]
theorem liftF_len (a : List Nd) (mask : Nat) (ms : List Int) : (liftF a mask ms).length = 6 := by
  unfold liftF
  have : ∀ (l : List (List Nd)), (ms.foldl (fun l v => l.set v.toNat (liftI a mask v)) l).length = l.length := by
    induction ms with
    | nil => intro l; rfl
    | cons x ms ih => intro l; rw [List.foldl_cons, ih]; simp
  rw [this, idL_len]
theorem liftI_len (a : List Nd) (mask : Nat) (v : Int) : (liftI a mask v).length = a.length + 2 := by simp [liftI]
theorem OwnL.shape {w : World} {B : Nat} {v : Value} {xs : List (List Nd)} (h : OwnL w B v xs) (hp : 0 < xs.length) : ∃ g cap, v = .slice (some ⟨g, 0, none⟩) xs.length cap ∧ B ≤ g ∧ g < w.heap.size := by
  obtain ⟨vs, ho, _⟩ := h
  rcases ho.2 with ⟨_, h0⟩ | ⟨g, cap, cur, e, hb, hg, _⟩
  · omega
  · exact ⟨g, cap, e, hb, (Array.getElem?_eq_some_iff.1 hg).1⟩
theorem tyni : (24 : TypeId) ≠ 2 := by decide
theorem OwnL.typed {w : World} {B : Nat} {v : Value} {xs : List (List Nd)} (h : OwnL w B v xs) : ∃ vs, w.ownsRow B 24 1 v xs.length vs := by
  obtain ⟨vs, ho, _⟩ := h
  exact ⟨vs, ho⟩
/-- numbers stay where a header of lists is written -/
theorem OwnI.beside {w w' : World} {B B' : Nat} {v u : Value} {a : List Int} {xs : List (List Nd)} {g : Nat} (h : OwnI w B v a) (ho : OwnL w B' u xs) (hg : u.ownBlock = some g) (k : w.grownBy w' (some g)) : OwnI w' B v a := by
  obtain ⟨vs, hr⟩ := ho.typed
  exact own_touch h (Touch.grown k) (fun i hi e => by cases e; exact type_ne hr h tyni hg hi)
--
set_option maxRecDepth 20000 in
set_option maxHeartbeats 2000000 in
theorem lifted_any (a : List Nd) (mask : Nat) (v : Value) (w : World) (hv : Nds w v a) (ha : a.all okNd = true) (hl : a.length ≤ 1000000) (hm : mask < 64) : Calls Tryz.prog 116 #[v, .int .i64 mask] w (RetL w (liftL a mask)) := by
  obtain ⟨pv, nv, cv, rfl⟩ := hv.shape
  have HA := hid ha; clear ha
  have hmr := mem_range (vm a)
  have hml := low_len (vm a) 6
  have hs6 := liftF_snoc a mask
  have hl6 := liftF_len a mask
  have HV := hid (fun w1 (k : Keeps w w1) => variablesIn_one a _ _ (NdsL.lit1 (hv.keeps k)) HA.out)
  unfold liftL
  change (mem (vm a)).length ≤ 6 at hml
  generalize mem (vm a) = M at *
  have HS6 := hid hs6; clear hs6
  have HL6 := hid hl6; clear hl6
  have HMR := hid hmr; clear hmr
  go_enter Tryz.func116, Tryz.ntmps116
  go_wp2_with fail
  refine (identity_any w).mono ?_; rintro e w1 ⟨vI, rfl, hI, kI⟩
  obtain ⟨g, cap, rfl, hg0, hg1⟩ := hI.shape (by rw [idL_len]; omega)
  rw [idL_len] at hI ⊢
  have kA := (Keeps.refl w1).alloc (.cells #[.slice pv nv cv] 24)
  go_wp2_with fail
  refine (HV.out w1 kI).mono ?_; rintro e w3 ⟨u, rfl, hu, k3⟩
  clear HV
  have kI3 := kI.trans (kA.trans k3)
  have hI3 := hI.keeps (kA.trans k3)
  obtain ⟨pu, cu, rfl, hcu, hmu, hatu, hlu⟩ := hu.ints (by omega)
  have hub : w.heap.size ≤ (w1.alloc (.cells #[.slice pv nv cv] 24)).heap.size := by have := kI.size; simp; omega
  have hu3 := hu.mono hub
  unfold maxLen at hmu
  clear hI hatu hu
  go_wp2_with fail
  go_loopw [14] (fun i' wr => ∃ i : Nat, i ≤ M.length ∧ i' = .int .i64 i ∧ OwnL wr w.heap.size (.slice (some ⟨g, 0, none⟩) 6 cap) (liftF a mask (M.take i)) ∧ OwnI wr w.heap.size (.slice pu M.length cu) M ∧ Keeps w wr) (fun i _ => M.length - (intOf i).toNat)
  case atStart => exact ⟨0, by omega, rfl, by simpa [liftF] using hI3, hu3, kI3⟩
  case round =>
    obtain ⟨i, hi, rfl, hI, hu, kw⟩ := hrel
    clear hI3 hu3 kI3
    by_cases hlt : i < M.length
    · have hlt' : (i : Int) < M.length := by omega
      obtain ⟨_, _, e1, _, _, hatu, _⟩ := hu.ints (by omega)
      cases e1
      obtain ⟨b, off, rfl, hc⟩ := hatu.int i hlt
      clear hatu
      obtain ⟨x, hx6, hx⟩ := HMR.out M[i] (List.getElem_mem hlt)
      have hst := HS6.out (M.take i) (x : Int)
      rw [← hx, ← List.take_succ_eq_append_getElem hlt, hx] at hst
      rw [hx] at hc
      have hlen := HL6.out (M.take i)
      have hw0 := kw.size
      have HH := hid (has_any mask x wr hm (by omega))
      have hx6' : (x : Int) < 6 := by omega
      clear hx
      have HST := hid hst; clear hst
      cases hb : mask.testBit x
      all_goals
        rw [hb] at HH
        have HB := hid hb; clear hb
        go_wp2_with fail
        refine HH.out.mono ?_; rintro e w' ⟨rfl, rfl⟩
        go_wp2_with fail
        refine (variable_any x _).mono ?_; rintro e w4 ⟨v4, rfl, hv4, k4⟩
        go_wp2_with fail
        refine (join_any _ _ _ _ _ _ ((hv.keeps kw).keeps k4) (hv4.nds (by simp [Fm.enc])) (by simp [Fm.enc]; omega)).mono ?_; rintro e w5 ⟨v5, rfl, hv5, k5⟩
        have k45 := k4.trans k5
        obtain ⟨g', cap', c5, e5, hg2, hg3, hc5, hf5, hI5, gr5⟩ := hI.store k45 (hv5.mono k4.size) hw0 x (by rw [hlen]; omega)
        rw [hlen] at e5
        cases e5
        obtain ⟨p5, n5, q5, rfl⟩ : ∃ p n c, v5 = .slice p n c := by obtain ⟨p, c, e, _⟩ := At.of_own hv5; exact ⟨p, _, c, e⟩
        have hu5 := (hu.keeps k45).beside (hI.keeps k45) rfl gr5
        have kw5 := (kw.trans k45).grown gr5 (fun j hj => by cases hj; exact hg2)
        clear hc
        go_wp2_with fail
        go_roundw
        case rel =>
          refine ⟨i + 1, by omega, by go_num, ?_, hu5, kw5⟩
          rw [HST.out]
          simpa [liftI, HB.out, Fm.enc] using hI5
        case measure => simp [intOf]; omega
    · obtain rfl : i = M.length := by omega
      go_wp2
      go_ret
      rw [List.take_length] at hI
      exact ⟨_, rfl, hI, kw⟩
--
set_option maxRecDepth 20000 in
set_option maxHeartbeats 4000000 in
theorem l31Lift_any (a : List Nd) (mask : Nat) (v : Value) (w : World) (hv : Nds w v a) (ha : a.all okNd = true) (hl : a.length ≤ 1000000) (hm : mask < 64) : Calls Tryz.prog 121 #[v, .int .i64 mask] w (RetL w (liftL a mask)) := by
  obtain ⟨pv, nv, cv, rfl⟩ := hv.shape
  have HA := hid ha; clear ha
  have hmr := mem_range (vm a)
  have hml := low_len (vm a) 6
  have hs6 := liftF_snoc a mask
  have hl6 := liftF_len a mask
  have HV := hid (fun w1 (k : Keeps w w1) => l02Variables_any a _ _ (hv.keeps k) HA.out)
  unfold liftL
  change (mem (vm a)).length ≤ 6 at hml
  generalize mem (vm a) = M at *
  have HS6 := hid hs6; clear hs6
  have HL6 := hid hl6; clear hl6
  have HMR := hid hmr; clear hmr
  go_enter Tryz.func121, Tryz.ntmps121
  go_wp2_with fail
  refine (l03Self_any w).mono ?_; rintro e w1 ⟨vI, rfl, hI, kI⟩
  obtain ⟨g, cap, rfl, hg0, hg1⟩ := hI.shape (by rw [idL_len]; omega)
  rw [idL_len] at hI ⊢
  go_wp2_with fail
  refine (HV.out w1 kI).mono ?_; rintro e w3 ⟨u, rfl, hu, k3⟩
  clear HV
  have kI3 := kI.trans k3
  have hI3 := hI.keeps k3
  obtain ⟨pu, cu, rfl, hcu, hmu, hatu, hlu⟩ := hu.ints (by omega)
  have hu3 := hu.mono kI.size
  unfold maxLen at hmu
  clear hI hatu hu
  go_wp2_with fail
  go_loopw [7] (fun i' wr => ∃ i : Nat, i ≤ M.length ∧ i' = .int .i64 i ∧ OwnL wr w.heap.size (.slice (some ⟨g, 0, none⟩) 6 cap) (liftF a mask (M.take i)) ∧ OwnI wr w.heap.size (.slice pu M.length cu) M ∧ Keeps w wr) (fun i _ => M.length - (intOf i).toNat)
  case atStart => exact ⟨0, by omega, rfl, by simpa [liftF] using hI3, hu3, kI3⟩
  case round =>
    obtain ⟨i, hi, rfl, hI, hu, kw⟩ := hrel
    clear hI3 hu3 kI3
    by_cases hlt : i < M.length
    · have hlt' : (i : Int) < M.length := by omega
      have hle0 : (0 : Int) ≤ i := by omega
      obtain ⟨_, _, e1, _, _, hatu, _⟩ := hu.ints (by omega)
      cases e1
      obtain ⟨b, off, rfl, hc⟩ := hatu.int i hlt
      clear hatu
      obtain ⟨x, hx6, hx⟩ := HMR.out M[i] (List.getElem_mem hlt)
      have hst := HS6.out (M.take i) (x : Int)
      rw [← hx, ← List.take_succ_eq_append_getElem hlt, hx] at hst
      rw [hx] at hc
      have hlen := HL6.out (M.take i)
      have hw0 := kw.size
      have HH := hid (l01Bit_any mask x wr hm (by omega))
      have hx6' : (x : Int) < 6 := by omega
      have hx0' : (0 : Int) ≤ x := by omega
      have hcd : wr.drew.cell? ⟨b, off + i, none⟩ = some (.int .i64 x) := hc
      have kd := (Keeps.refl wr).drew
      have hne : ∀ (w5 : World) {l : List (List Nd)} {q : Nat}, OwnL wr w.heap.size (.slice (some ⟨g, 0, none⟩) 6 cap) l → OwnI wr w.heap.size (.slice (some ⟨b, off, none⟩) q cu) M → Keeps wr w5 → some b ≠ some g := by
        intro w5 l q h1 h2 k5
        obtain ⟨vs', hr'⟩ := (h1.keeps k5).typed
        exact type_ne hr' (h2.keeps k5) tyni (k := g) rfl
      clear hx
      have HST := hid hst; clear hst
      cases hb : mask.testBit x
      all_goals
        rw [hb] at HH
        have HB := hid hb; clear hb
        go_wp2_with fail
        refine HH.out.mono ?_; rintro e w' ⟨rfl, rfl⟩
        go_wp2_with fail
        go_region_held3 (fun w' => w'.cell? ⟨b, off + i, none⟩ = some (.int .i64 x)) (first | exact hcd | exact hc4 | exact hc5 | exact hc6) (first
          | (go_at_call 130; refine (l02Var_any x _).mono ?_; rintro e w4 ⟨v4, rfl, hv4, k4⟩; have hc4 := k4.cell hcd)
          | (go_at_call 131; refine (l02Pair_any _ _ _ _ _ _ (((hv.keeps kw).keeps kd).keeps k4) (hv4.nds (by simp [Fm.enc])) (by simp [Fm.enc]; omega)).mono ?_; rintro e w5 ⟨v5, rfl, hv5, k5⟩; have hc5 := k5.cell hc4; have k45 := kd.trans (k4.trans k5); obtain ⟨g', cap', c5, e5, hg2, hg3, hcg5, hf5, hI5, gr5⟩ := hI.store k45 (hv5.mono k4.size) hw0 x (by rw [hlen]; omega); rw [hlen] at e5; cases e5; have hu5 := (hu.keeps k45).beside (hI.keeps k45) rfl gr5; obtain ⟨p5, n5, q5, rfl⟩ : ∃ p n c, v5 = .slice p n c := (by obtain ⟨p, c, e, _⟩ := At.of_own hv5; exact ⟨p, _, c, e⟩); have hc6 := World.grownBy.cell gr5 hc5 (hne w5 hI hu k45)))
        go_wp2_with fail
        go_roundw
        case rel =>
          refine ⟨i + 1, by omega, by go_num, ?_, hu5, (kw.trans k45).grown gr5 (fun j hj => by cases hj; exact hg2)⟩
          rw [HST.out]
          simpa [liftI, HB.out, Fm.enc] using hI5
        case measure => simp [intOf]; omega
    · obtain rfl : i = M.length := by omega
      go_wp2
      go_ret
      rw [List.take_length] at hI
      exact ⟨_, rfl, hI, kw⟩
end Go.Proofs.YtodeecmhcfbheaaGreat
/- LiftSubstitution on both sides, and its law. -/
namespace Go.Proofs.YtodeecmhcfbheaaGreat
open Go.RowKit
theorem plainErr_ok {a : List Nd} (h : plainErr a = 0) : a.all okNd = true ∧ a.length ≤ 40 := by
  unfold plainErr at h
  split at h
  · rename_i hf
    simp [isFm, isTree] at hf
    exact ⟨by simpa using hf.2.1, hf.1⟩
  · cases h
theorem any_set {l : List (List Nd)} {i : Nat} {y : List Nd} (hi : i < l.length) (hy : 40 < y.length) : bigL (l.set i y) = true := by
  unfold bigL
  exact List.any_eq_true.2 ⟨y, List.mem_set hi y, by simpa using hy⟩
theorem liftF_mem (a : List Nd) (mask : Nat) (ms : List Int) : ∀ x ∈ liftF a mask ms, x.length ≤ a.length + 2 := by
  unfold liftF
  have : ∀ (l : List (List Nd)), (∀ x ∈ l, x.length ≤ a.length + 2) → ∀ x ∈ ms.foldl (fun l v => l.set v.toNat (liftI a mask v)) l, x.length ≤ a.length + 2 := by
    induction ms with
    | nil => intro l h; exact h
    | cons m ms ih =>
      intro l h
      rw [List.foldl_cons]
      refine ih _ (fun x hx => ?_)
      rcases List.mem_or_eq_of_mem_set hx with h1 | rfl
      · exact h x h1
      · rw [liftI_len]; exact Nat.le_refl _
  refine this _ (fun x hx => ?_)
  simp [idL] at hx
  obtain ⟨v, _, rfl⟩ := hx
  simp [Fm.enc]
theorem liftL_big (a : List Nd) (mask : Nat) : bigL (liftL a mask) = (decide (0 < (mem (vm a)).length) && decide (40 < a.length + 2)) := by
  have hmr := mem_range (vm a)
  unfold liftL
  generalize mem (vm a) = M at *
  by_cases hl : 40 < a.length + 2
  · rcases List.eq_nil_or_concat M with rfl | ⟨M', m, rfl⟩
    · simp [liftF]; decide
    · obtain ⟨k, hk, e⟩ := hmr m (by simp)
      rw [List.concat_eq_append, liftF_snoc]
      rw [any_set (by rw [liftF_len]; omega) (by rw [liftI_len]; exact hl)]
      simp; omega
  · have : bigL (liftF a mask M) = false := by
      rw [Bool.eq_false_iff]; intro h
      unfold bigL at h
      obtain ⟨x, hx, h2⟩ := List.any_eq_true.1 h
      have := liftF_mem a mask M x hx
      simp at h2; omega
    rw [this]; simp [hl]
theorem tot_bound (l : List (List Nd)) (n : Nat) (h : ∀ x ∈ l, x.length ≤ n) : tot l ≤ n * l.length := by
  induction l with
  | nil => simp [tot]
  | cons x l ih =>
    have h1 := h x (List.mem_cons_self ..)
    have h2 := ih (fun y hy => h y (List.mem_cons_of_mem _ hy))
    simp only [tot, List.length_cons]
    rw [Nat.mul_succ]; omega
theorem not_big {l : List (List Nd)} (h : bigL l = false) : ∀ x ∈ l, x.length ≤ 40 := by
  intro x hx
  rcases Nat.lt_or_ge 40 x.length with h1 | h1
  · have : bigL l = true := List.any_eq_true.2 ⟨x, hx, by simpa using h1⟩
    rw [h] at this; cases this
  · exact h1
theorem limitedAll_small (l : List (List Nd)) (v : Value) (w : World) (hv : NdsL w v l) (hb : bigL l = false) :
    Calls Tryz.prog 96 #[v] w fun e w' => e = .returned (.tuple #[v, .int .i64 0]) ∧ Keeps w w' := by
  have h := limitedAll_any l v w hv
  rw [hb] at h
  exact h
theorem limitedAll_big (l : List (List Nd)) (v : Value) (w : World) (hv : NdsL w v l) (hb : bigL l = true) :
    Calls Tryz.prog 96 #[v] w fun e w' => e = .returned (.tuple #[.slice none 0 0, .int .i64 3]) ∧ Keeps w w' := by
  have h := limitedAll_any l v w hv
  rw [hb] at h
  exact h
def BothLift (a : List Nd) (mask : Int) (r : List (List Nd)) (c : Int) : Prop :=
  (∀ v w, Nds w v a → Calls Tryz.prog 46 #[v, .int .i64 mask] w fun e w' => ∃ u, e = .returned (.tuple #[u, .int .i64 c]) ∧ NdsL w' u r ∧ Keeps w w') ∧
  (∀ v w, Nds w v a → Calls Tryz.prog 45 #[v, .int .i64 mask] w fun e w' => ∃ u, e = .returned (.tuple #[u, .int .i64 c]) ∧ OwnL w' w.heap.size u r ∧ Keeps w w')
theorem ndsL_nil (w : World) : NdsL w (.slice none 0 0) [] := (OwnL.nil w 0).ndsL (by simp) (by simp [tot])
--
set_option maxRecDepth 20000 in
set_option maxHeartbeats 4000000 in
theorem bothLift (a : List Nd) (mask : Int) : ∃ r c, BothLift a mask r c ∧ r.length ≤ 6 ∧ tot r ≤ 1000 := by
  have hne := fun (v : Value) (w : World) (hv : Nds w v a) => plainCode_any [a] _ _ (NdsL.lit1 hv)
  have hns := fun (v : Value) (w : World) (hv : Nds w v a) => l31Plain_any [a] _ _ (NdsL.lit1 hv)
  rw [plainErrs_one] at hne hns
  have HN := hid hne; clear hne
  have HS := hid hns; clear hns
  by_cases h : plainErr a = 0
  · obtain ⟨hok, hla⟩ := plainErr_ok h
    have h' : (plainErr a != 0) = false := by simp [h]
    rw [h] at HN HS
    clear h h'
    by_cases hm : inR mask 0 63 = true
    · obtain ⟨m, rfl, hm64⟩ : ∃ m : Nat, mask = m ∧ m < 64 := ⟨mask.toNat, by simp [inR] at hm; omega, by simp [inR] at hm; omega⟩
      have hbig := liftL_big a m
      have hmem := liftF_mem a m (mem (vm a))
      have hlen := liftF_len a m (mem (vm a))
      change ∀ x ∈ liftL a m, _ at hmem
      change (liftL a m).length = 6 at hlen
      have htot := tot_bound _ _ hmem
      rw [hlen] at htot
      have hl2 := low_len (vm a) 6
      change (mem (vm a)).length ≤ 6 at hl2
      have HLI := hid (fun v w hv => lifted_any a m v w hv hok (by omega) hm64)
      have HLS := hid (fun v w hv => l31Lift_any a m v w hv hok (by omega) hm64)
      have HV := hid (fun v w hv => l02Variables_any a v w hv hok)
      have HF := hid (fun w => l01Full_any 6 w (by omega) (by omega))
      have HI := hid (fun w => l01In_any (m : Int) 0 63 w)
      have HM := hid (fun w => isMask6_any (m : Int) w)
      rw [hm] at HI HM
      have HOK := hid hok; clear hok
      refine ⟨if bigL (liftL a m) then [] else liftL a m, if bigL (liftL a m) then 3 else 0, ⟨fun v w hv => ?_, fun v w hv => ?_⟩, ?_, ?_⟩
      · have hv0 := hv
        obtain ⟨p, cap, rfl, _, _, _, _⟩ := hv
        have k1 := (Keeps.refl w).alloc (.cells #[.slice p a.length cap] 24)
        by_cases hM : 0 < (mem (vm a)).length
        · by_cases hL : 40 < a.length + 2
          · have hbv : bigL (liftL a m) = true := by rw [hbig, decide_eq_true hM, decide_eq_true hL]; rfl
            rw [hbv]
            have d1 : decide (((mem (vm a)).length : Int) > 0) = true := by simp; omega
            have d2 : decide ((a.length : Int) + 2 > 40) = true := by simp; omega
            clear hbv hbig
            go_enter Tryz.func46, Tryz.ntmps46
            go_wp2_with fail
            refine (HS.out _ _ hv0).mono ?_; rintro e w' ⟨rfl, rfl⟩
            go_wp2_with fail
            refine (HF.out _).mono ?_; rintro e w' ⟨rfl, rfl⟩
            go_wp2_with fail
            refine (HI.out _).mono ?_; rintro e w' ⟨rfl, rfl⟩
            go_wp2_with fail
            refine (HV.out _ _ (hv0.keeps k1)).mono ?_; rintro e w2 ⟨u2, rfl, hu2, k2⟩
            obtain ⟨pu, cu, rfl, _, _, _, _⟩ := hu2.ints (by omega)
            go_wp2_with fail
            go_ret2
            exact ⟨_, rfl, ndsL_nil _, k1.trans k2⟩
          · have hbv : bigL (liftL a m) = false := by rw [hbig, decide_eq_false hL]; simp
            rw [hbv]
            have d1 : decide (((mem (vm a)).length : Int) > 0) = true := by simp; omega
            have d2 : decide ((a.length : Int) + 2 > 40) = false := by simp; omega
            clear hbv hbig
            go_enter Tryz.func46, Tryz.ntmps46
            go_wp2_with fail
            refine (HS.out _ _ hv0).mono ?_; rintro e w' ⟨rfl, rfl⟩
            go_wp2_with fail
            refine (HF.out _).mono ?_; rintro e w' ⟨rfl, rfl⟩
            go_wp2_with fail
            refine (HI.out _).mono ?_; rintro e w' ⟨rfl, rfl⟩
            go_wp2_with fail
            refine (HV.out _ _ (hv0.keeps k1)).mono ?_; rintro e w2 ⟨u2, rfl, hu2, k2⟩
            obtain ⟨pu, cu, rfl, _, _, _, _⟩ := hu2.ints (by omega)
            go_wp2_with fail
            refine (HLS.out _ _ (hv0.keeps (k1.trans k2))).mono ?_; rintro e w3 ⟨u3, rfl, hu3, k3⟩
            go_wp2_with fail
            go_ret2
            exact ⟨_, rfl, hu3.ndsL (by rw [hlen]; omega) (by omega), (k1.trans k2).trans k3⟩
        · have hbv : bigL (liftL a m) = false := by rw [hbig, decide_eq_false hM]; simp
          rw [hbv]
          have d1 : decide (((mem (vm a)).length : Int) > 0) = false := decide_eq_false (by omega)
          clear hbv hbig
          go_enter Tryz.func46, Tryz.ntmps46
          go_wp2_with fail
          refine (HS.out _ _ hv0).mono ?_; rintro e w' ⟨rfl, rfl⟩
          go_wp2_with fail
          refine (HF.out _).mono ?_; rintro e w' ⟨rfl, rfl⟩
          go_wp2_with fail
          refine (HI.out _).mono ?_; rintro e w' ⟨rfl, rfl⟩
          go_wp2_with fail
          refine (HV.out _ _ (hv0.keeps k1)).mono ?_; rintro e w2 ⟨u2, rfl, hu2, k2⟩
          obtain ⟨pu, cu, rfl, _, _, _, _⟩ := hu2.ints (by omega)
          go_wp2_with fail
          refine (HLS.out _ _ (hv0.keeps (k1.trans k2))).mono ?_; rintro e w3 ⟨u3, rfl, hu3, k3⟩
          go_wp2_with fail
          go_ret2
          exact ⟨_, rfl, hu3.ndsL (by rw [hlen]; omega) (by omega), (k1.trans k2).trans k3⟩
      · have hv0 := hv
        obtain ⟨p, cap, rfl, _, _, _, _⟩ := hv
        have k1 := (Keeps.refl w).alloc (.cells #[.slice p a.length cap] 24)
        clear hbig
        cases hb : bigL (liftL a m)
        · have HB0 := hid hb; clear hb
          simp only [Bool.false_eq_true, if_false]
          go_enter Tryz.func45, Tryz.ntmps45
          go_wp2_with fail
          refine (HN.out _ _ hv0).mono ?_; rintro e w2 ⟨rfl, k2⟩
          go_wp2_with fail
          refine (HM.out _).mono ?_; rintro e w' ⟨rfl, rfl⟩
          go_wp2_with fail
          refine (HLI.out _ _ (hv0.keeps (k1.trans k2))).mono ?_; rintro e w3 ⟨u3, rfl, hu3, k3⟩
          obtain ⟨g3, c3, e3, _, _⟩ := hu3.shape (by rw [hlen]; omega)
          rw [hlen] at e3
          subst e3
          have kk := (k1.trans k2)
          have hnl := hu3.ndsL (by rw [hlen]; omega) (by omega)
          have HB := hid (limitedAll_small _ _ _ hnl HB0.out)
          clear hnl
          go_wp2_with fail
          refine HB.out.mono ?_; rintro e w4 ⟨rfl, k4⟩
          go_wp2_with fail
          go_ret2
          exact ⟨_, rfl, (hu3.keeps k4).mono kk.size, (kk.trans k3).trans k4⟩
        · have HB0 := hid hb; clear hb
          simp only [if_true]
          go_enter Tryz.func45, Tryz.ntmps45
          go_wp2_with fail
          refine (HN.out _ _ hv0).mono ?_; rintro e w2 ⟨rfl, k2⟩
          go_wp2_with fail
          refine (HM.out _).mono ?_; rintro e w' ⟨rfl, rfl⟩
          go_wp2_with fail
          refine (HLI.out _ _ (hv0.keeps (k1.trans k2))).mono ?_; rintro e w3 ⟨u3, rfl, hu3, k3⟩
          obtain ⟨g3, c3, e3, _, _⟩ := hu3.shape (by rw [hlen]; omega)
          rw [hlen] at e3
          subst e3
          have kk := (k1.trans k2)
          have hnl := hu3.ndsL (by rw [hlen]; omega) (by omega)
          have HB := hid (limitedAll_big _ _ _ hnl HB0.out)
          clear hnl
          go_wp2_with fail
          refine HB.out.mono ?_; rintro e w4 ⟨rfl, k4⟩
          go_wp2_with fail
          go_ret2
          exact ⟨_, rfl, OwnL.nil _ _, (kk.trans k3).trans k4⟩
      · split
        · simp
        · rw [hlen]; omega
      · cases hb : bigL (liftL a m)
        · simp only [Bool.false_eq_true, if_false]
          have := tot_bound _ 40 (not_big hb)
          rw [hlen] at this; omega
        · simp [tot]
    · have hmf : inR mask 0 63 = false := by simpa using hm
      have HF := hid (fun w => l01Full_any 6 w (by omega) (by omega))
      have HI := hid (fun w => l01In_any mask 0 63 w)
      have HM := hid (fun w => isMask6_any mask w)
      rw [hmf] at HI HM
      clear hm hmf
      refine ⟨[], 2, ⟨fun v w hv => ?_, fun v w hv => ?_⟩, by simp, by simp [tot]⟩
      · have hv0 := hv
        obtain ⟨p, cap, rfl, _, _, _, _⟩ := hv
        have k1 := (Keeps.refl w).alloc (.cells #[.slice p a.length cap] 24)
        go_enter Tryz.func46, Tryz.ntmps46
        go_wp2_with fail
        refine (HS.out _ _ hv0).mono ?_; rintro e w' ⟨rfl, rfl⟩
        go_wp2_with fail
        refine (HF.out _).mono ?_; rintro e w' ⟨rfl, rfl⟩
        go_wp2_with fail
        refine (HI.out _).mono ?_; rintro e w' ⟨rfl, rfl⟩
        go_wp2_with fail
        go_ret2
        exact ⟨_, rfl, ndsL_nil _, k1⟩
      · have hv0 := hv
        obtain ⟨p, cap, rfl, _, _, _, _⟩ := hv
        have k1 := (Keeps.refl w).alloc (.cells #[.slice p a.length cap] 24)
        go_enter Tryz.func45, Tryz.ntmps45
        go_wp2_with fail
        refine (HN.out _ _ hv0).mono ?_; rintro e w2 ⟨rfl, k2⟩
        go_wp2_with fail
        refine (HM.out _).mono ?_; rintro e w' ⟨rfl, rfl⟩
        go_wp2_with fail
        go_ret2
        exact ⟨_, rfl, OwnL.nil _ _, k1.trans k2⟩
  · have h' : (plainErr a != 0) = true := by simp [h]
    generalize plainErr a = c at *
    have H := hid h; clear h
    refine ⟨[], c, ⟨fun v w hv => ?_, fun v w hv => ?_⟩, by simp, by simp [tot]⟩
    · have hv0 := hv
      obtain ⟨p, cap, rfl, _, _, _, _⟩ := hv
      have k1 := (Keeps.refl w).alloc (.cells #[.slice p a.length cap] 24)
      go_enter Tryz.func46, Tryz.ntmps46
      go_wp2_with fail
      refine (HS.out _ _ hv0).mono ?_; rintro e w' ⟨rfl, rfl⟩
      go_wp2_with fail
      go_ret2
      exact ⟨_, rfl, ndsL_nil _, k1⟩
    · have hv0 := hv
      obtain ⟨p, cap, rfl, _, _, _, _⟩ := hv
      have k1 := (Keeps.refl w).alloc (.cells #[.slice p a.length cap] 24)
      go_enter Tryz.func45, Tryz.ntmps45
      go_wp2_with fail
      refine (HN.out _ _ hv0).mono ?_; rintro e w2 ⟨rfl, k2⟩
      go_wp2_with fail
      go_ret2
      exact ⟨_, rfl, OwnL.nil _ _, k1.trans k2⟩
end Go.Proofs.YtodeecmhcfbheaaGreat
