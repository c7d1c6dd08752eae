/- SplitRule on both sides. -/
import Derived.Test.YtpbbfoliabgkpaaGreatGV5
import Derived.Test.YtpbbfoliabgkpaaGreatGM5
import Derived.Test.YtpbbfoliabgkpaaGreatGSC
namespace Go.Proofs.YtpbbfoliabgkpaaGreat
open Go.RowKit
theorem NdsL.litOneN {w : World} {N : Nat} (hN : N = w.heap.size) {u : Value} {x : List Nd} (h : Nds w u x) : NdsL (w.alloc (.cells #[u] 24)) (.slice (some ⟨N, 0, none⟩) 1 1) [x] := by
  subst hN; exact NdsL.lit1 h
theorem OwnL.litOneN {w : World} {N B : Nat} (hN : N = w.heap.size) {u : Value} {x : List Nd} (h : OwnN w B u x) (hB : B ≤ w.heap.size) : OwnL (w.alloc (.cells #[u] 24)) B (.slice (some ⟨N, 0, none⟩) 1 1) [x] := by
  subst hN
  obtain ⟨vs, ho, hr, ha, hf⟩ := OwnR.mk1 (c := []) (u := .slice none 0 0) h hB (Keeps.refl _) (OwnN.nil _ _)
  exact ⟨vs, ho, hr.tail, fun i j hi hj hne => ha (i + 1) (j + 1) (by simpa using hi) (by simpa using hj) (by omega), off_rows ho hr.tail⟩
theorem nds_nil (w : World) : Nds w (.slice none 0 0) [] := (OwnN.nil w 0).nds (by simp)
def spP (a : List Nd) : List Nd := ⟨4, 0⟩ :: (a ++ (⟨3, 0⟩ :: ((Fm.var 4).enc ++ (Fm.var 5).enc)))
def spC (a : List Nd) : List Nd := ⟨3, 0⟩ :: ((⟨4, 0⟩ :: (a ++ (Fm.var 4).enc)) ++ (⟨4, 0⟩ :: (a ++ (Fm.var 5).enc)))
def splE (a : List Nd) : Int := if plainErr a = 0 then (if (vm a).testBit 4 = true ∨ (vm a).testBit 5 = true then 2 else if 40 < a.length + 4 ∨ 40 < 2 * a.length + 5 then 3 else 0) else plainErr a
def splP (a : List Nd) : List (List Nd) := if splE a = 0 then [spP a] else []
def splC (a : List Nd) : List Nd := if splE a = 0 then spC a else []
section
variable {a : List Nd}
theorem splE_err (h : ¬ plainErr a = 0) : splE a = plainErr a := by unfold splE; rw [if_neg h]
theorem splP_err (h : ¬ plainErr a = 0) : splP a = [] := by unfold splP; rw [if_neg (by rw [splE_err h]; exact h)]
theorem splC_err (h : ¬ plainErr a = 0) : splC a = [] := by unfold splC; rw [if_neg (by rw [splE_err h]; exact h)]
theorem splE_var (h : plainErr a = 0) (h2 : (vm a).testBit 4 = true ∨ (vm a).testBit 5 = true) : splE a = 2 := by unfold splE; rw [if_pos h, if_pos h2]
theorem splP_var (h : plainErr a = 0) (h2 : (vm a).testBit 4 = true ∨ (vm a).testBit 5 = true) : splP a = [] := by unfold splP; rw [splE_var h h2]; rfl
theorem splC_var (h : plainErr a = 0) (h2 : (vm a).testBit 4 = true ∨ (vm a).testBit 5 = true) : splC a = [] := by unfold splC; rw [splE_var h h2]; rfl
theorem splE_big (h : plainErr a = 0) (t4 : (vm a).testBit 4 = false) (t5 : (vm a).testBit 5 = false) (h3 : 40 < a.length + 4 ∨ 40 < 2 * a.length + 5) : splE a = 3 := by unfold splE; rw [if_pos h, if_neg (by simp [t4, t5]), if_pos h3]
theorem splP_big (h : plainErr a = 0) (t4 : (vm a).testBit 4 = false) (t5 : (vm a).testBit 5 = false) (h3 : 40 < a.length + 4 ∨ 40 < 2 * a.length + 5) : splP a = [] := by unfold splP; rw [splE_big h t4 t5 h3]; rfl
theorem splC_big (h : plainErr a = 0) (t4 : (vm a).testBit 4 = false) (t5 : (vm a).testBit 5 = false) (h3 : 40 < a.length + 4 ∨ 40 < 2 * a.length + 5) : splC a = [] := by unfold splC; rw [splE_big h t4 t5 h3]; rfl
theorem splE_ok (h : plainErr a = 0) (t4 : (vm a).testBit 4 = false) (t5 : (vm a).testBit 5 = false) (h3 : ¬ 40 < a.length + 4) (h4 : ¬ 40 < 2 * a.length + 5) : splE a = 0 := by unfold splE; rw [if_pos h, if_neg (by simp [t4, t5]), if_neg (by omega)]
theorem splP_ok (h : plainErr a = 0) (t4 : (vm a).testBit 4 = false) (t5 : (vm a).testBit 5 = false) (h3 : ¬ 40 < a.length + 4) (h4 : ¬ 40 < 2 * a.length + 5) : splP a = [spP a] := by unfold splP; rw [splE_ok h t4 t5 h3 h4]; rfl
theorem splC_ok (h : plainErr a = 0) (t4 : (vm a).testBit 4 = false) (t5 : (vm a).testBit 5 = false) (h3 : ¬ 40 < a.length + 4) (h4 : ¬ 40 < 2 * a.length + 5) : splC a = spC a := by unfold splC; rw [splE_ok h t4 t5 h3 h4]; rfl
end
theorem spl_len (a : List Nd) : (splP a).length ≤ 1000 ∧ tot (splP a) + (splC a).length ≤ 1000 := by
  unfold splP splC
  by_cases h : splE a = 0
  · rw [if_pos h, if_pos h]
    have h1 : ¬ (40 < a.length + 4 ∨ 40 < 2 * a.length + 5) := by
      intro hb
      unfold splE at h
      split at h
      · split at h
        · omega
        · first | omega | (rw [if_pos hb] at h; omega)
      · contradiction
    refine ⟨by simp, ?_⟩
    simp [tot, spP, spC, Fm.enc]; omega
  · rw [if_neg h, if_neg h]; simp [tot]
--
set_option maxRecDepth 20000 in
set_option maxHeartbeats 8000000 in
theorem specSplitO (a : List Nd) (v : Value) (w : World) (hv : Nds w v a) : Calls Tryz.prog 39 #[v] w fun e w' => ∃ x u, e = .returned (.tuple #[.agg #[x, u], .int .i64 (splE a)]) ∧ OwnL w' w.heap.size x (splP a) ∧ OwnN w' w.heap.size u (splC a) ∧ Keeps w w' := by
  have hv0 := hv
  obtain ⟨p, cap, rfl, _, _, _, _⟩ := hv
  have kR := (Keeps.refl w).alloc (.cells #[.slice none 0 0, .slice none 0 0] 37)
  have k1 := (Keeps.refl (w.alloc (.cells #[.slice none 0 0, .slice none 0 0] 37))).alloc (.cells #[.slice p a.length cap] 24)
  have hRb : w.heap.size < (w.alloc (.cells #[.slice none 0 0, .slice none 0 0] 37)).heap.size := by simp
  have hns := l31Plain_any [a] _ _ (NdsL.lit1 (hv0.keeps kR))
  rw [plainErrs_one, show (w.alloc (.cells #[.slice none 0 0, .slice none 0 0] 37)).heap.size = w.heap.size + 1 by simp] at hns
  have HS := hid hns; clear hns
  by_cases h : plainErr a = 0
  · obtain ⟨hok, hla⟩ := plainErr_ok h
    have hm64 := vm_lt hok a.length (Nat.le_refl _)
    rw [List.take_length] at hm64
    obtain ⟨h4, h5⟩ := has45 ⟨vm a, hm64⟩
    simp only at h4 h5
    have hl2 := low_len (vm a) 6
    change (mem (vm a)).length ≤ 6 at hl2
    have HV := hid (fun v w hv => l02Variables_any a v w hv hok)
    clear hok
    cases t4 : (vm a).testBit 4
    · cases t5 : (vm a).testBit 5
      · by_cases b1 : 40 < a.length + 4
        · rw [splE_big h t4 t5 (.inl b1), splP_big h t4 t5 (.inl b1), splC_big h t4 t5 (.inl b1)]
          have H4 := hid (h4.trans t4)
          have H5 := hid (h5.trans t5)
          rw [h] at HS
          clear h h4 h5 t4 t5
          generalize mem (vm a) = M at *
          go_enter Tryz.func39, Tryz.ntmps39
          go_wp2_with fail
          refine HS.out.mono ?_; rintro e w' ⟨rfl, rfl⟩
          go_wp2_with fail
          refine (HV.out _ _ (hv0.keeps (kR.trans k1))).mono ?_; rintro e w2 ⟨u2, rfl, hu2, k2⟩
          have hu2i := hu2.ints (by omega)
          obtain ⟨pu, cu, rfl, _, _, _, _⟩ := hu2.ints (by omega)
          have k02 := k1.trans k2
          go_wp2_with fail
          refine (l01Has_any _ 4 _ _ hu2i).mono ?_; rintro e w' ⟨rfl, rfl⟩; rw [H4.out]
          go_wp2_with fail
          refine (l01Has_any _ 5 _ _ hu2i).mono ?_; rintro e w' ⟨rfl, rfl⟩; rw [H5.out]
          clear hu2 hu2i
          go_wp2_with fail
          refine (l02Var_any 4 _).mono ?_; rintro e w3 ⟨v3, rfl, hv3, k3⟩
          go_wp2_with fail
          refine (l02Var_any 5 _).mono ?_; rintro e w4 ⟨v4, rfl, hv4, k4⟩
          go_wp2_with fail
          refine (l02Pair_any 3 _ _ _ _ _ ((hv3.keeps k4).nds (by simp [Fm.enc])) (hv4.nds (by simp [Fm.enc])) (by simp [Fm.enc])).mono ?_; rintro e w5 ⟨v5, rfl, hv5, k5⟩
          have k05 := k02.trans (k3.trans (k4.trans k5))
          go_wp2_with fail
          refine (l02Pair_any 4 _ _ _ _ _ (hv0.keeps (kR.trans k05)) (hv5.nds (by simp [Fm.enc])) (by simp [Fm.enc]; omega)).mono ?_; rintro e w6 ⟨v6, rfl, hv6, k6⟩
          go_wp2_with fail
          refine (l02Pair_any 4 _ _ _ _ _ (hv0.keeps (kR.trans (k05.trans k6))) ((hv3.keeps (k4.trans (k5.trans k6))).nds (by simp [Fm.enc])) (by simp [Fm.enc]; omega)).mono ?_; rintro e w7 ⟨v7, rfl, hv7, k7⟩
          go_wp2_with fail
          refine (l02Pair_any 4 _ _ _ _ _ (hv0.keeps (kR.trans ((k05.trans k6).trans k7))) ((hv4.keeps (k5.trans (k6.trans k7))).nds (by simp [Fm.enc])) (by simp [Fm.enc]; omega)).mono ?_; rintro e w8 ⟨v8, rfl, hv8, k8⟩
          go_wp2_with fail
          refine (l02Pair_any 3 _ _ _ _ _ ((hv7.keeps k8).nds (by simp [Fm.enc]; omega)) (hv8.nds (by simp [Fm.enc]; omega)) (by simp [Fm.enc]; omega)).mono ?_; rintro e w9 ⟨v9, rfl, hv9, k9⟩
          have hP := hv6.keeps (k7.trans (k8.trans k9))
          have k09 := (k05.trans k6).trans (k7.trans (k8.trans k9))
          clear hv3 hv4 hv5 hv6 hv7 hv8
          obtain ⟨pp, np, cp, rfl, hnp⟩ : ∃ p n c, v6 = .slice p n c ∧ n = a.length + 4 := by obtain ⟨p, c, e, _⟩ := At.of_own hP; exact ⟨p, _, c, e, by simp [Fm.enc]⟩
          have HNP := hid hnp; clear hnp
          obtain ⟨pc, nc, cc, rfl, hnc⟩ : ∃ p n c, v9 = .slice p n c ∧ n = 2 * a.length + 5 := by obtain ⟨p, c, e, _⟩ := At.of_own hv9; exact ⟨p, _, c, e, by simp [Fm.enc]; omega⟩
          have HNC := hid hnc; clear hnc
          obtain ⟨hc2, hf2⟩ := k09.both
          have d1 : decide ((np : Int) > 40) = true := decide_eq_true (by have := HNP.out; omega)
          have d2 : decide ((nc : Int) > 40) = true := decide_eq_true (by have := HNC.out; omega)
          go_wp2_with fail
          refine bodyPost_ret (v := .tuple #[.agg #[.slice none 0 0, .slice none 0 0], .int .i64 3]) (by simp [results, Tryz.results39, go_sem, hc2]) rfl ?_
          exact ⟨_, _, rfl, OwnL.nil _ _, OwnN.nil _ _, (((kR.trans k09).setCell (Nat.le_refl _) _).setCell (Nat.le_refl _) _)⟩
        · by_cases b2 : 40 < 2 * a.length + 5
          · rw [splE_big h t4 t5 (.inr b2), splP_big h t4 t5 (.inr b2), splC_big h t4 t5 (.inr b2)]
            have H4 := hid (h4.trans t4)
            have H5 := hid (h5.trans t5)
            rw [h] at HS
            clear h h4 h5 t4 t5
            generalize mem (vm a) = M at *
            go_enter Tryz.func39, Tryz.ntmps39
            go_wp2_with fail
            refine HS.out.mono ?_; rintro e w' ⟨rfl, rfl⟩
            go_wp2_with fail
            refine (HV.out _ _ (hv0.keeps (kR.trans k1))).mono ?_; rintro e w2 ⟨u2, rfl, hu2, k2⟩
            have hu2i := hu2.ints (by omega)
            obtain ⟨pu, cu, rfl, _, _, _, _⟩ := hu2.ints (by omega)
            have k02 := k1.trans k2
            go_wp2_with fail
            refine (l01Has_any _ 4 _ _ hu2i).mono ?_; rintro e w' ⟨rfl, rfl⟩; rw [H4.out]
            go_wp2_with fail
            refine (l01Has_any _ 5 _ _ hu2i).mono ?_; rintro e w' ⟨rfl, rfl⟩; rw [H5.out]
            clear hu2 hu2i
            go_wp2_with fail
            refine (l02Var_any 4 _).mono ?_; rintro e w3 ⟨v3, rfl, hv3, k3⟩
            go_wp2_with fail
            refine (l02Var_any 5 _).mono ?_; rintro e w4 ⟨v4, rfl, hv4, k4⟩
            go_wp2_with fail
            refine (l02Pair_any 3 _ _ _ _ _ ((hv3.keeps k4).nds (by simp [Fm.enc])) (hv4.nds (by simp [Fm.enc])) (by simp [Fm.enc])).mono ?_; rintro e w5 ⟨v5, rfl, hv5, k5⟩
            have k05 := k02.trans (k3.trans (k4.trans k5))
            go_wp2_with fail
            refine (l02Pair_any 4 _ _ _ _ _ (hv0.keeps (kR.trans k05)) (hv5.nds (by simp [Fm.enc])) (by simp [Fm.enc]; omega)).mono ?_; rintro e w6 ⟨v6, rfl, hv6, k6⟩
            go_wp2_with fail
            refine (l02Pair_any 4 _ _ _ _ _ (hv0.keeps (kR.trans (k05.trans k6))) ((hv3.keeps (k4.trans (k5.trans k6))).nds (by simp [Fm.enc])) (by simp [Fm.enc]; omega)).mono ?_; rintro e w7 ⟨v7, rfl, hv7, k7⟩
            go_wp2_with fail
            refine (l02Pair_any 4 _ _ _ _ _ (hv0.keeps (kR.trans ((k05.trans k6).trans k7))) ((hv4.keeps (k5.trans (k6.trans k7))).nds (by simp [Fm.enc])) (by simp [Fm.enc]; omega)).mono ?_; rintro e w8 ⟨v8, rfl, hv8, k8⟩
            go_wp2_with fail
            refine (l02Pair_any 3 _ _ _ _ _ ((hv7.keeps k8).nds (by simp [Fm.enc]; omega)) (hv8.nds (by simp [Fm.enc]; omega)) (by simp [Fm.enc]; omega)).mono ?_; rintro e w9 ⟨v9, rfl, hv9, k9⟩
            have hP := hv6.keeps (k7.trans (k8.trans k9))
            have k09 := (k05.trans k6).trans (k7.trans (k8.trans k9))
            clear hv3 hv4 hv5 hv6 hv7 hv8
            obtain ⟨pp, np, cp, rfl, hnp⟩ : ∃ p n c, v6 = .slice p n c ∧ n = a.length + 4 := by obtain ⟨p, c, e, _⟩ := At.of_own hP; exact ⟨p, _, c, e, by simp [Fm.enc]⟩
            have HNP := hid hnp; clear hnp
            obtain ⟨pc, nc, cc, rfl, hnc⟩ : ∃ p n c, v9 = .slice p n c ∧ n = 2 * a.length + 5 := by obtain ⟨p, c, e, _⟩ := At.of_own hv9; exact ⟨p, _, c, e, by simp [Fm.enc]; omega⟩
            have HNC := hid hnc; clear hnc
            obtain ⟨hc2, hf2⟩ := k09.both
            have d1 : decide ((np : Int) > 40) = false := decide_eq_false (by have := HNP.out; omega)
            have d2 : decide ((nc : Int) > 40) = true := decide_eq_true (by have := HNC.out; omega)
            go_wp2_with fail
            refine bodyPost_ret (v := .tuple #[.agg #[.slice none 0 0, .slice none 0 0], .int .i64 3]) (by simp [results, Tryz.results39, go_sem, hc2]) rfl ?_
            exact ⟨_, _, rfl, OwnL.nil _ _, OwnN.nil _ _, (((kR.trans k09).setCell (Nat.le_refl _) _).setCell (Nat.le_refl _) _)⟩
          · rw [splE_ok h t4 t5 b1 b2, splP_ok h t4 t5 b1 b2, splC_ok h t4 t5 b1 b2]
            have H4 := hid (h4.trans t4)
            have H5 := hid (h5.trans t5)
            rw [h] at HS
            clear h h4 h5 t4 t5
            generalize mem (vm a) = M at *
            go_enter Tryz.func39, Tryz.ntmps39
            go_wp2_with fail
            refine HS.out.mono ?_; rintro e w' ⟨rfl, rfl⟩
            go_wp2_with fail
            refine (HV.out _ _ (hv0.keeps (kR.trans k1))).mono ?_; rintro e w2 ⟨u2, rfl, hu2, k2⟩
            have hu2i := hu2.ints (by omega)
            obtain ⟨pu, cu, rfl, _, _, _, _⟩ := hu2.ints (by omega)
            have k02 := k1.trans k2
            go_wp2_with fail
            refine (l01Has_any _ 4 _ _ hu2i).mono ?_; rintro e w' ⟨rfl, rfl⟩; rw [H4.out]
            go_wp2_with fail
            refine (l01Has_any _ 5 _ _ hu2i).mono ?_; rintro e w' ⟨rfl, rfl⟩; rw [H5.out]
            clear hu2 hu2i
            go_wp2_with fail
            refine (l02Var_any 4 _).mono ?_; rintro e w3 ⟨v3, rfl, hv3, k3⟩
            go_wp2_with fail
            refine (l02Var_any 5 _).mono ?_; rintro e w4 ⟨v4, rfl, hv4, k4⟩
            go_wp2_with fail
            refine (l02Pair_any 3 _ _ _ _ _ ((hv3.keeps k4).nds (by simp [Fm.enc])) (hv4.nds (by simp [Fm.enc])) (by simp [Fm.enc])).mono ?_; rintro e w5 ⟨v5, rfl, hv5, k5⟩
            have k05 := k02.trans (k3.trans (k4.trans k5))
            go_wp2_with fail
            refine (l02Pair_any 4 _ _ _ _ _ (hv0.keeps (kR.trans k05)) (hv5.nds (by simp [Fm.enc])) (by simp [Fm.enc]; omega)).mono ?_; rintro e w6 ⟨v6, rfl, hv6, k6⟩
            go_wp2_with fail
            refine (l02Pair_any 4 _ _ _ _ _ (hv0.keeps (kR.trans (k05.trans k6))) ((hv3.keeps (k4.trans (k5.trans k6))).nds (by simp [Fm.enc])) (by simp [Fm.enc]; omega)).mono ?_; rintro e w7 ⟨v7, rfl, hv7, k7⟩
            go_wp2_with fail
            refine (l02Pair_any 4 _ _ _ _ _ (hv0.keeps (kR.trans ((k05.trans k6).trans k7))) ((hv4.keeps (k5.trans (k6.trans k7))).nds (by simp [Fm.enc])) (by simp [Fm.enc]; omega)).mono ?_; rintro e w8 ⟨v8, rfl, hv8, k8⟩
            go_wp2_with fail
            refine (l02Pair_any 3 _ _ _ _ _ ((hv7.keeps k8).nds (by simp [Fm.enc]; omega)) (hv8.nds (by simp [Fm.enc]; omega)) (by simp [Fm.enc]; omega)).mono ?_; rintro e w9 ⟨v9, rfl, hv9, k9⟩
            have hP := hv6.keeps (k7.trans (k8.trans k9))
            have k09 := (k05.trans k6).trans (k7.trans (k8.trans k9))
            clear hv3 hv4 hv5 hv6 hv7 hv8
            obtain ⟨pp, np, cp, rfl, hnp⟩ : ∃ p n c, v6 = .slice p n c ∧ n = a.length + 4 := by obtain ⟨p, c, e, _⟩ := At.of_own hP; exact ⟨p, _, c, e, by simp [Fm.enc]⟩
            have HNP := hid hnp; clear hnp
            obtain ⟨pc, nc, cc, rfl, hnc⟩ : ∃ p n c, v9 = .slice p n c ∧ n = 2 * a.length + 5 := by obtain ⟨p, c, e, _⟩ := At.of_own hv9; exact ⟨p, _, c, e, by simp [Fm.enc]; omega⟩
            have HNC := hid hnc; clear hnc
            obtain ⟨hc2, hf2⟩ := k09.both
            have d1 : decide ((np : Int) > 40) = false := decide_eq_false (by have := HNP.out; omega)
            have d2 : decide ((nc : Int) > 40) = false := decide_eq_false (by have := HNC.out; omega)
            have hb9 : w.heap.size < w9.heap.size := by have := k09.size; simp at this; omega
            have hb5 : w.heap.size < w5.heap.size := by have := k05.size; simp at this; omega
            have hs59 : w5.heap.size ≤ w9.heap.size := (k6.trans (k7.trans (k8.trans k9))).size
            have hb8 : w.heap.size < w8.heap.size := by have := ((k05.trans k6).trans (k7.trans k8)).size; simp at this; omega
            go_wp2_with fail
            refine bodyPost_ret (v := .tuple #[.agg #[.slice (some ⟨w9.heap.size, 0, none⟩) 1 1, .slice pc nc cc], .int .i64 0]) (by simp [results, Tryz.results39, go_sem, hb9, hc2]) rfl ?_
            refine ⟨_, _, rfl, (OwnL.litOneN (by simp) ((hP.setBelow hb5 _).setBelow hb5 _) (by simpa using hs59)).mono (Nat.le_of_lt hb5), (((hv9.setBelow hb8 _).setBelow hb8 _).keeps ((Keeps.refl _).alloc _)).mono (Nat.le_of_lt hb8), (((kR.trans k09).setCell (Nat.le_refl _) _).setCell (Nat.le_refl _) _).alloc _⟩
      · rw [splE_var h (.inr t5), splP_var h (.inr t5), splC_var h (.inr t5)]
        have H4 := hid (h4.trans t4)
        have H5 := hid (h5.trans t5)
        rw [h] at HS
        clear h h4 h5 t4 t5
        generalize mem (vm a) = M at *
        go_enter Tryz.func39, Tryz.ntmps39
        go_wp2_with fail
        refine HS.out.mono ?_; rintro e w' ⟨rfl, rfl⟩
        go_wp2_with fail
        refine (HV.out _ _ (hv0.keeps (kR.trans k1))).mono ?_; rintro e w2 ⟨u2, rfl, hu2, k2⟩
        have hu2i := hu2.ints (by omega)
        obtain ⟨pu, cu, rfl, _, _, _, _⟩ := hu2.ints (by omega)
        have k02 := k1.trans k2
        go_wp2_with fail
        refine (l01Has_any _ 4 _ _ hu2i).mono ?_; rintro e w' ⟨rfl, rfl⟩; rw [H4.out]
        go_wp2_with fail
        refine (l01Has_any _ 5 _ _ hu2i).mono ?_; rintro e w' ⟨rfl, rfl⟩; rw [H5.out]
        obtain ⟨hc2, hf2⟩ := k02.both
        go_wp2_with fail
        refine bodyPost_ret (v := .tuple #[.agg #[.slice none 0 0, .slice none 0 0], .int .i64 2]) (by simp [results, Tryz.results39, go_sem, hc2]) rfl ?_
        exact ⟨_, _, rfl, OwnL.nil _ _, OwnN.nil _ _, (((kR.trans k02).setCell (Nat.le_refl _) _).setCell (Nat.le_refl _) _)⟩
    · rw [splE_var h (.inl t4), splP_var h (.inl t4), splC_var h (.inl t4)]
      have H4 := hid (h4.trans t4)
      rw [h] at HS
      clear h h4 h5 t4
      generalize mem (vm a) = M at *
      go_enter Tryz.func39, Tryz.ntmps39
      go_wp2_with fail
      refine HS.out.mono ?_; rintro e w' ⟨rfl, rfl⟩
      go_wp2_with fail
      refine (HV.out _ _ (hv0.keeps (kR.trans k1))).mono ?_; rintro e w2 ⟨u2, rfl, hu2, k2⟩
      have hu2i := hu2.ints (by omega)
      obtain ⟨pu, cu, rfl, _, _, _, _⟩ := hu2.ints (by omega)
      have k02 := k1.trans k2
      go_wp2_with fail
      refine (l01Has_any _ 4 _ _ hu2i).mono ?_; rintro e w' ⟨rfl, rfl⟩; rw [H4.out]
      obtain ⟨hc2, hf2⟩ := k02.both
      go_wp2_with fail
      refine bodyPost_ret (v := .tuple #[.agg #[.slice none 0 0, .slice none 0 0], .int .i64 2]) (by simp [results, Tryz.results39, go_sem, hc2]) rfl ?_
      exact ⟨_, _, rfl, OwnL.nil _ _, OwnN.nil _ _, (((kR.trans k02).setCell (Nat.le_refl _) _).setCell (Nat.le_refl _) _)⟩
  · rw [splE_err h, splP_err h, splC_err h]
    have h' : (plainErr a != 0) = true := by simp [h]
    generalize plainErr a = c at *
    have H := hid h; clear h
    go_enter Tryz.func39, Tryz.ntmps39
    go_wp2_with fail
    refine HS.out.mono ?_; rintro e w' ⟨rfl, rfl⟩
    obtain ⟨hc2, hf2⟩ := k1.both
    go_wp2_with fail
    refine bodyPost_ret (v := .tuple #[.agg #[.slice none 0 0, .slice none 0 0], .int .i64 c]) (by simp [results, Tryz.results39, go_sem, hc2]) rfl ?_
    first | exact ⟨_, _, rfl, OwnL.nil _ _, OwnN.nil _ _, (((kR.trans k1).setCell (Nat.le_refl _) _).setCell (Nat.le_refl _) _)⟩ | exact ⟨_, _, rfl, OwnL.nil _ _, OwnN.nil _ _, kR.trans k1⟩
theorem specSplit (a : List Nd) (v : Value) (w : World) (hv : Nds w v a) : Calls Tryz.prog 39 #[v] w fun e w' => ∃ x u, e = .returned (.tuple #[.agg #[x, u], .int .i64 (splE a)]) ∧ NdsL w' x (splP a) ∧ Nds w' u (splC a) ∧ Keeps w w' :=
  (specSplitO a v w hv).mono fun _ _ ⟨x, u, e, hx, hu, k⟩ => ⟨x, u, e, hx.ndsL (by have := spl_len a; omega) (by have := spl_len a; omega), hu.nds (by have := spl_len a; omega), k⟩
--
set_option maxRecDepth 20000 in
set_option maxHeartbeats 8000000 in
theorem implSplit (a : List Nd) (v : Value) (w : World) (hv : Nds w v a) : Calls Tryz.prog 38 #[v] w (RetRE w (splP a) (splC a) (splE a)) := by
  have hv0 := hv
  obtain ⟨p, cap, rfl, _, _, _, _⟩ := hv
  have kR := (Keeps.refl w).alloc (.cells #[.slice none 0 0, .slice none 0 0] 37)
  have k1 := (Keeps.refl (w.alloc (.cells #[.slice none 0 0, .slice none 0 0] 37))).alloc (.cells #[.slice p a.length cap] 24)
  have hRb : w.heap.size < (w.alloc (.cells #[.slice none 0 0, .slice none 0 0] 37)).heap.size := by simp
  have hns := plainCode_any [a] _ _ (NdsL.lit1 (hv0.keeps kR))
  rw [plainErrs_one, show (w.alloc (.cells #[.slice none 0 0, .slice none 0 0] 37)).heap.size = w.heap.size + 1 by simp] at hns
  have HN := hid hns; clear hns
  by_cases h : plainErr a = 0
  · obtain ⟨hok, hla⟩ := plainErr_ok h
    have hm64 := vm_lt hok a.length (Nat.le_refl _)
    rw [List.take_length] at hm64
    have HV := hid (fun v w hv => variableMask_any a v w hv hok)
    have h4 : (vm a).testBit 4 = (vm a).testBit 4 := rfl
    have h5 : (vm a).testBit 5 = (vm a).testBit 5 := rfl
    clear hok
    cases t4 : (vm a).testBit 4
    · cases t5 : (vm a).testBit 5
      · by_cases b1 : 40 < a.length + 4
        · rw [splE_big h t4 t5 (.inl b1), splP_big h t4 t5 (.inl b1), splC_big h t4 t5 (.inl b1)]
          have H4 := hid (h4.trans t4)
          have H5 := hid (h5.trans t5)
          rw [h] at HN
          clear h h4 h5 t4 t5
          go_enter Tryz.func38, Tryz.ntmps38
          go_wp2_with fail
          refine HN.out.mono ?_; rintro e w2 ⟨rfl, k2⟩
          have k02 := k1.trans k2
          go_wp2_with fail
          refine (HV.out _ _ (hv0.keeps (kR.trans k02))).mono ?_; rintro e w3 ⟨rfl, k3⟩
          have k03 := k02.trans k3
          go_wp2_with fail
          refine (has_any _ 4 _ hm64 (by omega)).mono ?_; rintro e w' ⟨rfl, rfl⟩; rw [H4.out]
          go_wp2_with fail
          refine (HV.out _ _ (hv0.keeps (kR.trans k03))).mono ?_; rintro e w4 ⟨rfl, k4⟩
          have k04 := k03.trans k4
          go_wp2_with fail
          refine (has_any _ 5 _ hm64 (by omega)).mono ?_; rintro e w' ⟨rfl, rfl⟩; rw [H5.out]
          go_wp2_with fail
          refine (variable_any 4 _).mono ?_; rintro e w5 ⟨v5, rfl, hv5, k5⟩
          go_wp2_with fail
          refine (variable_any 5 _).mono ?_; rintro e w6 ⟨v6, rfl, hv6, k6⟩
          go_wp2_with fail
          refine (join_any 3 _ _ _ _ _ ((hv5.keeps k6).nds (by simp [Fm.enc])) (hv6.nds (by simp [Fm.enc])) (by simp [Fm.enc])).mono ?_; rintro e w7 ⟨v7, rfl, hv7, k7⟩
          have k07 := k04.trans (k5.trans (k6.trans k7))
          obtain ⟨p5, n5, q5, rfl⟩ : ∃ p n c, v5 = .slice p n c := by obtain ⟨p, c, e, _⟩ := At.of_own hv5; exact ⟨p, _, c, e⟩
          obtain ⟨p6, n6, q6, rfl⟩ : ∃ p n c, v6 = .slice p n c := by obtain ⟨p, c, e, _⟩ := At.of_own hv6; exact ⟨p, _, c, e⟩
          obtain ⟨p7, n7, q7, rfl⟩ : ∃ p n c, v7 = .slice p n c := by obtain ⟨p, c, e, _⟩ := At.of_own hv7; exact ⟨p, _, c, e⟩
          have hla1 := NdsL.lit2 (w := w7) (hv0.keeps (kR.trans k07)) (hv7.nds (by simp [Fm.enc]))
          go_wp2_with fail
          refine (arrow_two _ _ _ _ hla1 (by simp [Fm.enc]; omega)).mono ?_; rintro e w8 ⟨v8, rfl, hv8, k8⟩
          have k08 := k07.trans (((Keeps.refl w7).alloc _).trans k8)
          obtain ⟨p8, n8, q8, rfl⟩ : ∃ p n c, v8 = .slice p n c := by obtain ⟨p, c, e, _⟩ := At.of_own hv8; exact ⟨p, _, c, e⟩
          have kH := (Keeps.refl w8).alloc (.cells #[.slice p8 n8 q8] 24)
          have k57 := k6.trans (k7.trans (((Keeps.refl w7).alloc (.cells #[.slice p a.length cap, .slice p7 n7 q7] 24)).trans (k8.trans kH)))
          have hla2 := NdsL.lit2N (w := w8.alloc (.cells #[.slice p8 n8 q8] 24)) (N := w8.heap.size + 1) (by simp) (hv0.keeps (kR.trans (k08.trans kH))) ((hv5.keeps k57).nds (by simp [Fm.enc]))
          have kL2 := (Keeps.refl (w8.alloc (.cells #[.slice p8 n8 q8] 24))).alloc (.cells #[.slice p a.length cap, .slice p5 n5 q5] 24)
          go_wp2_with fail
          refine (arrow_two _ _ _ _ hla2 (by simp [Fm.enc]; omega)).mono ?_; rintro e w9 ⟨v9, rfl, hv9, k9⟩
          have kH9 := kL2.trans k9
          have k67 := k7.trans (((Keeps.refl w7).alloc (.cells #[.slice p a.length cap, .slice p7 n7 q7] 24)).trans (k8.trans (kH.trans kH9)))
          have hla3 := NdsL.lit2 (w := w9) (hv0.keeps (kR.trans (k08.trans (kH.trans kH9)))) ((hv6.keeps k67).nds (by simp [Fm.enc]))
          have kL3 := (Keeps.refl w9).alloc (.cells #[.slice p a.length cap, .slice p6 n6 q6] 24)
          go_wp2_with fail
          refine (arrow_two _ _ _ _ hla3 (by simp [Fm.enc]; omega)).mono ?_; rintro e w10 ⟨v10, rfl, hv10, k10⟩
          have kH10 := kH9.trans (kL3.trans k10)
          go_wp2_with fail
          refine (join_any 3 _ _ _ _ _ ((hv9.keeps (kL3.trans k10)).nds (by simp [Fm.enc]; omega)) (hv10.nds (by simp [Fm.enc]; omega)) (by simp [Fm.enc]; omega)).mono ?_; rintro e w11 ⟨v11, rfl, hv11, k11⟩
          have kH11 := kH10.trans k11
          have hs8 := k08.size
          have hs10 := kH10.size
          have hR0 := OwnR.mk1 (hv8.mono (B' := (w.alloc (.cells #[.slice none 0 0, .slice none 0 0] 37)).heap.size) (by have := (k07.trans ((Keeps.refl w7).alloc (.cells #[.slice p a.length cap, .slice p7 n7 q7] 24))).size; exact this)) hs8 kH11 (hv11.mono (by simpa using hs10))
          have k011 := k08.trans (kH.trans kH11)
          obtain ⟨p11, n11, q11, rfl⟩ : ∃ p n c, v11 = .slice p n c := by obtain ⟨p, c, e, _⟩ := At.of_own hv11; exact ⟨p, _, c, e⟩
          clear hla1 hla2 hla3 hv5 hv6 hv7 hv8 hv9 hv10 hv11 k57 k67
          have kB := (Keeps.refl w11).alloc (.cells #[.slice (some ⟨w8.heap.size, 0, none⟩) 1 1, .slice p11 n11 q11] 37)
          have hRB := hR0.keeps kB
          have hF := formulas_any _ _ _ _ _ (hRB.ndsL (by simp) (by simp [tot, Fm.enc]; omega)) (hRB.nds (by simp [Fm.enc]; omega)) (by simp)
          have b0 : (w11.alloc (.cells #[.slice (some ⟨w8.heap.size, 0, none⟩) 1 1, .slice p11 n11 q11] 37)).cell? ⟨w11.heap.size, 0, none⟩ = some (.slice (some ⟨w8.heap.size, 0, none⟩) 1 1) := by simp
          have b1' : (w11.alloc (.cells #[.slice (some ⟨w8.heap.size, 0, none⟩) 1 1, .slice p11 n11 q11] 37)).cell? ⟨w11.heap.size, 1, none⟩ = some (.slice p11 n11 q11) := by simp
          have HF := hid hF; clear hF
          go_wp2_with fail
          refine HF.out.mono ?_; rintro e w12 ⟨v12, rfl, hv12, k12⟩
          clear HF
          obtain ⟨p12, n12, q12, rfl⟩ := agg_shape hv12
          have HB := hid (limitedAll_big _ _ _ hv12 (by simp [bigL, Fm.enc]; omega))
          go_wp2_with fail
          refine HB.out.mono ?_; rintro e w13 ⟨rfl, k13⟩
          have k013 := k011.trans (kB.trans (k12.trans k13))
          obtain ⟨hc2, hf2⟩ := k013.both
          go_wp2_with fail
          refine bodyPost_ret (v := .tuple #[.agg #[.slice none 0 0, .slice none 0 0], .int .i64 3]) (by simp [results, Tryz.results38, go_sem, hc2]) rfl ?_
          exact ⟨_, _, rfl, OwnR.nil _ _, (((kR.trans k013).setCell (Nat.le_refl _) _).setCell (Nat.le_refl _) _)⟩
        · by_cases b2 : 40 < 2 * a.length + 5
          · rw [splE_big h t4 t5 (.inr b2), splP_big h t4 t5 (.inr b2), splC_big h t4 t5 (.inr b2)]
            have H4 := hid (h4.trans t4)
            have H5 := hid (h5.trans t5)
            rw [h] at HN
            clear h h4 h5 t4 t5
            go_enter Tryz.func38, Tryz.ntmps38
            go_wp2_with fail
            refine HN.out.mono ?_; rintro e w2 ⟨rfl, k2⟩
            have k02 := k1.trans k2
            go_wp2_with fail
            refine (HV.out _ _ (hv0.keeps (kR.trans k02))).mono ?_; rintro e w3 ⟨rfl, k3⟩
            have k03 := k02.trans k3
            go_wp2_with fail
            refine (has_any _ 4 _ hm64 (by omega)).mono ?_; rintro e w' ⟨rfl, rfl⟩; rw [H4.out]
            go_wp2_with fail
            refine (HV.out _ _ (hv0.keeps (kR.trans k03))).mono ?_; rintro e w4 ⟨rfl, k4⟩
            have k04 := k03.trans k4
            go_wp2_with fail
            refine (has_any _ 5 _ hm64 (by omega)).mono ?_; rintro e w' ⟨rfl, rfl⟩; rw [H5.out]
            go_wp2_with fail
            refine (variable_any 4 _).mono ?_; rintro e w5 ⟨v5, rfl, hv5, k5⟩
            go_wp2_with fail
            refine (variable_any 5 _).mono ?_; rintro e w6 ⟨v6, rfl, hv6, k6⟩
            go_wp2_with fail
            refine (join_any 3 _ _ _ _ _ ((hv5.keeps k6).nds (by simp [Fm.enc])) (hv6.nds (by simp [Fm.enc])) (by simp [Fm.enc])).mono ?_; rintro e w7 ⟨v7, rfl, hv7, k7⟩
            have k07 := k04.trans (k5.trans (k6.trans k7))
            obtain ⟨p5, n5, q5, rfl⟩ : ∃ p n c, v5 = .slice p n c := by obtain ⟨p, c, e, _⟩ := At.of_own hv5; exact ⟨p, _, c, e⟩
            obtain ⟨p6, n6, q6, rfl⟩ : ∃ p n c, v6 = .slice p n c := by obtain ⟨p, c, e, _⟩ := At.of_own hv6; exact ⟨p, _, c, e⟩
            obtain ⟨p7, n7, q7, rfl⟩ : ∃ p n c, v7 = .slice p n c := by obtain ⟨p, c, e, _⟩ := At.of_own hv7; exact ⟨p, _, c, e⟩
            have hla1 := NdsL.lit2 (w := w7) (hv0.keeps (kR.trans k07)) (hv7.nds (by simp [Fm.enc]))
            go_wp2_with fail
            refine (arrow_two _ _ _ _ hla1 (by simp [Fm.enc]; omega)).mono ?_; rintro e w8 ⟨v8, rfl, hv8, k8⟩
            have k08 := k07.trans (((Keeps.refl w7).alloc _).trans k8)
            obtain ⟨p8, n8, q8, rfl⟩ : ∃ p n c, v8 = .slice p n c := by obtain ⟨p, c, e, _⟩ := At.of_own hv8; exact ⟨p, _, c, e⟩
            have kH := (Keeps.refl w8).alloc (.cells #[.slice p8 n8 q8] 24)
            have k57 := k6.trans (k7.trans (((Keeps.refl w7).alloc (.cells #[.slice p a.length cap, .slice p7 n7 q7] 24)).trans (k8.trans kH)))
            have hla2 := NdsL.lit2N (w := w8.alloc (.cells #[.slice p8 n8 q8] 24)) (N := w8.heap.size + 1) (by simp) (hv0.keeps (kR.trans (k08.trans kH))) ((hv5.keeps k57).nds (by simp [Fm.enc]))
            have kL2 := (Keeps.refl (w8.alloc (.cells #[.slice p8 n8 q8] 24))).alloc (.cells #[.slice p a.length cap, .slice p5 n5 q5] 24)
            go_wp2_with fail
            refine (arrow_two _ _ _ _ hla2 (by simp [Fm.enc]; omega)).mono ?_; rintro e w9 ⟨v9, rfl, hv9, k9⟩
            have kH9 := kL2.trans k9
            have k67 := k7.trans (((Keeps.refl w7).alloc (.cells #[.slice p a.length cap, .slice p7 n7 q7] 24)).trans (k8.trans (kH.trans kH9)))
            have hla3 := NdsL.lit2 (w := w9) (hv0.keeps (kR.trans (k08.trans (kH.trans kH9)))) ((hv6.keeps k67).nds (by simp [Fm.enc]))
            have kL3 := (Keeps.refl w9).alloc (.cells #[.slice p a.length cap, .slice p6 n6 q6] 24)
            go_wp2_with fail
            refine (arrow_two _ _ _ _ hla3 (by simp [Fm.enc]; omega)).mono ?_; rintro e w10 ⟨v10, rfl, hv10, k10⟩
            have kH10 := kH9.trans (kL3.trans k10)
            go_wp2_with fail
            refine (join_any 3 _ _ _ _ _ ((hv9.keeps (kL3.trans k10)).nds (by simp [Fm.enc]; omega)) (hv10.nds (by simp [Fm.enc]; omega)) (by simp [Fm.enc]; omega)).mono ?_; rintro e w11 ⟨v11, rfl, hv11, k11⟩
            have kH11 := kH10.trans k11
            have hs8 := k08.size
            have hs10 := kH10.size
            have hR0 := OwnR.mk1 (hv8.mono (B' := (w.alloc (.cells #[.slice none 0 0, .slice none 0 0] 37)).heap.size) (by have := (k07.trans ((Keeps.refl w7).alloc (.cells #[.slice p a.length cap, .slice p7 n7 q7] 24))).size; exact this)) hs8 kH11 (hv11.mono (by simpa using hs10))
            have k011 := k08.trans (kH.trans kH11)
            obtain ⟨p11, n11, q11, rfl⟩ : ∃ p n c, v11 = .slice p n c := by obtain ⟨p, c, e, _⟩ := At.of_own hv11; exact ⟨p, _, c, e⟩
            clear hla1 hla2 hla3 hv5 hv6 hv7 hv8 hv9 hv10 hv11 k57 k67
            have kB := (Keeps.refl w11).alloc (.cells #[.slice (some ⟨w8.heap.size, 0, none⟩) 1 1, .slice p11 n11 q11] 37)
            have hRB := hR0.keeps kB
            have hF := formulas_any _ _ _ _ _ (hRB.ndsL (by simp) (by simp [tot, Fm.enc]; omega)) (hRB.nds (by simp [Fm.enc]; omega)) (by simp)
            have b0 : (w11.alloc (.cells #[.slice (some ⟨w8.heap.size, 0, none⟩) 1 1, .slice p11 n11 q11] 37)).cell? ⟨w11.heap.size, 0, none⟩ = some (.slice (some ⟨w8.heap.size, 0, none⟩) 1 1) := by simp
            have b1' : (w11.alloc (.cells #[.slice (some ⟨w8.heap.size, 0, none⟩) 1 1, .slice p11 n11 q11] 37)).cell? ⟨w11.heap.size, 1, none⟩ = some (.slice p11 n11 q11) := by simp
            have HF := hid hF; clear hF
            go_wp2_with fail
            refine HF.out.mono ?_; rintro e w12 ⟨v12, rfl, hv12, k12⟩
            clear HF
            obtain ⟨p12, n12, q12, rfl⟩ := agg_shape hv12
            have HB := hid (limitedAll_big _ _ _ hv12 (by simp [bigL, Fm.enc]; omega))
            go_wp2_with fail
            refine HB.out.mono ?_; rintro e w13 ⟨rfl, k13⟩
            have k013 := k011.trans (kB.trans (k12.trans k13))
            obtain ⟨hc2, hf2⟩ := k013.both
            go_wp2_with fail
            refine bodyPost_ret (v := .tuple #[.agg #[.slice none 0 0, .slice none 0 0], .int .i64 3]) (by simp [results, Tryz.results38, go_sem, hc2]) rfl ?_
            exact ⟨_, _, rfl, OwnR.nil _ _, (((kR.trans k013).setCell (Nat.le_refl _) _).setCell (Nat.le_refl _) _)⟩
          · rw [splE_ok h t4 t5 b1 b2, splP_ok h t4 t5 b1 b2, splC_ok h t4 t5 b1 b2]
            have H4 := hid (h4.trans t4)
            have H5 := hid (h5.trans t5)
            rw [h] at HN
            clear h h4 h5 t4 t5
            go_enter Tryz.func38, Tryz.ntmps38
            go_wp2_with fail
            refine HN.out.mono ?_; rintro e w2 ⟨rfl, k2⟩
            have k02 := k1.trans k2
            go_wp2_with fail
            refine (HV.out _ _ (hv0.keeps (kR.trans k02))).mono ?_; rintro e w3 ⟨rfl, k3⟩
            have k03 := k02.trans k3
            go_wp2_with fail
            refine (has_any _ 4 _ hm64 (by omega)).mono ?_; rintro e w' ⟨rfl, rfl⟩; rw [H4.out]
            go_wp2_with fail
            refine (HV.out _ _ (hv0.keeps (kR.trans k03))).mono ?_; rintro e w4 ⟨rfl, k4⟩
            have k04 := k03.trans k4
            go_wp2_with fail
            refine (has_any _ 5 _ hm64 (by omega)).mono ?_; rintro e w' ⟨rfl, rfl⟩; rw [H5.out]
            go_wp2_with fail
            refine (variable_any 4 _).mono ?_; rintro e w5 ⟨v5, rfl, hv5, k5⟩
            go_wp2_with fail
            refine (variable_any 5 _).mono ?_; rintro e w6 ⟨v6, rfl, hv6, k6⟩
            go_wp2_with fail
            refine (join_any 3 _ _ _ _ _ ((hv5.keeps k6).nds (by simp [Fm.enc])) (hv6.nds (by simp [Fm.enc])) (by simp [Fm.enc])).mono ?_; rintro e w7 ⟨v7, rfl, hv7, k7⟩
            have k07 := k04.trans (k5.trans (k6.trans k7))
            obtain ⟨p5, n5, q5, rfl⟩ : ∃ p n c, v5 = .slice p n c := by obtain ⟨p, c, e, _⟩ := At.of_own hv5; exact ⟨p, _, c, e⟩
            obtain ⟨p6, n6, q6, rfl⟩ : ∃ p n c, v6 = .slice p n c := by obtain ⟨p, c, e, _⟩ := At.of_own hv6; exact ⟨p, _, c, e⟩
            obtain ⟨p7, n7, q7, rfl⟩ : ∃ p n c, v7 = .slice p n c := by obtain ⟨p, c, e, _⟩ := At.of_own hv7; exact ⟨p, _, c, e⟩
            have hla1 := NdsL.lit2 (w := w7) (hv0.keeps (kR.trans k07)) (hv7.nds (by simp [Fm.enc]))
            go_wp2_with fail
            refine (arrow_two _ _ _ _ hla1 (by simp [Fm.enc]; omega)).mono ?_; rintro e w8 ⟨v8, rfl, hv8, k8⟩
            have k08 := k07.trans (((Keeps.refl w7).alloc _).trans k8)
            obtain ⟨p8, n8, q8, rfl⟩ : ∃ p n c, v8 = .slice p n c := by obtain ⟨p, c, e, _⟩ := At.of_own hv8; exact ⟨p, _, c, e⟩
            have kH := (Keeps.refl w8).alloc (.cells #[.slice p8 n8 q8] 24)
            have k57 := k6.trans (k7.trans (((Keeps.refl w7).alloc (.cells #[.slice p a.length cap, .slice p7 n7 q7] 24)).trans (k8.trans kH)))
            have hla2 := NdsL.lit2N (w := w8.alloc (.cells #[.slice p8 n8 q8] 24)) (N := w8.heap.size + 1) (by simp) (hv0.keeps (kR.trans (k08.trans kH))) ((hv5.keeps k57).nds (by simp [Fm.enc]))
            have kL2 := (Keeps.refl (w8.alloc (.cells #[.slice p8 n8 q8] 24))).alloc (.cells #[.slice p a.length cap, .slice p5 n5 q5] 24)
            go_wp2_with fail
            refine (arrow_two _ _ _ _ hla2 (by simp [Fm.enc]; omega)).mono ?_; rintro e w9 ⟨v9, rfl, hv9, k9⟩
            have kH9 := kL2.trans k9
            have k67 := k7.trans (((Keeps.refl w7).alloc (.cells #[.slice p a.length cap, .slice p7 n7 q7] 24)).trans (k8.trans (kH.trans kH9)))
            have hla3 := NdsL.lit2 (w := w9) (hv0.keeps (kR.trans (k08.trans (kH.trans kH9)))) ((hv6.keeps k67).nds (by simp [Fm.enc]))
            have kL3 := (Keeps.refl w9).alloc (.cells #[.slice p a.length cap, .slice p6 n6 q6] 24)
            go_wp2_with fail
            refine (arrow_two _ _ _ _ hla3 (by simp [Fm.enc]; omega)).mono ?_; rintro e w10 ⟨v10, rfl, hv10, k10⟩
            have kH10 := kH9.trans (kL3.trans k10)
            go_wp2_with fail
            refine (join_any 3 _ _ _ _ _ ((hv9.keeps (kL3.trans k10)).nds (by simp [Fm.enc]; omega)) (hv10.nds (by simp [Fm.enc]; omega)) (by simp [Fm.enc]; omega)).mono ?_; rintro e w11 ⟨v11, rfl, hv11, k11⟩
            have kH11 := kH10.trans k11
            have hs8 := k08.size
            have hs10 := kH10.size
            have hR0 := OwnR.mk1 (hv8.mono (B' := (w.alloc (.cells #[.slice none 0 0, .slice none 0 0] 37)).heap.size) (by have := (k07.trans ((Keeps.refl w7).alloc (.cells #[.slice p a.length cap, .slice p7 n7 q7] 24))).size; exact this)) hs8 kH11 (hv11.mono (by simpa using hs10))
            have k011 := k08.trans (kH.trans kH11)
            obtain ⟨p11, n11, q11, rfl⟩ : ∃ p n c, v11 = .slice p n c := by obtain ⟨p, c, e, _⟩ := At.of_own hv11; exact ⟨p, _, c, e⟩
            clear hla1 hla2 hla3 hv5 hv6 hv7 hv8 hv9 hv10 hv11 k57 k67
            have kB := (Keeps.refl w11).alloc (.cells #[.slice (some ⟨w8.heap.size, 0, none⟩) 1 1, .slice p11 n11 q11] 37)
            have hRB := hR0.keeps kB
            have hF := formulas_any _ _ _ _ _ (hRB.ndsL (by simp) (by simp [tot, Fm.enc]; omega)) (hRB.nds (by simp [Fm.enc]; omega)) (by simp)
            have b0 : (w11.alloc (.cells #[.slice (some ⟨w8.heap.size, 0, none⟩) 1 1, .slice p11 n11 q11] 37)).cell? ⟨w11.heap.size, 0, none⟩ = some (.slice (some ⟨w8.heap.size, 0, none⟩) 1 1) := by simp
            have b1' : (w11.alloc (.cells #[.slice (some ⟨w8.heap.size, 0, none⟩) 1 1, .slice p11 n11 q11] 37)).cell? ⟨w11.heap.size, 1, none⟩ = some (.slice p11 n11 q11) := by simp
            have HF := hid hF; clear hF
            go_wp2_with fail
            refine HF.out.mono ?_; rintro e w12 ⟨v12, rfl, hv12, k12⟩
            clear HF
            obtain ⟨p12, n12, q12, rfl⟩ := agg_shape hv12
            have HB := hid (limitedAll_small _ _ _ hv12 (by simp [bigL, Fm.enc]; omega))
            go_wp2_with fail
            refine HB.out.mono ?_; rintro e w13 ⟨rfl, k13⟩
            have k013 := k011.trans (kB.trans (k12.trans k13))
            obtain ⟨hc2, hf2⟩ := k013.both
            have b3 := (k12.trans k13).cell b0
            have b3' := (k12.trans k13).cell b1'
            have hR13 := hRB.keeps (k12.trans k13)
            clear HB hv12 hRB hR0
            go_wp2_with fail
            refine bodyPost_ret (v := .tuple #[.agg #[.slice (some ⟨w8.heap.size, 0, none⟩) 1 1, .slice p11 n11 q11], .int .i64 0]) (by simp [results, Tryz.results38, go_sem, hc2]) rfl ?_
            exact ⟨_, _, rfl, ((hR13.setBelow hRb _).setBelow hRb _).mono (by simp), (((kR.trans k013).setCell (Nat.le_refl _) _).setCell (Nat.le_refl _) _)⟩
      · rw [splE_var h (.inr t5), splP_var h (.inr t5), splC_var h (.inr t5)]
        have H4 := hid (h4.trans t4)
        have H5 := hid (h5.trans t5)
        rw [h] at HN
        clear h h4 h5 t4 t5
        go_enter Tryz.func38, Tryz.ntmps38
        go_wp2_with fail
        refine HN.out.mono ?_; rintro e w2 ⟨rfl, k2⟩
        have k02 := k1.trans k2
        go_wp2_with fail
        refine (HV.out _ _ (hv0.keeps (kR.trans k02))).mono ?_; rintro e w3 ⟨rfl, k3⟩
        have k03 := k02.trans k3
        go_wp2_with fail
        refine (has_any _ 4 _ hm64 (by omega)).mono ?_; rintro e w' ⟨rfl, rfl⟩; rw [H4.out]
        go_wp2_with fail
        refine (HV.out _ _ (hv0.keeps (kR.trans k03))).mono ?_; rintro e w4 ⟨rfl, k4⟩
        have k04 := k03.trans k4
        go_wp2_with fail
        refine (has_any _ 5 _ hm64 (by omega)).mono ?_; rintro e w' ⟨rfl, rfl⟩; rw [H5.out]
        obtain ⟨hc2, hf2⟩ := k04.both
        go_wp2_with fail
        refine bodyPost_ret (v := .tuple #[.agg #[.slice none 0 0, .slice none 0 0], .int .i64 2]) (by simp [results, Tryz.results38, go_sem, hc2]) rfl ?_
        exact ⟨_, _, rfl, OwnR.nil _ _, (((kR.trans k04).setCell (Nat.le_refl _) _).setCell (Nat.le_refl _) _)⟩
    · rw [splE_var h (.inl t4), splP_var h (.inl t4), splC_var h (.inl t4)]
      have H4 := hid (h4.trans t4)
      rw [h] at HN
      clear h h4 h5 t4
      go_enter Tryz.func38, Tryz.ntmps38
      go_wp2_with fail
      refine HN.out.mono ?_; rintro e w2 ⟨rfl, k2⟩
      have k02 := k1.trans k2
      go_wp2_with fail
      refine (HV.out _ _ (hv0.keeps (kR.trans k02))).mono ?_; rintro e w3 ⟨rfl, k3⟩
      have k03 := k02.trans k3
      go_wp2_with fail
      refine (has_any _ 4 _ hm64 (by omega)).mono ?_; rintro e w' ⟨rfl, rfl⟩; rw [H4.out]
      obtain ⟨hc2, hf2⟩ := k03.both
      go_wp2_with fail
      refine bodyPost_ret (v := .tuple #[.agg #[.slice none 0 0, .slice none 0 0], .int .i64 2]) (by simp [results, Tryz.results38, go_sem, hc2]) rfl ?_
      exact ⟨_, _, rfl, OwnR.nil _ _, (((kR.trans k03).setCell (Nat.le_refl _) _).setCell (Nat.le_refl _) _)⟩
  · rw [splE_err h, splP_err h, splC_err h]
    have h' : (plainErr a != 0) = true := by simp [h]
    generalize plainErr a = c at *
    have H := hid h; clear h
    go_enter Tryz.func38, Tryz.ntmps38
    go_wp2_with fail
    refine HN.out.mono ?_; rintro e w2 ⟨rfl, k2⟩
    have k02 := k1.trans k2
    obtain ⟨hc2, hf2⟩ := k02.both
    go_wp2_with fail
    refine bodyPost_ret (v := .tuple #[.agg #[.slice none 0 0, .slice none 0 0], .int .i64 c]) (by simp [results, Tryz.results38, go_sem, hc2]) rfl ?_
    exact ⟨_, _, rfl, OwnR.nil _ _, (((kR.trans k02).setCell (Nat.le_refl _) _).setCell (Nat.le_refl _) _)⟩
end Go.Proofs.YtpbbfoliabgkpaaGreat
