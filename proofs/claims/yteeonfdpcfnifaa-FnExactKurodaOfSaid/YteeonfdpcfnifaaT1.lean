/- Walks: IsHarrop, IsNegative on both sides, and their laws. -/
import Derived.Test.YteeonfdpcfnifaaW6
import Derived.Test.YteeonfdpcfnifaaL1
namespace Go.Proofs.Yteeonfdpcfnifaa
open Go.RowKit

theorem plainL_enc (t : Fm) : plainL t.enc = t.plain := by
  unfold plainL
  induction t with
  | var v => simp [Fm.enc, Fm.plain]
  | fls => simp [Fm.enc, Fm.plain]
  | and a b iha ihb => simp only [Fm.enc, Fm.plain, List.all_cons, List.all_append, iha, ihb]; simp
  | or a b iha ihb => simp only [Fm.enc, Fm.plain, List.all_cons, List.all_append, iha, ihb]; simp
  | imp a b iha ihb => simp only [Fm.enc, Fm.plain, List.all_cons, List.all_append, iha, ihb]; simp
  | box a iha => simp [Fm.enc, Fm.plain]
  | dia a iha => simp [Fm.enc, Fm.plain]
theorem plainErrs_one (a : List Nd) : plainErrs [a] = plainErr a := by
  unfold plainErrs plainErr allFm allPlainL
  cases h1 : isFm a <;> cases h2 : plainL a <;> simp [h1, h2]
theorem plain_tree {a : List Nd} (h : plainErr a = 0) : ∃ t : Fm, t.wf ∧ a = t.enc ∧ t.plain = true ∧ a.length ≤ 40 := by
  unfold plainErr at h
  by_cases hf : isFm a = true
  · by_cases hp : plainL a = true
    · have hf' := hf
      simp only [isFm, Bool.and_eq_true, decide_eq_true_eq] at hf'
      obtain ⟨t, hw, rfl⟩ := isTree_enc hf'.2
      exact ⟨t, hw, rfl, by rw [← plainL_enc]; exact hp, hf'.1⟩
    · rw [if_pos hf, if_neg hp] at h; simp at h
  · rw [if_neg hf] at h; simp at h
theorem plainErr_ne {a : List Nd} (h : plainErr a ≠ 0) : plainErr a = 1 ∨ plainErr a = 5 := by
  unfold plainErr at *
  split
  · split
    · rename_i h1 h2; simp [h1, h2] at h
    · right; rfl
  · left; rfl

--
def BothIsHarrop (a : List Nd) (b : Bool) (c : Int) : Prop :=
  (∀ v w, Nds w v a → Calls Try.prog 19 #[v] w fun e w' => e = .returned (.tuple #[.bool b, .int .i64 c]) ∧ Keeps w w') ∧
  (∀ v w, Nds w v a → Calls Try.prog 21 #[v] w fun e w' => e = .returned (.tuple #[.bool b, .int .i64 c]) ∧ Keeps w w')
theorem bothIsHarrop (a : List Nd) : ∃ b c, BothIsHarrop a b c := by
  have hne := fun (v : Value) (w : World) (hv : Nds w v a) => plainCode_any [a] _ _ (NdsL.lit1 hv)
  rw [plainErrs_one] at hne
  by_cases h : plainErr a = 0
  · obtain ⟨t, hw, rfl, hp, hl⟩ := plain_tree h
    rw [h] at hne
    have H := hid h; clear h
    have HN := hid hne; clear hne
    refine ⟨t.harrop, 0, fun v w hv => ?_, fun v w hv => ?_⟩
    · go_enter Try.func19, Try.ntmps19
      go_wp2_with (first | (go_at_call 43; refine (l29Code_any _ _ _ hv).mono ?_; rintro e w' ⟨rfl, rfl⟩; rw [H.out]) | (go_at_call 44; refine (l29Harrop_any t  _ _ hv).mono ?_; rintro e w' ⟨rfl, rfl⟩))
      go_ret2
      exact ⟨rfl, Keeps.refl _⟩
    · obtain ⟨p, n, cap, rfl⟩ := hv.shape
      have k1 := (Keeps.refl w).alloc (.cells #[.slice p n cap] 34)
      go_enter Try.func21, Try.ntmps21
      go_wp2_with (first | (go_at_call 46; refine (HN.out _ _ hv).mono ?_; rintro e w2 ⟨rfl, k2⟩) | (go_at_call 47; refine (isHarrop_any t  _ _ (hv.keeps (k1.trans k2))).mono ?_; rintro e w' ⟨rfl, rfl⟩))
      go_ret2
      exact ⟨rfl, k1.trans k2⟩
  · have h' : (plainErr a != 0) = true := by simp [h]
    have H := hid h; clear h
    have HN := hid hne; clear hne
    refine ⟨false, plainErr a, fun v w hv => ?_, fun v w hv => ?_⟩
    · go_enter Try.func19, Try.ntmps19
      go_wp2_with (go_at_call 43; refine (l29Code_any _ _ _ hv).mono ?_; rintro e w' ⟨rfl, rfl⟩)
      go_ret2
      exact ⟨rfl, Keeps.refl _⟩
    · obtain ⟨p, n, cap, rfl⟩ := hv.shape
      have k1 := (Keeps.refl w).alloc (.cells #[.slice p n cap] 34)
      go_enter Try.func21, Try.ntmps21
      go_wp2_with (go_at_call 46; refine (HN.out _ _ hv).mono ?_; rintro e w2 ⟨rfl, k2⟩)
      go_ret2
      exact ⟨rfl, k1.trans k2⟩
set_option maxHeartbeats 400000 in
theorem lawIsHarrop (a : List Nd) (v : Value) (w : World) (hv : Nds w v a) (hl : a.length ≤ 1048576) :
    Calls Try.prog 6 #[v] w fun e w' => e = .returned (.bool true) ∧ Keeps w w' := by
  obtain ⟨b, c, hs, hi⟩ := bothIsHarrop a
  have HS := hid hs; clear hs
  have HI := hid hi; clear hi
  obtain ⟨p, n, cap, rfl⟩ := hv.shape
  have hn : n = a.length := by obtain ⟨_, _, e, _⟩ := hv; cases e; rfl
  have HN := hid hn
  have hnl : n ≤ 1048576 := by omega
  clear hn
  have hz := hid (szNodeS_any p n cap 1048576 w (by unfold maxLen; omega) (by omega) (by omega))
  have hsz : (1048576 : Int) - n ≥ 0 := by omega
  have hsz2 : ¬ ((1048576 : Int) < n) := by omega
  go_enter Try.func6, Try.ntmps6
  go_wp2_with (first
    | (go_at_call 18; refine hz.out.mono ?_; rintro e w' ⟨rfl, rfl⟩; rw [if_neg hsz2])
    | (go_at_call 20; first
      | ((with_reducible refine (toNodeS_any a _ w hv hl).mono ?_); rintro e w1 ⟨v1, rfl, hv1, k1⟩)
      | ((with_reducible refine (toNodeS_any a _ w2 (hv.keeps (k1.trans k2)) hl).mono ?_); rintro e w3 ⟨v3, rfl, hv3, k3⟩)
      | ((with_reducible refine (toNodeS_any a _ w4 (hv.keeps ((k1.trans k2).trans (k3.trans k4))) hl).mono ?_); rintro e w5 ⟨v5, rfl, hv5, k5⟩))
    | (go_at_call 19; refine (HS.out _ _ (hv1.nds (by omega))).mono ?_; rintro e w2 ⟨rfl, k2⟩)
    | (go_at_call 21; refine (HI.out _ _ (hv3.nds (by omega))).mono ?_; rintro e w4 ⟨rfl, k4⟩)
    | (go_at_call 22; refine (eqNodeS_any a a _ _ _ ((hv3.nds (by omega)).keeps (k4.trans k5)) (hv5.nds (by omega))).mono ?_; rintro e w6 ⟨rfl, k6⟩; rw [decide_eq_true rfl]))
  go_ret
  exact ⟨rfl, (((k1.trans k2).trans (k3.trans k4)).trans k5).trans k6⟩
theorem lawIsHarropBig (p : Option Addr) (n cap : Nat) (w : World) (hn : 1048576 < n) (hm : n ≤ maxLen) :
    Calls Try.prog 6 #[.slice p n cap] w fun e w' => e = .returned (.bool true) ∧ Keeps w w' := by
  have hz := hid (szNodeS_any p n cap 1048576 w hm (by omega) (by omega))
  have hsz2 : ((1048576 : Int) < n) := by omega
  go_enter Try.func6, Try.ntmps6
  go_wp2_with (go_at_call 18; refine hz.out.mono ?_; rintro e w' ⟨rfl, rfl⟩; rw [if_pos hsz2])
  go_ret
  exact ⟨rfl, Keeps.refl _⟩
end Go.Proofs.Yteeonfdpcfnifaa
