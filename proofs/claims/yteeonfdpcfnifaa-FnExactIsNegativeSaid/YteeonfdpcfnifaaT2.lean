/- Walks: IsNegative on both sides, and its law. -/
import Derived.Test.YteeonfdpcfnifaaT1
namespace Go.Proofs.Yteeonfdpcfnifaa
open Go.RowKit
--
def BothIsNegative (a : List Nd) (b : Bool) (c : Int) : Prop :=
  (∀ v w, Nds w v a → Calls Try.prog 23 #[v] w fun e w' => e = .returned (.tuple #[.bool b, .int .i64 c]) ∧ Keeps w w') ∧
  (∀ v w, Nds w v a → Calls Try.prog 24 #[v] w fun e w' => e = .returned (.tuple #[.bool b, .int .i64 c]) ∧ Keeps w w')
theorem bothIsNegative (a : List Nd) : ∃ b c, BothIsNegative a b c := by
  have hne := fun (v : Value) (w : World) (hv : Nds w v a) => plainCode_any [a] _ _ (NdsL.lit1 hv)
  rw [plainErrs_one] at hne
  by_cases h : plainErr a = 0
  · obtain ⟨t, hw, rfl, hp, hl⟩ := plain_tree h
    rw [h] at hne
    have H := hid h; clear h
    have HN := hid hne; clear hne
    refine ⟨t.negative false, 0, fun v w hv => ?_, fun v w hv => ?_⟩
    · go_enter Try.func23, Try.ntmps23
      go_wp2_with (first | (go_at_call 43; refine (l29Code_any _ _ _ hv).mono ?_; rintro e w' ⟨rfl, rfl⟩; rw [H.out]) | (go_at_call 49; refine (l29Negative_any t false _ _ hv hp).mono ?_; rintro e w' ⟨rfl, rfl⟩))
      go_ret2
      exact ⟨rfl, Keeps.refl _⟩
    · obtain ⟨p, n, cap, rfl⟩ := hv.shape
      have k1 := (Keeps.refl w).alloc (.cells #[.slice p n cap] 34)
      go_enter Try.func24, Try.ntmps24
      go_wp2_with (first | (go_at_call 46; refine (HN.out _ _ hv).mono ?_; rintro e w2 ⟨rfl, k2⟩) | (go_at_call 50; refine (isNegative_any t false _ _ (hv.keeps (k1.trans k2)) hp).mono ?_; rintro e w' ⟨rfl, rfl⟩))
      go_ret2
      exact ⟨rfl, k1.trans k2⟩
  · have h' : (plainErr a != 0) = true := by simp [h]
    have H := hid h; clear h
    have HN := hid hne; clear hne
    refine ⟨false, plainErr a, fun v w hv => ?_, fun v w hv => ?_⟩
    · go_enter Try.func23, Try.ntmps23
      go_wp2_with (go_at_call 43; refine (l29Code_any _ _ _ hv).mono ?_; rintro e w' ⟨rfl, rfl⟩)
      go_ret2
      exact ⟨rfl, Keeps.refl _⟩
    · obtain ⟨p, n, cap, rfl⟩ := hv.shape
      have k1 := (Keeps.refl w).alloc (.cells #[.slice p n cap] 34)
      go_enter Try.func24, Try.ntmps24
      go_wp2_with (go_at_call 46; refine (HN.out _ _ hv).mono ?_; rintro e w2 ⟨rfl, k2⟩)
      go_ret2
      exact ⟨rfl, k1.trans k2⟩
set_option maxHeartbeats 400000 in
theorem lawIsNegative (a : List Nd) (v : Value) (w : World) (hv : Nds w v a) (hl : a.length ≤ 1048576) :
    Calls Try.prog 7 #[v] w fun e w' => e = .returned (.bool true) ∧ Keeps w w' := by
  obtain ⟨b, c, hs, hi⟩ := bothIsNegative a
  have HS := hid hs; clear hs
  have HI := hid hi; clear hi
  obtain ⟨p, n, cap, rfl⟩ := hv.shape
  have hn : n = a.length := by obtain ⟨_, _, e, _⟩ := hv; cases e; rfl
  have HN := hid hn
  have hnl : n ≤ 1048576 := by omega
  clear hn
  have hz := hid (szNodeS_any p n cap 1048576 w (by unfold maxLen; omega) (by omega) (by omega))
  have hsz : (1048576 : Int) - n ≥ 0 := by omega
  have hsz2 : ¬ ((1048576 : Int) < n) := by omega
  go_enter Try.func7, Try.ntmps7
  go_wp2_with (first
    | (go_at_call 18; refine hz.out.mono ?_; rintro e w' ⟨rfl, rfl⟩; rw [if_neg hsz2])
    | (go_at_call 20; first
      | ((with_reducible refine (toNodeS_any a _ w hv hl).mono ?_); rintro e w1 ⟨v1, rfl, hv1, k1⟩)
      | ((with_reducible refine (toNodeS_any a _ w2 (hv.keeps (k1.trans k2)) hl).mono ?_); rintro e w3 ⟨v3, rfl, hv3, k3⟩)
      | ((with_reducible refine (toNodeS_any a _ w4 (hv.keeps ((k1.trans k2).trans (k3.trans k4))) hl).mono ?_); rintro e w5 ⟨v5, rfl, hv5, k5⟩))
    | (go_at_call 23; refine (HS.out _ _ (hv1.nds (by omega))).mono ?_; rintro e w2 ⟨rfl, k2⟩)
    | (go_at_call 24; refine (HI.out _ _ (hv3.nds (by omega))).mono ?_; rintro e w4 ⟨rfl, k4⟩)
    | (go_at_call 22; refine (eqNodeS_any a a _ _ _ ((hv3.nds (by omega)).keeps (k4.trans k5)) (hv5.nds (by omega))).mono ?_; rintro e w6 ⟨rfl, k6⟩; rw [decide_eq_true rfl]))
  go_ret
  exact ⟨rfl, (((k1.trans k2).trans (k3.trans k4)).trans k5).trans k6⟩
theorem lawIsNegativeBig (p : Option Addr) (n cap : Nat) (w : World) (hn : 1048576 < n) (hm : n ≤ maxLen) :
    Calls Try.prog 7 #[.slice p n cap] w fun e w' => e = .returned (.bool true) ∧ Keeps w w' := by
  have hz := hid (szNodeS_any p n cap 1048576 w hm (by omega) (by omega))
  have hsz2 : ((1048576 : Int) < n) := by omega
  go_enter Try.func7, Try.ntmps7
  go_wp2_with (go_at_call 18; refine hz.out.mono ?_; rintro e w' ⟨rfl, rfl⟩; rw [if_pos hsz2])
  go_ret
  exact ⟨rfl, Keeps.refl _⟩
end Go.Proofs.Yteeonfdpcfnifaa
