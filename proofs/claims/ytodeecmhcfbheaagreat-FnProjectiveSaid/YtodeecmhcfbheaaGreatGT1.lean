/- Walks: IsHarrop, IsNegative on both sides, and their laws. -/
import Derived.Test.YtodeecmhcfbheaaGreatGW7
import Derived.Test.YtodeecmhcfbheaaGreatGB2
namespace Go.Proofs.YtodeecmhcfbheaaGreat
open Go.RowKit

theorem plainL_enc (t : Fm) : plainL t.enc = t.plain := by
  unfold plainL
  induction t with
  | var v => simp [Fm.enc, Fm.plain]
  | fls => simp [Fm.enc, Fm.plain]
  | and a b iha ihb => simp only [Fm.enc, Fm.plain, List.all_cons, List.all_append, iha, ihb]; simp
  | or a b iha ihb => simp only [Fm.enc, Fm.plain, List.all_cons, List.all_append, iha, ihb]; simp
  | imp a b iha ihb => simp only [Fm.enc, Fm.plain, List.all_cons, List.all_append, iha, ihb]; simp
  | box a iha => simp [Fm.enc, Fm.plain]
  | dia a iha => simp [Fm.enc, Fm.plain]
theorem plainErrs_one (a : List Nd) : plainErrs [a] = plainErr a := by
  unfold plainErrs plainErr allFm allPlainL
  cases h1 : isFm a <;> cases h2 : plainL a <;> simp [h1, h2]
theorem plain_tree {a : List Nd} (h : plainErr a = 0) : ∃ t : Fm, t.wf ∧ a = t.enc ∧ t.plain = true ∧ a.length ≤ 40 := by
  unfold plainErr at h
  by_cases hf : isFm a = true
  · by_cases hp : plainL a = true
    · have hf' := hf
      simp only [isFm, Bool.and_eq_true, decide_eq_true_eq] at hf'
      obtain ⟨t, hw, rfl⟩ := isTree_enc hf'.2
      exact ⟨t, hw, rfl, by rw [← plainL_enc]; exact hp, hf'.1⟩
    · rw [if_pos hf, if_neg hp] at h; simp at h
  · rw [if_neg hf] at h; simp at h
theorem plainErr_ne {a : List Nd} (h : plainErr a ≠ 0) : plainErr a = 1 ∨ plainErr a = 5 := by
  unfold plainErr at *
  split
  · split
    · rename_i h1 h2; simp [h1, h2] at h
    · right; rfl
  · left; rfl

--
def BothIsHarrop (a : List Nd) (b : Bool) (c : Int) : Prop :=
  (∀ v w, Nds w v a → Calls Tryz.prog 12 #[v] w fun e w' => e = .returned (.tuple #[.bool b, .int .i64 c]) ∧ Keeps w w') ∧
  (∀ v w, Nds w v a → Calls Tryz.prog 11 #[v] w fun e w' => e = .returned (.tuple #[.bool b, .int .i64 c]) ∧ Keeps w w')
theorem bothIsHarrop (a : List Nd) : ∃ b c, BothIsHarrop a b c := by
  have hne := fun (v : Value) (w : World) (hv : Nds w v a) => plainCode_any [a] _ _ (NdsL.lit1 hv)
  rw [plainErrs_one] at hne
  by_cases h : plainErr a = 0
  · obtain ⟨t, hw, rfl, hp, hl⟩ := plain_tree h
    rw [h] at hne
    have H := hid h; clear h
    have HN := hid hne; clear hne
    refine ⟨t.harrop, 0, fun v w hv => ?_, fun v w hv => ?_⟩
    · go_enter Tryz.func12, Tryz.ntmps12
      go_wp2_with (first | (go_at_call 64; refine (l29Code_any _ _ _ hv).mono ?_; rintro e w' ⟨rfl, rfl⟩; rw [H.out]) | (go_at_call 65; refine (l29Harrop_any t  _ _ hv).mono ?_; rintro e w' ⟨rfl, rfl⟩))
      go_ret2
      exact ⟨rfl, Keeps.refl _⟩
    · obtain ⟨p, n, cap, rfl⟩ := hv.shape
      have k1 := (Keeps.refl w).alloc (.cells #[.slice p n cap] 24)
      go_enter Tryz.func11, Tryz.ntmps11
      go_wp2_with (first | (go_at_call 62; refine (HN.out _ _ hv).mono ?_; rintro e w2 ⟨rfl, k2⟩) | (go_at_call 63; refine (isHarrop_any t  _ _ (hv.keeps (k1.trans k2))).mono ?_; rintro e w' ⟨rfl, rfl⟩))
      go_ret2
      exact ⟨rfl, k1.trans k2⟩
  · have h' : (plainErr a != 0) = true := by simp [h]
    have H := hid h; clear h
    have HN := hid hne; clear hne
    refine ⟨false, plainErr a, fun v w hv => ?_, fun v w hv => ?_⟩
    · go_enter Tryz.func12, Tryz.ntmps12
      go_wp2_with (go_at_call 64; refine (l29Code_any _ _ _ hv).mono ?_; rintro e w' ⟨rfl, rfl⟩)
      go_ret2
      exact ⟨rfl, Keeps.refl _⟩
    · obtain ⟨p, n, cap, rfl⟩ := hv.shape
      have k1 := (Keeps.refl w).alloc (.cells #[.slice p n cap] 24)
      go_enter Tryz.func11, Tryz.ntmps11
      go_wp2_with (go_at_call 62; refine (HN.out _ _ hv).mono ?_; rintro e w2 ⟨rfl, k2⟩)
      go_ret2
      exact ⟨rfl, k1.trans k2⟩
end Go.Proofs.YtodeecmhcfbheaaGreat
