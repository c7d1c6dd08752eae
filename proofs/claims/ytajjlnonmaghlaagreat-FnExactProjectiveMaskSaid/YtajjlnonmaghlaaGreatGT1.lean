/- Walks: IsHarrop, IsNegative on both sides, and their laws. -/
import Derived.Test.YtajjlnonmaghlaaGreatGW7
import Derived.Test.YtajjlnonmaghlaaGreatGL1
namespace Go.Proofs.YtajjlnonmaghlaaGreat
open Go.RowKit

theorem plainL_enc (t : Fm) : plainL t.enc = t.plain := by
  unfold plainL
  induction t with
  | var v => simp [Fm.enc, Fm.plain]
  | fls => simp [Fm.enc, Fm.plain]
  | and a b iha ihb => simp only [Fm.enc, Fm.plain, List.all_cons, List.all_append, iha, ihb]; simp
  | or a b iha ihb => simp only [Fm.enc, Fm.plain, List.all_cons, List.all_append, iha, ihb]; simp
  | imp a b iha ihb => simp only [Fm.enc, Fm.plain, List.all_cons, List.all_append, iha, ihb]; simp
  | box a iha => simp [Fm.enc, Fm.plain]
  | dia a iha => simp [Fm.enc, Fm.plain]
theorem plainErrs_one (a : List Nd) : plainErrs [a] = plainErr a := by
  unfold plainErrs plainErr allFm allPlainL
  cases h1 : isFm a <;> cases h2 : plainL a <;> simp [h1, h2]
theorem plain_tree {a : List Nd} (h : plainErr a = 0) : ∃ t : Fm, t.wf ∧ a = t.enc ∧ t.plain = true ∧ a.length ≤ 40 := by
  unfold plainErr at h
  by_cases hf : isFm a = true
  · by_cases hp : plainL a = true
    · have hf' := hf
      simp only [isFm, Bool.and_eq_true, decide_eq_true_eq] at hf'
      obtain ⟨t, hw, rfl⟩ := isTree_enc hf'.2
      exact ⟨t, hw, rfl, by rw [← plainL_enc]; exact hp, hf'.1⟩
    · rw [if_pos hf, if_neg hp] at h; simp at h
  · rw [if_neg hf] at h; simp at h
theorem plainErr_ne {a : List Nd} (h : plainErr a ≠ 0) : plainErr a = 1 ∨ plainErr a = 5 := by
  unfold plainErr at *
  split
  · split
    · rename_i h1 h2; simp [h1, h2] at h
    · right; rfl
  · left; rfl

end Go.Proofs.YtajjlnonmaghlaaGreat
