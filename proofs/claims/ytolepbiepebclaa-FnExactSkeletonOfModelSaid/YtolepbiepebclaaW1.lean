/- Walks of the small functions on numbers and of the reference's formula readers. -/
import Derived.Test.YtolepbiepebclaaBase
namespace Go.Proofs.Ytolepbiepebclaa
open Go.RowKit

def idxOf {α : Type} (pr : α → Bool) : List α → Nat → Int
  | [], _ => -1
  | x :: l, k => if pr x then k else idxOf pr l (k + 1)
theorem idxOf_any {α : Type} (pr : α → Bool) (l : List α) : ∀ k, decide (idxOf pr l k ≥ 0) = l.any pr := by
  induction l with
  | nil => intro k; simp [idxOf]
  | cons x l ih =>
    intro k
    cases h : pr x
    · have := ih (k + 1); simp only [idxOf, List.any_cons, h]; simpa using this
    · simp only [idxOf, h, List.any_cons]; simp
theorem idxOf_drop {α : Type} (pr : α → Bool) (l : List α) (k : Nat) (h : k < l.length) : idxOf pr (l.drop k) k = if pr l[k] then (k : Int) else idxOf pr (l.drop (k + 1)) (k + 1) := by
  rw [List.drop_eq_getElem_cons h]; rfl
theorem idxOf_end {α : Type} (pr : α → Bool) (l : List α) (k : Nat) (h : l.length ≤ k) : idxOf pr (l.drop k) k = -1 := by
  rw [List.drop_eq_nil_of_le h]; rfl
/-- the callee's text is there -/
def Enters (f : FuncId) : Prop := ∀ args w, (callFunc f args).run Try.prog w = .ok (.enter f args) w
def inR (x l h : Int) : Bool := decide (l ≤ x ∧ x ≤ h)
--
set_option maxHeartbeats 400000 in
theorem l01In_any (x l h : Int) (w : World) : Calls Try.prog 90 #[.int .i64 x, .int .i64 l, .int .i64 h] w fun e w' => e = .returned (.bool (inR x l h)) ∧ w = w' := by
  by_cases h1 : l ≤ x
  · by_cases h2 : x ≤ h
    all_goals
      go_enter Try.func90, Try.ntmps90
      go_wp2
      go_ret
      exact ⟨ret_bool (by simp [inR, *]), rfl⟩
  · go_enter Try.func90, Try.ntmps90
    go_wp2
    go_ret
    exact ⟨ret_bool (by simp [inR]; omega), rfl⟩
--
set_option maxHeartbeats 400000 in
theorem inRange_any (x l h : Int) (w : World) : Calls Try.prog 91 #[.int .i64 x, .int .i64 l, .int .i64 h] w fun e w' => e = .returned (.bool (inR x l h)) ∧ w = w' := by
  by_cases h1 : l ≤ x
  · by_cases h2 : x ≤ h
    all_goals
      go_enter Try.func91, Try.ntmps91
      go_wp2
      go_ret
      exact ⟨ret_bool (by simp [inR, *]), rfl⟩
  · go_enter Try.func91, Try.ntmps91
    go_wp2
    go_ret
    exact ⟨ret_bool (by simp [inR]; omega), rfl⟩
end Go.Proofs.Ytolepbiepebclaa
