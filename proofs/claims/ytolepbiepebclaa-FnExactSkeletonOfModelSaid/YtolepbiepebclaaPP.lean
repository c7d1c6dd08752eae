/- Plain mathematics: relations as lists of masks, the closure by Warshall, the three properties of an order. No program in sight. -/
import Derived.Test.YtolepbiepebclaaPl
namespace Go.Proofs.Ytolepbiepebclaa
/-- one mask lies in another one -/
def inM (a b : Nat) : Prop := ∀ i, a.testBit i = true → b.testBit i = true
theorem inM.refl (a : Nat) : inM a a := fun _ h => h
theorem inM.trans {a b c : Nat} (h : inM a b) (k : inM b c) : inM a c := fun i hi => k i (h i hi)
theorem inM.eq {a b : Nat} (h : inM a b) (k : inM b a) : a = b := Nat.eq_of_testBit_eq fun i => by
  rw [Bool.eq_iff_iff]
  exact ⟨h i, k i⟩
theorem inM_or {a b c : Nat} : inM (a ||| b) c ↔ inM a c ∧ inM b c := by
  constructor
  · intro h
    exact ⟨fun i hi => h i (by simp [hi]), fun i hi => h i (by simp [hi])⟩
  · rintro ⟨h, k⟩ i hi
    rw [Nat.testBit_or, Bool.or_eq_true] at hi
    exact hi.elim (h i) (k i)
theorem inM_left (a b : Nat) : inM a (a ||| b) := fun i hi => by simp [hi]
theorem inM_right (a b : Nat) : inM b (a ||| b) := fun i hi => by simp [hi]
theorem or_inM {a b : Nat} (h : inM b a) : a ||| b = a := inM.eq (inM_or.2 ⟨inM.refl a, h⟩) (inM_left a b)
/-- relations that are greater -/
def leR (a b : List Nat) : Prop := a.length = b.length ∧ ∀ i, inM (a.getD i 0) (b.getD i 0)
theorem leR.refl (a : List Nat) : leR a a := ⟨rfl, fun _ => inM.refl _⟩
theorem leR.trans {a b c : List Nat} (h : leR a b) (k : leR b c) : leR a c := ⟨h.1.trans k.1, fun i => (h.2 i).trans (k.2 i)⟩
theorem leR.eq {a b : List Nat} (h : leR a b) (k : leR b a) : a = b := by
  apply List.ext_getElem h.1
  intro i h1 h2
  have := (h.2 i).eq (k.2 i)
  simpa [List.getD_eq_getElem?_getD, h1, h2] using this
/-- one step of the closure: what i sees by way of j -/
def wStep (a : List Nat) (j i : Nat) : List Nat := if (a.getD i 0).testBit j then a.set i (a.getD i 0 ||| a.getD j 0) else a
theorem wStep_len (a : List Nat) (j i : Nat) : (wStep a j i).length = a.length := by unfold wStep; split <;> simp
theorem wStep_le (a : List Nat) (j i : Nat) : leR a (wStep a j i) := by
  refine ⟨(wStep_len a j i).symm, fun k => ?_⟩
  unfold wStep
  split
  · by_cases hk : i = k
    · subst hk
      by_cases hi : i < a.length
      · simp only [List.getD_eq_getElem?_getD, List.getElem?_set_self hi, Option.getD_some]
        exact inM_left _ _
      · simp [List.getD_eq_getElem?_getD, Nat.not_lt.1 hi, inM]
    · simp only [List.getD_eq_getElem?_getD, List.getElem?_set_ne hk]
      exact inM.refl _
  · exact inM.refl _
/-- the inner loop, the outer loop -/
def wRow (a : List Nat) (j : Nat) : Nat → List Nat
  | 0 => a
  | i + 1 => wStep (wRow a j i) j i
def wAll (a : List Nat) (n : Nat) : Nat → List Nat
  | 0 => a
  | j + 1 => wRow (wAll a n j) j n
theorem wRow_le (a : List Nat) (j : Nat) : ∀ i, leR a (wRow a j i)
  | 0 => leR.refl a
  | i + 1 => (wRow_le a j i).trans (wStep_le _ _ _)
theorem wAll_le (a : List Nat) (n : Nat) : ∀ j, leR a (wAll a n j)
  | 0 => leR.refl a
  | j + 1 => (wAll_le a n j).trans (wRow_le _ _ _)
def TransR (a : List Nat) : Prop := ∀ i j, i < a.length → j < a.length → (a.getD i 0).testBit j = true → inM (a.getD j 0) (a.getD i 0)
theorem wStep_id {a : List Nat} (h : TransR a) {i j : Nat} (hi : i < a.length) (hj : j < a.length) : wStep a j i = a := by
  unfold wStep
  split
  · rename_i hb
    rw [or_inM (h i j hi hj hb)]
    apply List.ext_getElem (by simp)
    intro k h1 h2
    rw [List.getElem_set]
    split
    · rename_i e; subst e; simp [List.getD_eq_getElem?_getD, hi]
    · rfl
  · rfl
theorem wRow_id {a : List Nat} (h : TransR a) {j : Nat} (hj : j < a.length) : ∀ i, i ≤ a.length → wRow a j i = a
  | 0, _ => rfl
  | i + 1, hi => by rw [wRow, wRow_id h hj i (by omega)]; exact wStep_id h (by omega) hj
theorem wAll_id {a : List Nat} (h : TransR a) : ∀ j, j ≤ a.length → wAll a a.length j = a
  | 0, _ => rfl
  | j + 1, hj => by rw [wAll, wAll_id h j (by omega)]; exact wRow_id h (by omega) _ (Nat.le_refl _)
/-- between a relation and itself all steps are idle -/
theorem wAll_squeeze {a : List Nat} (h : wAll a a.length a.length = a) : TransR a := by
  have hrow : ∀ j, j ≤ a.length → wAll a a.length j = a := by
    intro j hj
    have h1 := wAll_le a a.length j
    have h2 : ∀ d, j + d ≤ a.length → leR (wAll a a.length j) (wAll a a.length (j + d)) := by
      intro d
      induction d with
      | zero => intro _; exact leR.refl _
      | succ d ih => intro hd; exact (ih (by omega)).trans (wRow_le _ _ _)
    have h3 := h2 (a.length - j) (by omega)
    rw [show j + (a.length - j) = a.length by omega, h] at h3
    exact h3.eq h1
  intro i j hi hj hb
  have hj1 := hrow (j + 1) (by omega)
  rw [wAll, hrow j (by omega)] at hj1
  have hmid : ∀ k, k ≤ a.length → wRow a j k = a := by
    intro k hk
    have h1 := wRow_le a j k
    have h2 : ∀ d, k + d ≤ a.length → leR (wRow a j k) (wRow a j (k + d)) := by
      intro d
      induction d with
      | zero => intro _; exact leR.refl _
      | succ d ih => intro hd; exact (ih (by omega)).trans (wStep_le _ _ _)
    have h3 := h2 (a.length - k) (by omega)
    rw [show k + (a.length - k) = a.length by omega, hj1] at h3
    exact h3.eq h1
  have hs := hmid (i + 1) (by omega)
  rw [wRow, hmid i (by omega)] at hs
  unfold wStep at hs
  rw [if_pos hb] at hs
  have h5 : (a.set i (a.getD i 0 ||| a.getD j 0)).getD i 0 = a.getD i 0 := by rw [hs]
  simp only [List.getD_eq_getElem?_getD, List.getElem?_set_self hi, Option.getD_some] at h5
  have h6 := inM_right (a.getD i 0) (a.getD j 0)
  simp only [List.getD_eq_getElem?_getD] at h6 ⊢
  rw [h5] at h6
  exact h6
/-- the closure is the relation itself exactly if it is transitive -/
theorem wAll_iff (a : List Nat) : wAll a a.length a.length = a ↔ TransR a := ⟨wAll_squeeze, fun h => wAll_id h _ (Nat.le_refl _)⟩
end Go.Proofs.Ytolepbiepebclaa
