/- LiftSubstitution on both sides, and its law. -/
import Derived.Test.YtjmpiedjhdogeaaM4
import Derived.Test.YtjmpiedjhdogeaaT1
import Derived.Test.YtjmpiedjhdogeaaL3
namespace Go.Proofs.Ytjmpiedjhdogeaa
open Go.RowKit
theorem plainErr_ok {a : List Nd} (h : plainErr a = 0) : a.all okNd = true ∧ a.length ≤ 40 := by
  unfold plainErr at h
  split at h
  · rename_i hf
    simp [isFm, isTree] at hf
    exact ⟨by simpa using hf.2.1, hf.1⟩
  · cases h
theorem any_set {l : List (List Nd)} {i : Nat} {y : List Nd} (hi : i < l.length) (hy : 40 < y.length) : bigL (l.set i y) = true := by
  unfold bigL
  exact List.any_eq_true.2 ⟨y, List.mem_set hi y, by simpa using hy⟩
theorem liftF_mem (a : List Nd) (mask : Nat) (ms : List Int) : ∀ x ∈ liftF a mask ms, x.length ≤ a.length + 2 := by
  unfold liftF
  have : ∀ (l : List (List Nd)), (∀ x ∈ l, x.length ≤ a.length + 2) → ∀ x ∈ ms.foldl (fun l v => l.set v.toNat (liftI a mask v)) l, x.length ≤ a.length + 2 := by
    induction ms with
    | nil => intro l h; exact h
    | cons m ms ih =>
      intro l h
      rw [List.foldl_cons]
      refine ih _ (fun x hx => ?_)
      rcases List.mem_or_eq_of_mem_set hx with h1 | rfl
      · exact h x h1
      · rw [liftI_len]; exact Nat.le_refl _
  refine this _ (fun x hx => ?_)
  simp [idL] at hx
  obtain ⟨v, _, rfl⟩ := hx
  simp [Fm.enc]
theorem liftL_big (a : List Nd) (mask : Nat) : bigL (liftL a mask) = (decide (0 < (mem (vm a)).length) && decide (40 < a.length + 2)) := by
  have hmr := mem_range (vm a)
  unfold liftL
  generalize mem (vm a) = M at *
  by_cases hl : 40 < a.length + 2
  · rcases List.eq_nil_or_concat M with rfl | ⟨M', m, rfl⟩
    · simp [liftF]; decide
    · obtain ⟨k, hk, e⟩ := hmr m (by simp)
      rw [List.concat_eq_append, liftF_snoc]
      rw [any_set (by rw [liftF_len]; omega) (by rw [liftI_len]; exact hl)]
      simp; omega
  · have : bigL (liftF a mask M) = false := by
      rw [Bool.eq_false_iff]; intro h
      unfold bigL at h
      obtain ⟨x, hx, h2⟩ := List.any_eq_true.1 h
      have := liftF_mem a mask M x hx
      simp at h2; omega
    rw [this]; simp [hl]
theorem tot_bound (l : List (List Nd)) (n : Nat) (h : ∀ x ∈ l, x.length ≤ n) : tot l ≤ n * l.length := by
  induction l with
  | nil => simp [tot]
  | cons x l ih =>
    have h1 := h x (List.mem_cons_self ..)
    have h2 := ih (fun y hy => h y (List.mem_cons_of_mem _ hy))
    simp only [tot, List.length_cons]
    rw [Nat.mul_succ]; omega
theorem not_big {l : List (List Nd)} (h : bigL l = false) : ∀ x ∈ l, x.length ≤ 40 := by
  intro x hx
  rcases Nat.lt_or_ge 40 x.length with h1 | h1
  · have : bigL l = true := List.any_eq_true.2 ⟨x, hx, by simpa using h1⟩
    rw [h] at this; cases this
  · exact h1
theorem limitedAll_small (l : List (List Nd)) (v : Value) (w : World) (hv : NdsL w v l) (hb : bigL l = false) :
    Calls Try.prog 54 #[v] w fun e w' => e = .returned (.tuple #[v, .int .i64 0]) ∧ Keeps w w' := by
  have h := limitedAll_any l v w hv
  rw [hb] at h
  exact h
theorem limitedAll_big (l : List (List Nd)) (v : Value) (w : World) (hv : NdsL w v l) (hb : bigL l = true) :
    Calls Try.prog 54 #[v] w fun e w' => e = .returned (.tuple #[.slice none 0 0, .int .i64 3]) ∧ Keeps w w' := by
  have h := limitedAll_any l v w hv
  rw [hb] at h
  exact h
def BothLift (a : List Nd) (mask : Int) (r : List (List Nd)) (c : Int) : Prop :=
  (∀ v w, Nds w v a → Calls Try.prog 0 #[v, .int .i64 mask] w fun e w' => ∃ u, e = .returned (.tuple #[u, .int .i64 c]) ∧ NdsL w' u r ∧ Keeps w w') ∧
  (∀ v w, Nds w v a → Calls Try.prog 0 #[v, .int .i64 mask] w fun e w' => ∃ u, e = .returned (.tuple #[u, .int .i64 c]) ∧ OwnL w' w.heap.size u r ∧ Keeps w w')
theorem ndsL_nil (w : World) : NdsL w (.slice none 0 0) [] := (OwnL.nil w 0).ndsL (by simp) (by simp [tot])
end Go.Proofs.Ytjmpiedjhdogeaa
