/- What breaks a rule: what FindBreaking finds, told for BreaksRule and IsDerivable. -/
import Derived.Test.YtpbbfoliabgkpaaGreatGD17
namespace Go.Proofs.YtpbbfoliabgkpaaGreat
open Go.RowKit
theorem findRFacts (xs : List (List Nd)) (c : List Nd) (cs : List (List Nd)) (hcl : cs.length ≤ 2000000) : ∃ r k, r.length ≤ 1000 ∧ tot r ≤ 1000 ∧ ListRL 24 23 xs c cs r k ∧ (k = 0 → xs.length ≤ 6 ∧ ∃ (G : List Fm) (t : Fm) (σ : List Fm), xs = G.map Fm.enc ∧ c = t.enc ∧ OkL (G ++ [t]) ∧ r = σ.map Fm.enc ∧ Sm σ ∧ okB G t σ = true) := by
  by_cases h6 : 6 < xs.length
  · exact ⟨[], 1, by simp, by simp [tot], ⟨fun v u x w hv hu hx => specFindB_six xs c cs h6 v u x w hv hu hx, fun v u x w hv hu hx => implFindB_err xs c cs 1 (by rw [ruleErrX, if_pos h6]) (by decide) v u x w hv hu hx hcl⟩, fun h => by omega⟩
  · obtain ⟨r, k, h1, h2, h3, h4⟩ := findRBoth xs c cs hcl
    exact ⟨r, k, h1, h2, h3, fun hk => ⟨by omega, h4 hk⟩⟩
theorem enc_pos (t : Fm) : 1 ≤ t.enc.length := by cases t <;> simp [Fm.enc]
/-- an image is no shorter -/
theorem sg_longer (σ : List Fm) : ∀ t : Fm, t.enc.length ≤ (sg σ t).enc.length := by
  intro t
  induction t with
  | var i => have := enc_pos (sg σ (.var i)); simpa [Fm.enc] using this
  | fls => exact Nat.le_refl _
  | and a b iha ihb => show (Fm.and a b).enc.length ≤ (Fm.and (sg σ a) (sg σ b)).enc.length; simp [Fm.enc]; omega
  | or a b iha ihb => show (Fm.or a b).enc.length ≤ (Fm.or (sg σ a) (sg σ b)).enc.length; simp [Fm.enc]; omega
  | imp a b iha ihb => show (Fm.imp a b).enc.length ≤ (Fm.imp (sg σ a) (sg σ b)).enc.length; simp [Fm.enc]; omega
  | box a ih => show (Fm.box a).enc.length ≤ (Fm.box (sg σ a)).enc.length; simp [Fm.enc]; omega
  | dia a ih => show (Fm.dia a).enc.length ≤ (Fm.dia (sg σ a)).enc.length; simp [Fm.enc]; omega
/-- what is found breaks the rule, and the rule is not derivable -/
theorem found_breaks {G : List Fm} {t : Fm} {σ : List Fm} (h6 : G.length ≤ 6) (hT : OkL (G ++ [t])) (hs : Sm σ) (hok : okB G t σ = true) :
    BothRL 17 16 (G.map Fm.enc) t.enc (σ.map Fm.enc) true 0 ∧ sqB G t = false := by
  unfold okB at hok
  rw [Bool.and_eq_true, List.all_eq_true] at hok
  obtain ⟨hall, hbrk⟩ := hok
  have hsm : ∀ a ∈ G ++ [t], (sg σ a).enc.length ≤ 20 := fun a ha => by simpa using hall a ha
  have h40 : ∀ a ∈ G ++ [t], a.enc.length ≤ 40 := fun a ha => by have := hsm a ha; have := sg_longer σ a; omega
  have hG : OkL G := fun a ha => hT a (by simp [ha])
  have ht : OkF t := hT t (by simp)
  have hre : ruleErr (G.map Fm.enc) t.enc = 0 := by
    unfold ruleErr
    rw [if_neg (by simp; omega)]
    have := fms_err hT h40
    simpa using this
  have hGe : (G.map Fm.enc).map (sub (σ.map Fm.enc)) = (G.map (sg σ)).map Fm.enc := by
    rw [List.map_map, List.map_map]
    exact List.map_congr_left fun a ha => sub_sg σ hs.1 a (hG a ha)
  have h := breaks_ok (G.map Fm.enc) t.enc (σ.map Fm.enc) (by rw [hre]; exact img_ok hs.1 hs.2.1 hs.2.2) (G.map (sg σ)) (sg σ t) (fun x hx => by obtain ⟨a, ha, rfl⟩ := List.mem_map.1 hx; exact sg_ok hs.2.1 a (hG a ha)) (sg_ok hs.2.1 t ht) hGe (sub_sg σ hs.1 t ht)
  have hany : ¬ ((G.map (sg σ) ++ [sg σ t]).any fun a => decide (20 < a.enc.length)) = true := by
    rw [Bool.not_eq_true, List.any_eq_false]
    intro x hx
    have : ∃ a ∈ G ++ [t], x = sg σ a := by
      rcases List.mem_append.1 hx with h | h
      · obtain ⟨a, ha, rfl⟩ := List.mem_map.1 h; exact ⟨a, by simp [ha], rfl⟩
      · exact ⟨t, by simp, List.mem_singleton.1 h⟩
    obtain ⟨a, ha, rfl⟩ := this
    have := hsm a ha
    simp; omega
  rw [if_neg hany, if_neg hany, hbrk] at h
  refine ⟨h, ?_⟩
  cases hq : sqB G t with
  | false => rfl
  | true =>
    have hf : brk (G.map (sg σ)) (sg σ t) = false := brk_false fun h => by
      have h1 : Sq (G.map (sg σ)) (sg σ t) := sq_subF _ (sqB_iff.1 hq)
      intro M w hw
      exact h1 M w fun a ha => h a ha M w (by simp)
    rw [hbrk] at hf
    cases hf
end Go.Proofs.YtpbbfoliabgkpaaGreat
