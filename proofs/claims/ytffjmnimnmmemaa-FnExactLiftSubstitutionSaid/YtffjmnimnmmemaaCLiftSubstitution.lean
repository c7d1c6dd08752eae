/- FnExactLiftSubstitution answers true for every input: the program's LiftSubstitution returns what the reference's returns. No condition. -/
import Derived.Test.YtffjmnimnmmemaaM6
import Derived.Test.YtffjmnimnmmemaaR
namespace Go.Proofs.Ytffjmnimnmmemaa
open Go.ChangeShapes Go.WideShapes Go.ChangeAt Go.RowKit

set_option maxRecDepth 100000 in
theorem liftSubstitution_lifted (os : Os) (started : os.Started) (H : Type) (enc : TypeId × Value → H) :
    ReturnsInHanded {} Try.checked os 6 .any (Rows.fnExactLiftSubstitutionSpec.pre6 enc Try.prog Try.f6 Rows.fnExactLiftSubstitutionRow.domain false) (Rows.fnExactLiftSubstitutionSpec.post enc Try.prog Try.f6 false true false false) := by
  refine returnsInHanded_of_change (C := Try.checked) own started (by kernel_rfl) Try.func6
    (ChangeSpec.witness6 (enc := enc) (C := Try.checked) false ⟨#[], #[.slice none 0 0, .int .i64 0], []⟩ 8 (by kernel_rfl) (by kernel_rfl) (by kernel_rfl) (by kernel_rfl)) ?_
  intro W base args ds gs before hval0 hW hcnd _
  have hval : ∀ (j : Nat) t v, Try.f6.params[j]? = some t → args[j]? = some v → Value.okWide Try.prog W .any base t v := hval0
  have hW' := hW
  obtain ⟨p, q, hA0, hV, rfl, hfz, hnd⟩ := hW
  have hA : DataW.TrodAll enc Try.prog W 0 (fun _ => true) true Try.f6.params.toList args.toList ds p := hA0
  rw [Try.params6] at hA hval
  obtain ⟨v0, v1, d0, d1, p0, p1, rfl, rfl, rfl, h0, h1⟩ := trodAll_two hA
  obtain ⟨rfl, rfl⟩ := trodVars_none hV
  have fin : ∀ e W', (e = Ending.returned (.bool true) ∧ Keeps W W') → ∃ v, e = Ending.returned v ∧ Rows.fnExactLiftSubstitutionSpec.post enc Try.checked.prog Try.f6 false true false false W #[v0, v1] v W' := by
    intro e W' ⟨he, hk⟩
    subst he
    exact ⟨_, rfl, lawPost hW' rfl rfl (by kernel_rfl) (by rw [Try.params6]; intro t ht; simp at ht; rcases ht with rfl | rfl <;> exact ⟨by kernel_rfl, of_decide_eq_true (by kernel_rfl)⟩) hk⟩
  obtain ⟨mask, rfl, rfl, _, wn⟩ := open_int Try.underlying2 (hval 1 2 v1 rfl rfl) h1
  obtain ⟨pt, n, cap, rfl, hmax, hn⟩ := open_nodes (hval 0 _ v0 rfl rfl) h0
  by_cases hbig : n ≤ 1048576
  · obtain ⟨a, rfl, ha⟩ := hn (by omega)
    obtain ⟨r, c, hb, hrl, hrt⟩ := bothLift a mask
    exact (lawLiftSubstitution a mask r c hb hrl hrt _ W ha hbig).mono fin
  · exact (lawLiftSubstitutionBig pt n cap mask W (by omega) hmax).mono fin
theorem liftSubstitution_holds : Rows.FnExactLiftSubstitutionSaid :=
  OpenClaim.holds_of_wide 6 Try.f6 rfl rfl rfl rfl rfl rfl rfl ⟨rfl, rfl, rfl, rfl, rfl⟩ rfl rfl rfl rfl rfl (by kernel_rfl) Try.func6 (by kernel_rfl)
    (of_decide_eq_true (by kernel_rfl)) (by unfold Func.isWrapper; first | (rw [if_pos (by decide +kernel)]; kernel_rfl) | (rw [if_neg (by decide +kernel)]; exact ⟨rfl, rfl⟩))
    (fun os started H enc _ => liftSubstitution_lifted os started H enc)
end Go.Proofs.Ytffjmnimnmmemaa
