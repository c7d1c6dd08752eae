/- FnExactIsClassicalKind answers true for every input: the program's IsClassicalKind returns what the reference's returns. No condition. -/
import Derived.Test.YtajjlnonmaghlaaGreatGLC
import Derived.Test.YtajjlnonmaghlaaGreatGR2
import Derived.Test.YtajjlnonmaghlaaGreatGY4
namespace Go.Proofs.YtajjlnonmaghlaaGreat
open Go.ChangeShapes Go.WideShapes Go.ChangeAt Go.RowKit

set_option maxRecDepth 100000 in
theorem isClassicalKind_lifted (os : Os) (started : os.Started) (H : Type) (enc : TypeId × Value → H) :
    ReturnsInHanded {} Tryz.checked os 4 .any (Rows.fnExactIsClassicalKindSpec.pre6 enc Tryz.prog Tryz.f4 Rows.fnExactIsClassicalKindRow.domain false) (Rows.fnExactIsClassicalKindSpec.post enc Tryz.prog Tryz.f4 false true false false) := by
  refine returnsInHanded_of_change (C := Tryz.checked) own started (by kernel_rfl) Tryz.func4
    (ChangeSpec.witness6 (enc := enc) (C := Tryz.checked) false ⟨#[], #[.slice none 0 0], []⟩ 8 (by kernel_rfl) (by kernel_rfl) (by kernel_rfl) (by kernel_rfl)) ?_
  intro W base args ds gs before hval0 hW hcnd _
  have hval : ∀ (j : Nat) t v, Tryz.f4.params[j]? = some t → args[j]? = some v → Value.okWide Tryz.prog W .any base t v := hval0
  have hW' := hW
  obtain ⟨p, q, hA0, hV, rfl, hfz, hnd⟩ := hW
  have hA : DataW.TrodAll enc Tryz.prog W 0 (fun _ => true) true Tryz.f4.params.toList args.toList ds p := hA0
  rw [Tryz.params4] at hA hval
  obtain ⟨v0, d0, rfl, rfl, h0⟩ := trodAll_one hA
  obtain ⟨rfl, rfl⟩ := trodVars_none hV
  have fin : ∀ e W', (e = Ending.returned (.bool true) ∧ Keeps W W') → ∃ v, e = Ending.returned v ∧ Rows.fnExactIsClassicalKindSpec.post enc Tryz.checked.prog Tryz.f4 false true false false W #[v0] v W' := by
    intro e W' ⟨he, hk⟩
    subst he
    exact ⟨_, rfl, lawPost hW' rfl rfl (by kernel_rfl) (by rw [Tryz.params4]; intro t ht; simp at ht; subst ht; exact ⟨by kernel_rfl, of_decide_eq_true (by kernel_rfl)⟩) hk⟩
  have o0 := open_wkN (hval 0 _ v0 rfl rfl) h0
  rcases szN_weak o0 (1048576) (by omega) (by omega) with ⟨a0, hv0, hs0⟩ | hb
  · obtain ⟨b, c, hS, hI⟩ := bothClassicalKind a0
    exact (lawIsClassicalKind a0 _ b c (fun v w h => hS v w h) (fun v w h => hI v w h) W hv0 (by omega)).mono fin
  · obtain ⟨p0, n0, q0, rfl, _⟩ := o0
    exact (lawIsClassicalKindBig0  _ _ _ W  hb).mono fin
theorem isClassicalKind_holds : Rows.FnExactIsClassicalKindSaid :=
  OpenClaim.holds_of_wide 4 Tryz.f4 rfl rfl rfl rfl rfl rfl rfl ⟨rfl, rfl, rfl, rfl, rfl⟩ rfl rfl rfl rfl rfl (by kernel_rfl) Tryz.func4 (by kernel_rfl)
    (of_decide_eq_true (by kernel_rfl)) (by unfold Func.isWrapper; first | (rw [if_pos (by decide +kernel)]; kernel_rfl) | (rw [if_neg (by decide +kernel)]; exact ⟨rfl, rfl⟩))
    (fun os started H enc _ => isClassicalKind_lifted os started H enc)
end Go.Proofs.YtajjlnonmaghlaaGreat
