import Derived.Test.YtfmmajgkjkmghaaGreatHHF
import Derived.Test.YtfmmajgkjkmghaaGreatHRB
/- FnBoxTranslations answers true for every input: a plain formula is forced where its box translation is true in the model of the order, and the skeleton of a model forces it at the clusters where it is true. No condition. -/
namespace Go.Proofs.YtfmmajgkjkmghaaGreat
open Go.ChangeShapes Go.WideShapes Go.ChangeAt Go.RowKit
set_option maxRecDepth 100000 in
theorem boxTranslations_lifted (os : Os) (started : os.Started) (H : Type) (enc : TypeId × Value → H) :
  ReturnsInHanded {} Tryz.checked os 3 .any (Rows.fnBoxTranslationsSpec.pre6 enc Tryz.prog Tryz.f3 Rows.fnBoxTranslationsRow.domain false) (Rows.fnBoxTranslationsSpec.post enc Tryz.prog Tryz.f3 false true false false) := by
 refine returnsInHanded_of_change (C := Tryz.checked) own started (by kernel_rfl) Tryz.func3
  (ChangeSpec.witness6 (enc := enc) (C := Tryz.checked) false ⟨#[], #[.slice none 0 0], []⟩ 8 (by kernel_rfl) (by kernel_rfl) (by kernel_rfl) (by kernel_rfl)) ?_
 intro W base args ds gs before hval0 hW hcnd _
 have hval : ∀ (j : Nat) t v, Tryz.f3.params[j]? = some t → args[j]? = some v → Value.okWide Tryz.prog W .any base t v := hval0
 have hW' := hW
 obtain ⟨p, q, hA0, hV, rfl, hfz, hnd⟩ := hW
 have hA : DataW.TrodAll enc Tryz.prog W 0 (fun _ => true) true Tryz.f3.params.toList args.toList ds p := hA0
 rw [Tryz.params3] at hA hval
 obtain ⟨v0, d0, rfl, rfl, h0⟩ := trodAll_one hA
 obtain ⟨rfl, rfl⟩ := trodVars_none hV
 have fin : ∀ e W', (e = Ending.returned (.bool true) ∧ Keeps W W') → ∃ v, e = Ending.returned v ∧ Rows.fnBoxTranslationsSpec.post enc Tryz.checked.prog Tryz.f3 false true false false W #[v0] v W' := by
  intro e W' ⟨he, hk⟩
  subst he
  exact ⟨_, rfl, lawPost hW' rfl rfl (by kernel_rfl) (by rw [Tryz.params3]; intro t ht; simp at ht; subst ht; exact ⟨by kernel_rfl, of_decide_eq_true (by kernel_rfl)⟩) hk⟩
 obtain ⟨p0, n0, q0, rfl, _, hb⟩ := open_bytes (hval 0 _ v0 rfl rfl) h0
 exact (lawBoxTranslations _ n0 W hb).mono fin
theorem boxTranslations_named : Tryz.pinned.checked.prog.funcNamed Rows.fnBoxTranslationsRow.func = some 3 := by kernel_rfl
theorem boxTranslations_facts : joinedFacts Tryz.pinned.checked.prog 3 Tryz.f3 Rows.fnBoxTranslationsSpec Rows.fnBoxTranslationsRow = true := by kernel_rfl
theorem boxTranslations_inst : Tryz.f3.isInstance Tryz.pinned.checked.prog Rows.fnBoxTranslationsRow.origin Rows.fnBoxTranslationsRow.targs := of_decide_eq_true (by kernel_rfl)
theorem boxTranslations_wrap : Tryz.f3.isWrapper Tryz.pinned.checked.prog Rows.fnBoxTranslationsRow.wrapper Rows.fnBoxTranslationsRow.mainSum := by unfold Func.isWrapper; first | (rw [if_pos (by decide +kernel)]; kernel_rfl) | (rw [if_neg (by decide +kernel)]; exact ⟨rfl, rfl⟩)
theorem boxTranslations_holds : Rows.FnBoxTranslationsSaid :=
 OpenClaim.holds_of_wide 3 Tryz.f3 rfl rfl rfl rfl rfl rfl rfl ⟨rfl, rfl, rfl, rfl, rfl⟩ rfl rfl rfl rfl rfl boxTranslations_named Tryz.func3 boxTranslations_facts
  boxTranslations_inst boxTranslations_wrap
  (fun os started H enc _ => boxTranslations_lifted os started H enc)
end Go.Proofs.YtfmmajgkjkmghaaGreat
