import Derived.Test.YtfmmajgkjkmghaaGreatEKY
import Derived.Test.YtfmmajgkjkmghaaGreatERB
/- FnNegativeTranslations answers true for every input: the negative translations are equivalent, and theorems exactly if the double negation of the formula is, that is, if it is valid on one element. No condition. -/
namespace Go.Proofs.YtfmmajgkjkmghaaGreat
open Go.ChangeShapes Go.WideShapes Go.ChangeAt Go.RowKit
set_option maxRecDepth 100000 in
theorem negativeTranslations_lifted (os : Os) (started : os.Started) (H : Type) (enc : TypeId × Value → H) :
  ReturnsInHanded {} Tryz.checked os 4 .any (Rows.fnNegativeTranslationsSpec.pre6 enc Tryz.prog Tryz.f4 Rows.fnNegativeTranslationsRow.domain false) (Rows.fnNegativeTranslationsSpec.post enc Tryz.prog Tryz.f4 false true false false) := by
 refine returnsInHanded_of_change (C := Tryz.checked) own started (by kernel_rfl) Tryz.func4
  (ChangeSpec.witness6 (enc := enc) (C := Tryz.checked) false ⟨#[], #[.slice none 0 0], []⟩ 8 (by kernel_rfl) (by kernel_rfl) (by kernel_rfl) (by kernel_rfl)) ?_
 intro W base args ds gs before hval0 hW hcnd _
 have hval : ∀ (j : Nat) t v, Tryz.f4.params[j]? = some t → args[j]? = some v → Value.okWide Tryz.prog W .any base t v := hval0
 have hW' := hW
 obtain ⟨p, q, hA0, hV, rfl, hfz, hnd⟩ := hW
 have hA : DataW.TrodAll enc Tryz.prog W 0 (fun _ => true) true Tryz.f4.params.toList args.toList ds p := hA0
 rw [Tryz.params4] at hA hval
 obtain ⟨v0, d0, rfl, rfl, h0⟩ := trodAll_one hA
 obtain ⟨rfl, rfl⟩ := trodVars_none hV
 have fin : ∀ e W', (e = Ending.returned (.bool true) ∧ Keeps W W') → ∃ v, e = Ending.returned v ∧ Rows.fnNegativeTranslationsSpec.post enc Tryz.checked.prog Tryz.f4 false true false false W #[v0] v W' := by
  intro e W' ⟨he, hk⟩
  subst he
  exact ⟨_, rfl, lawPost hW' rfl rfl (by kernel_rfl) (by rw [Tryz.params4]; intro t ht; simp at ht; subst ht; exact ⟨by kernel_rfl, of_decide_eq_true (by kernel_rfl)⟩) hk⟩
 obtain ⟨p0, n0, q0, rfl, _, hb⟩ := open_bytes (hval 0 _ v0 rfl rfl) h0
 exact (lawNegativeTranslations _ n0 W hb).mono fin
theorem negativeTranslations_named : Tryz.pinned.checked.prog.funcNamed Rows.fnNegativeTranslationsRow.func = some 4 := by kernel_rfl
theorem negativeTranslations_facts : joinedFacts Tryz.pinned.checked.prog 4 Tryz.f4 Rows.fnNegativeTranslationsSpec Rows.fnNegativeTranslationsRow = true := by kernel_rfl
theorem negativeTranslations_inst : Tryz.f4.isInstance Tryz.pinned.checked.prog Rows.fnNegativeTranslationsRow.origin Rows.fnNegativeTranslationsRow.targs := of_decide_eq_true (by kernel_rfl)
theorem negativeTranslations_wrap : Tryz.f4.isWrapper Tryz.pinned.checked.prog Rows.fnNegativeTranslationsRow.wrapper Rows.fnNegativeTranslationsRow.mainSum := by unfold Func.isWrapper; first | (rw [if_pos (by decide +kernel)]; kernel_rfl) | (rw [if_neg (by decide +kernel)]; exact ⟨rfl, rfl⟩)
theorem negativeTranslations_holds : Rows.FnNegativeTranslationsSaid :=
 OpenClaim.holds_of_wide 4 Tryz.f4 rfl rfl rfl rfl rfl rfl rfl ⟨rfl, rfl, rfl, rfl, rfl⟩ rfl rfl rfl rfl rfl negativeTranslations_named Tryz.func4 negativeTranslations_facts
  negativeTranslations_inst negativeTranslations_wrap
  (fun os started H enc _ => negativeTranslations_lifted os started H enc)
end Go.Proofs.YtfmmajgkjkmghaaGreat
