/- FnExactSplitRule answers true for every input: the program's SplitRule returns what the reference's returns. No condition. -/
import Derived.Test.YtjmpiedjhdogeaaL9
import Derived.Test.YtjmpiedjhdogeaaR2
import Derived.Test.YtjmpiedjhdogeaaN2
namespace Go.Proofs.Ytjmpiedjhdogeaa
open Go.ChangeShapes Go.WideShapes Go.ChangeAt Go.RowKit

set_option maxRecDepth 100000 in
theorem splitRule_lifted (os : Os) (started : os.Started) (H : Type) (enc : TypeId × Value → H) :
    ReturnsInHanded {} Try.checked os 3 .any (Rows.fnExactSplitRuleSpec.pre6 enc Try.prog Try.f3 Rows.fnExactSplitRuleRow.domain false) (Rows.fnExactSplitRuleSpec.post enc Try.prog Try.f3 false true false false) := by
  refine returnsInHanded_of_change (C := Try.checked) own started (by kernel_rfl) Try.func3
    (ChangeSpec.witness6 (enc := enc) (C := Try.checked) false ⟨#[], #[.slice none 0 0], []⟩ 8 (by kernel_rfl) (by kernel_rfl) (by kernel_rfl) (by kernel_rfl)) ?_
  intro W base args ds gs before hval0 hW hcnd _
  have hval : ∀ (j : Nat) t v, Try.f3.params[j]? = some t → args[j]? = some v → Value.okWide Try.prog W .any base t v := hval0
  have hW' := hW
  obtain ⟨p, q, hA0, hV, rfl, hfz, hnd⟩ := hW
  have hA : DataW.TrodAll enc Try.prog W 0 (fun _ => true) true Try.f3.params.toList args.toList ds p := hA0
  rw [Try.params3] at hA hval
  obtain ⟨v0, d0, rfl, rfl, h0⟩ := trodAll_one hA
  obtain ⟨rfl, rfl⟩ := trodVars_none hV
  have fin : ∀ e W', (e = Ending.returned (.bool true) ∧ Keeps W W') → ∃ v, e = Ending.returned v ∧ Rows.fnExactSplitRuleSpec.post enc Try.checked.prog Try.f3 false true false false W #[v0] v W' := by
    intro e W' ⟨he, hk⟩
    subst he
    exact ⟨_, rfl, lawPost hW' rfl rfl (by kernel_rfl) (by rw [Try.params3]; intro t ht; simp at ht; subst ht; exact ⟨by kernel_rfl, of_decide_eq_true (by kernel_rfl)⟩) hk⟩
  have o0 := open_wkN (hval 0 _ v0 rfl rfl) h0
  rcases szN_weak o0 (1048576) (by omega) (by omega) with ⟨a0, hv0, hs0⟩ | hb
  · exact (lawSplitRule a0 _ (splP a0) (splC a0) (splE a0) (spl_len a0).1 (spl_len a0).2 (fun v w h => specSplit a0 v w h) (fun v w h => implSplit a0 v w h) W hv0 (by omega)).mono fin
  · obtain ⟨p0, n0, q0, rfl, _⟩ := o0
    exact (lawSplitRuleBig0  _ _ _ W  hb).mono fin
theorem splitRule_holds : Rows.FnExactSplitRuleSaid :=
  OpenClaim.holds_of_wide 3 Try.f3 rfl rfl rfl rfl rfl rfl rfl ⟨rfl, rfl, rfl, rfl, rfl⟩ rfl rfl rfl rfl rfl (by kernel_rfl) Try.func3 (by kernel_rfl)
    (of_decide_eq_true (by kernel_rfl)) (by unfold Func.isWrapper; first | (rw [if_pos (by decide +kernel)]; kernel_rfl) | (rw [if_neg (by decide +kernel)]; exact ⟨rfl, rfl⟩))
    (fun os started H enc _ => splitRule_lifted os started H enc)
end Go.Proofs.Ytjmpiedjhdogeaa
