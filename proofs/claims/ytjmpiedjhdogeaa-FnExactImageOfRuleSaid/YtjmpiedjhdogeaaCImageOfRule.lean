/- FnExactImageOfRule answers true for every input: the program's ImageOfRule returns what the reference's returns. No condition. -/
import Derived.Test.YtjmpiedjhdogeaaLA
import Derived.Test.YtjmpiedjhdogeaaR2
import Derived.Test.YtjmpiedjhdogeaaSF
namespace Go.Proofs.Ytjmpiedjhdogeaa
open Go.ChangeShapes Go.WideShapes Go.ChangeAt Go.RowKit

set_option maxRecDepth 100000 in
theorem imageOfRule_lifted (os : Os) (started : os.Started) (H : Type) (enc : TypeId × Value → H) :
    ReturnsInHanded {} Try.checked os 4 .any (Rows.fnExactImageOfRuleSpec.pre6 enc Try.prog Try.f4 Rows.fnExactImageOfRuleRow.domain false) (Rows.fnExactImageOfRuleSpec.post enc Try.prog Try.f4 false true false false) := by
  refine returnsInHanded_of_change (C := Try.checked) own started (by kernel_rfl) Try.func4
    (ChangeSpec.witness6 (enc := enc) (C := Try.checked) false ⟨#[], #[.agg #[.slice none 0 0, .slice none 0 0], .slice none 0 0], []⟩ 8 (by kernel_rfl) (by kernel_rfl) (by kernel_rfl) (by kernel_rfl)) ?_
  intro W base args ds gs before hval0 hW hcnd _
  have hval : ∀ (j : Nat) t v, Try.f4.params[j]? = some t → args[j]? = some v → Value.okWide Try.prog W .any base t v := hval0
  have hW' := hW
  obtain ⟨p, q, hA0, hV, rfl, hfz, hnd⟩ := hW
  have hA : DataW.TrodAll enc Try.prog W 0 (fun _ => true) true Try.f4.params.toList args.toList ds p := hA0
  rw [Try.params4] at hA hval
  obtain ⟨v0, v1, d0, d1, p0, p1, rfl, rfl, rfl, h0, h1⟩ := trodAll_two hA
  obtain ⟨rfl, rfl⟩ := trodVars_none hV
  have fin : ∀ e W', (e = Ending.returned (.bool true) ∧ Keeps W W') → ∃ v, e = Ending.returned v ∧ Rows.fnExactImageOfRuleSpec.post enc Try.checked.prog Try.f4 false true false false W #[v0, v1] v W' := by
    intro e W' ⟨he, hk⟩
    subst he
    exact ⟨_, rfl, lawPost hW' rfl rfl (by kernel_rfl) (by rw [Try.params4]; intro t ht; simp at ht; rcases ht with rfl | rfl <;> exact ⟨by kernel_rfl, of_decide_eq_true (by kernel_rfl)⟩) hk⟩
  obtain ⟨x0, y0, rfl, o0, o0'⟩ := open_rule (hval 0 _ v0 rfl rfl) h0
  have o1 := open_wkL (hval 1 _ v1 rfl rfl) h1
  rcases szR_weak o0 o0' (1048576) (by omega) (by omega) with ⟨xs0, c0, hv0, hu0, hs0⟩ | hb
  · rcases szL_weak o1 (1048576 - (xs0.length : Int) - (tot xs0 : Int) - (c0.length : Int)) (by omega) (by omega) with ⟨l1, hv1, hs1⟩ | hb
    · exact (lawImageOfRule xs0 c0 _ _ l1 _ (irP xs0 c0 l1) (irC xs0 c0 l1) (irE xs0 c0 l1) ir_len.1 ir_len.2 (fun v u v1 w h h' h1 => specImageOfRule_any xs0 c0 l1 v u v1 w h h' h1) (fun v u v1 w h h' h1 => implImageOfRule_any xs0 c0 l1 v u v1 w h h' h1) W hv0 hu0 hv1 (by omega)).mono fin
    · obtain ⟨p1, n1, q1, rfl, _⟩ := o1
      exact (lawImageOfRuleBig1 xs0 c0 _ _ _ _ _ W hv0 hu0 (by omega) hb).mono fin
  · obtain ⟨p0, n0, q0, rfl, _⟩ := o0
    obtain ⟨r0, m0, z0, rfl, _⟩ := o0'
    obtain ⟨p1, n1, q1, rfl, _⟩ := o1
    exact (lawImageOfRuleBig0  _ _ _ _ _ _ _ _ _ W  hb).mono fin
theorem imageOfRule_holds : Rows.FnExactImageOfRuleSaid :=
  OpenClaim.holds_of_wide 4 Try.f4 rfl rfl rfl rfl rfl rfl rfl ⟨rfl, rfl, rfl, rfl, rfl⟩ rfl rfl rfl rfl rfl (by kernel_rfl) Try.func4 (by kernel_rfl)
    (of_decide_eq_true (by kernel_rfl)) (by unfold Func.isWrapper; first | (rw [if_pos (by decide +kernel)]; kernel_rfl) | (rw [if_neg (by decide +kernel)]; exact ⟨rfl, rfl⟩))
    (fun os started H enc _ => imageOfRule_lifted os started H enc)
end Go.Proofs.Ytjmpiedjhdogeaa
