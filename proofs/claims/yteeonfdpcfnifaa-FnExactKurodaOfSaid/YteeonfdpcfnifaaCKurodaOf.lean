/- FnExactKurodaOf answers true for every input: the program's KurodaOf returns what the reference's returns. No condition. -/
import Derived.Test.YteeonfdpcfnifaaT3
import Derived.Test.YteeonfdpcfnifaaR
namespace Go.Proofs.Yteeonfdpcfnifaa
open Go.ChangeShapes Go.WideShapes Go.ChangeAt Go.RowKit

set_option maxRecDepth 100000 in
theorem kurodaOf_lifted (os : Os) (started : os.Started) (H : Type) (enc : TypeId × Value → H) :
    ReturnsInHanded {} Try.checked os 8 .any (Rows.fnExactKurodaOfSpec.pre6 enc Try.prog Try.f8 Rows.fnExactKurodaOfRow.domain false) (Rows.fnExactKurodaOfSpec.post enc Try.prog Try.f8 false true false false) := by
  refine returnsInHanded_of_change (C := Try.checked) own started (by kernel_rfl) Try.func8
    (ChangeSpec.witness6 (enc := enc) (C := Try.checked) false ⟨#[], #[.slice none 0 0], []⟩ 8 (by kernel_rfl) (by kernel_rfl) (by kernel_rfl) (by kernel_rfl)) ?_
  intro W base args ds gs before hval0 hW hcnd _
  have hval : ∀ (j : Nat) t v, Try.f8.params[j]? = some t → args[j]? = some v → Value.okWide Try.prog W .any base t v := hval0
  have hW' := hW
  obtain ⟨p, q, hA0, hV, rfl, hfz, hnd⟩ := hW
  have hA : DataW.TrodAll enc Try.prog W 0 (fun _ => true) true Try.f8.params.toList args.toList ds p := hA0
  rw [Try.params8] at hA hval
  obtain ⟨v0, d0, rfl, rfl, h0⟩ := trodAll_one hA
  obtain ⟨rfl, rfl⟩ := trodVars_none hV
  have fin : ∀ e W', (e = Ending.returned (.bool true) ∧ Keeps W W') → ∃ v, e = Ending.returned v ∧ Rows.fnExactKurodaOfSpec.post enc Try.checked.prog Try.f8 false true false false W #[v0] v W' := by
    intro e W' ⟨he, hk⟩
    subst he
    exact ⟨_, rfl, lawPost hW' rfl rfl (by kernel_rfl) (by rw [Try.params8]; intro t ht; simp at ht; subst ht; exact ⟨by kernel_rfl, of_decide_eq_true (by kernel_rfl)⟩) hk⟩
  obtain ⟨pt, n, cap, rfl, hmax, hn⟩ := open_nodes (hval 0 _ v0 rfl rfl) h0
  by_cases hbig : n ≤ 1048576
  · obtain ⟨a, rfl, ha⟩ := hn (by omega)
    obtain ⟨r, c, hb, hrl⟩ := bothKurodaOf a
    exact (lawKurodaOf a r c hb hrl _ W ha hbig).mono fin
  · exact (lawKurodaOfBig pt n cap W (by omega) hmax).mono fin
theorem kurodaOf_holds : Rows.FnExactKurodaOfSaid :=
  OpenClaim.holds_of_wide 8 Try.f8 rfl rfl rfl rfl rfl rfl rfl ⟨rfl, rfl, rfl, rfl, rfl⟩ rfl rfl rfl rfl rfl (by kernel_rfl) Try.func8 (by kernel_rfl)
    (of_decide_eq_true (by kernel_rfl)) (by unfold Func.isWrapper; first | (rw [if_pos (by decide +kernel)]; kernel_rfl) | (rw [if_neg (by decide +kernel)]; exact ⟨rfl, rfl⟩))
    (fun os started H enc _ => kurodaOf_lifted os started H enc)
end Go.Proofs.Yteeonfdpcfnifaa
