/- FnExactModalCountermodel answers true for every input: the program's ModalCountermodel returns what the reference's returns. No condition. -/
import Derived.Test.YtgnlfceloiilbaaGreatGLW4
import Derived.Test.YtgnlfceloiilbaaGreatGLU
import Derived.ChangeMaps5
import Derived.Test.YtgnlfceloiilbaaGreatGEG
namespace Go.Proofs.YtgnlfceloiilbaaGreat
open Go.ChangeShapes Go.WideShapes Go.ChangeAt Go.RowKit

set_option maxRecDepth 100000 in
theorem modalCountermodel_lifted (os : Os) (started : os.Started) (H : Type) (enc : TypeId × Value → H) :
    ReturnsInHanded {} Tryz.checked os 3 .any (Rows.fnExactModalCountermodelSpec.pre6 enc Tryz.prog Tryz.f3 Rows.fnExactModalCountermodelRow.domain false) (Rows.fnExactModalCountermodelSpec.post enc Tryz.prog Tryz.f3 false true false false) := by
  refine returnsInHanded_of_change (C := Tryz.checked) own started (by kernel_rfl) Tryz.func3
    (ChangeSpec.witness6 (enc := enc) (C := Tryz.checked) false ⟨#[], #[.string ⟨#[]⟩, .agg #[.slice none 0 0, .slice none 0 0]], []⟩ 8 (by kernel_rfl) (by kernel_rfl) (by kernel_rfl) (by kernel_rfl)) ?_
  intro W base args ds gs before hval0 hW hcnd _
  have hval : ∀ (j : Nat) t v, Tryz.f3.params[j]? = some t → args[j]? = some v → Value.okWide Tryz.prog W .any base t v := hval0
  have hW' := hW
  obtain ⟨p, q, hA0, hV, rfl, hfz, hnd⟩ := hW
  have hA : DataW.TrodAll enc Tryz.prog W 0 (fun _ => true) true Tryz.f3.params.toList args.toList ds p := hA0
  rw [Tryz.params3] at hA hval
  obtain ⟨v0, v1, d0, d1, p0, p1, rfl, rfl, rfl, h0, h1⟩ := trodAll_two hA
  obtain ⟨rfl, rfl⟩ := trodVars_none hV
  have fin : ∀ e W', (e = Ending.returned (.bool true) ∧ Keeps W W') → ∃ v, e = Ending.returned v ∧ Rows.fnExactModalCountermodelSpec.post enc Tryz.checked.prog Tryz.f3 false true false false W #[v0, v1] v W' := by
    intro e W' ⟨he, hk⟩
    subst he
    exact ⟨_, rfl, lawPost hW' rfl rfl (by kernel_rfl) (by rw [Tryz.params3]; intro t ht; simp at ht; rcases ht with rfl | rfl <;> exact ⟨by kernel_rfl, of_decide_eq_true (by kernel_rfl)⟩) hk⟩
  obtain ⟨s0, rfl, rfl, rfl, hm0⟩ := Go.ChangeMaps.open_string Tryz.underlying9 (hval 0 _ v0 rfl rfl) h0
  obtain ⟨x1, z1, rfl, hm1, hl1⟩ := open_sequent (hval 1 _ v1 rfl rfl) h1
  by_cases hb : s0.size ≤ 1048576 ∧ ∃ a b, Strs W x1 a ∧ Strs W z1 b ∧ szB a + szB b ≤ 1048576
  · obtain ⟨hf0, hf1⟩ := hb
    obtain ⟨a1, b1, hv1, hu1, hs1⟩ := hf1
    have mA : Mid a1 := fun s h => by have := szB_mem h; omega
    have mB : Mid b1 := fun s h => by have := szB_mem h; omega
    have hl := cw_len s0 a1 b1
    exact (lawModalCountermodel s0 a1 b1 _ _ _ _ _ _ (by omega) (fun v u w hv hu => (specModalCountermodel s0 a1 b1 v u w hv hu mA mB).mono (fun e w' h => by
        obtain ⟨r, q, rfl, h0, k⟩ := h
        exact ⟨r, q, rfl, h0.1.ints (by omega), h0.2.1.ints (by omega), k⟩)) (fun v u w hv hu => implModalCountermodel s0 a1 b1 v u w hv hu mA mB) W hv1 hu1 hs1 hf0).mono fin
  · exact (lawModalCountermodelBig s0 x1 z1 W  hm1 hl1 hb).mono fin
theorem modalCountermodel_named : Tryz.pinned.checked.prog.funcNamed Rows.fnExactModalCountermodelRow.func = some 3 := by kernel_rfl
theorem modalCountermodel_facts : joinedFacts Tryz.pinned.checked.prog 3 Tryz.f3 Rows.fnExactModalCountermodelSpec Rows.fnExactModalCountermodelRow = true := by kernel_rfl
theorem modalCountermodel_inst : Tryz.f3.isInstance Tryz.pinned.checked.prog Rows.fnExactModalCountermodelRow.origin Rows.fnExactModalCountermodelRow.targs := of_decide_eq_true (by kernel_rfl)
theorem modalCountermodel_wrap : Tryz.f3.isWrapper Tryz.pinned.checked.prog Rows.fnExactModalCountermodelRow.wrapper Rows.fnExactModalCountermodelRow.mainSum := by unfold Func.isWrapper; first | (rw [if_pos (by decide +kernel)]; kernel_rfl) | (rw [if_neg (by decide +kernel)]; exact ⟨rfl, rfl⟩)
theorem modalCountermodel_holds : Rows.FnExactModalCountermodelSaid :=
  OpenClaim.holds_of_wide 3 Tryz.f3 rfl rfl rfl rfl rfl rfl rfl ⟨rfl, rfl, rfl, rfl, rfl⟩ rfl rfl rfl rfl rfl modalCountermodel_named Tryz.func3 modalCountermodel_facts
    modalCountermodel_inst modalCountermodel_wrap
    (fun os started H enc _ => modalCountermodel_lifted os started H enc)
end Go.Proofs.YtgnlfceloiilbaaGreat
