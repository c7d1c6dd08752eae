/- FnExactElementaryParts answers true for every input: the program's ElementaryParts returns what the reference's returns. No condition. -/
import Derived.Test.YtijdcpomalkkhaaGreatGLV
import Derived.Test.YtijdcpomalkkhaaGreatGW2
import Derived.Test.YtijdcpomalkkhaaGreatGMT
namespace Go.Proofs.YtijdcpomalkkhaaGreat
open Go.ChangeShapes Go.WideShapes Go.ChangeAt Go.RowKit

set_option maxRecDepth 100000 in
theorem elementaryParts_lifted (os : Os) (started : os.Started) (H : Type) (enc : TypeId × Value → H) :
    ReturnsInHanded {} Tryz.checked os 3 .any (Rows.fnExactElementaryPartsSpec.pre6 enc Tryz.prog Tryz.f3 Rows.fnExactElementaryPartsRow.domain false) (Rows.fnExactElementaryPartsSpec.post enc Tryz.prog Tryz.f3 false true false false) := by
  refine returnsInHanded_of_change (C := Tryz.checked) own started (by kernel_rfl) Tryz.func3
    (ChangeSpec.witness6 (enc := enc) (C := Tryz.checked) false ⟨#[], #[.agg #[.slice none 0 0, .slice none 0 0]], []⟩ 8 (by kernel_rfl) (by kernel_rfl) (by kernel_rfl) (by kernel_rfl)) ?_
  intro W base args ds gs before hval0 hW hcnd _
  have hval : ∀ (j : Nat) t v, Tryz.f3.params[j]? = some t → args[j]? = some v → Value.okWide Tryz.prog W .any base t v := hval0
  have hW' := hW
  obtain ⟨p, q, hA0, hV, rfl, hfz, hnd⟩ := hW
  have hA : DataW.TrodAll enc Tryz.prog W 0 (fun _ => true) true Tryz.f3.params.toList args.toList ds p := hA0
  rw [Tryz.params3] at hA hval
  obtain ⟨v0, d0, rfl, rfl, h0⟩ := trodAll_one hA
  obtain ⟨rfl, rfl⟩ := trodVars_none hV
  have fin : ∀ e W', (e = Ending.returned (.bool true) ∧ Keeps W W') → ∃ v, e = Ending.returned v ∧ Rows.fnExactElementaryPartsSpec.post enc Tryz.checked.prog Tryz.f3 false true false false W #[v0] v W' := by
    intro e W' ⟨he, hk⟩
    subst he
    exact ⟨_, rfl, lawPost hW' rfl rfl (by kernel_rfl) (by rw [Tryz.params3]; intro t ht; simp at ht; subst ht; exact ⟨by kernel_rfl, of_decide_eq_true (by kernel_rfl)⟩) hk⟩
  obtain ⟨x0, z0, rfl, hm0, hl0⟩ := open_sequent (hval 0 _ v0 rfl rfl) h0
  by_cases hb : ∃ a b, Strs W x0 a ∧ Strs W z0 b ∧ szB a + szB b ≤ 1048576
  · have hf0 := hb
    obtain ⟨a0, b0, hv0, hu0, hs0⟩ := hf0
    have hm0 : Mid a0 := fun s h => by have := szB_mem h; omega
    have hm1 : Mid b0 := fun s h => by have := szB_mem h; omega
    have hl := epR_len a0 b0
    exact (lawElementaryParts a0 b0 _ _ _ _ (by omega) (fun v u w hv hu => (specElementaryParts a0 b0 v u w hv hu hm0 hm1).mono (fun e w' h => by
        obtain ⟨r, rfl, h0, k⟩ := h
        exact ⟨r, rfl, h0.strs (by omega), k⟩)) (fun v u w hv hu => implElementaryParts a0 b0 v u w hv hu hm0 hm1) W hv0 hu0 hs0).mono fin
  · exact (lawElementaryPartsBig x0 z0 W hm0 hl0 hb).mono fin
theorem elementaryParts_holds : Rows.FnExactElementaryPartsSaid :=
  OpenClaim.holds_of_wide 3 Tryz.f3 rfl rfl rfl rfl rfl rfl rfl ⟨rfl, rfl, rfl, rfl, rfl⟩ rfl rfl rfl rfl rfl (by kernel_rfl) Tryz.func3 (by kernel_rfl)
    (of_decide_eq_true (by kernel_rfl)) (by unfold Func.isWrapper; first | (rw [if_pos (by decide +kernel)]; kernel_rfl) | (rw [if_neg (by decide +kernel)]; exact ⟨rfl, rfl⟩))
    (fun os started H enc _ => elementaryParts_lifted os started H enc)
end Go.Proofs.YtijdcpomalkkhaaGreat
