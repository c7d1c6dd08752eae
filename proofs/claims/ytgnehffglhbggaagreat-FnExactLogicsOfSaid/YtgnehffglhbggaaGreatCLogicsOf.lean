/- FnExactLogicsOf answers true for every input: the program's LogicsOf returns what the reference's returns. No condition. -/
import Derived.Test.YtgnehffglhbggaaGreatGPR
import Derived.Test.YtgnehffglhbggaaGreatGL2
import Derived.ChangeMaps5
import Derived.Test.YtgnehffglhbggaaGreatGLW2
import Derived.Test.YtgnehffglhbggaaGreatGNX
namespace Go.Proofs.YtgnehffglhbggaaGreat
open Go.ChangeShapes Go.WideShapes Go.ChangeAt Go.RowKit

set_option maxRecDepth 100000 in
theorem logicsOf_lifted (os : Os) (started : os.Started) (H : Type) (enc : TypeId × Value → H) :
    ReturnsInHanded {} Tryz.checked os 5 .any (Rows.fnExactLogicsOfSpec.pre6 enc Tryz.prog Tryz.f5 Rows.fnExactLogicsOfRow.domain false) (Rows.fnExactLogicsOfSpec.post enc Tryz.prog Tryz.f5 false true false false) := by
  refine returnsInHanded_of_change (C := Tryz.checked) own started (by kernel_rfl) Tryz.func5
    (ChangeSpec.witness6 (enc := enc) (C := Tryz.checked) false ⟨#[], #[.agg #[.slice none 0 0, .slice none 0 0]], []⟩ 8 (by kernel_rfl) (by kernel_rfl) (by kernel_rfl) (by kernel_rfl)) ?_
  intro W base args ds gs before hval0 hW hcnd _
  have hval : ∀ (j : Nat) t v, Tryz.f5.params[j]? = some t → args[j]? = some v → Value.okWide Tryz.prog W .any base t v := hval0
  have hW' := hW
  obtain ⟨p, q, hA0, hV, rfl, hfz, hnd⟩ := hW
  have hA : DataW.TrodAll enc Tryz.prog W 0 (fun _ => true) true Tryz.f5.params.toList args.toList ds p := hA0
  rw [Tryz.params5] at hA hval
  obtain ⟨v0, d0, rfl, rfl, h0⟩ := trodAll_one hA
  obtain ⟨rfl, rfl⟩ := trodVars_none hV
  have fin : ∀ e W', (e = Ending.returned (.bool true) ∧ Keeps W W') → ∃ v, e = Ending.returned v ∧ Rows.fnExactLogicsOfSpec.post enc Tryz.checked.prog Tryz.f5 false true false false W #[v0] v W' := by
    intro e W' ⟨he, hk⟩
    subst he
    exact ⟨_, rfl, lawPost hW' rfl rfl (by kernel_rfl) (by rw [Tryz.params5]; intro t ht; simp at ht; subst ht; exact ⟨by kernel_rfl, of_decide_eq_true (by kernel_rfl)⟩) hk⟩
  obtain ⟨x0, z0, rfl, hm0, hl0⟩ := open_sequent (hval 0 _ v0 rfl rfl) h0
  by_cases hb : ∃ a b, Strs W x0 a ∧ Strs W z0 b ∧ szB a + szB b ≤ 1048576
  · have hf0 := hb
    obtain ⟨a0, b0, hv0, hu0, hs0⟩ := hf0
    have mA : Mid a0 := fun s h => by have := szB_mem h; omega
    have mB : Mid b0 := fun s h => by have := szB_mem h; omega
    have hl := loR_len a0 b0
    exact (lawLogicsOf a0 b0 _ _ _ _ (by omega) (fun v u w hv hu => specLogicsOf a0 b0 v u w hv hu mA mB) (fun v u w hv hu => implLogicsOf a0 b0 v u w hv hu mA mB) W hv0 hu0 hs0).mono fin
  · exact (lawLogicsOfBig x0 z0 W hm0 hl0 hb).mono fin
theorem logicsOf_holds : Rows.FnExactLogicsOfSaid :=
  OpenClaim.holds_of_wide 5 Tryz.f5 rfl rfl rfl rfl rfl rfl rfl ⟨rfl, rfl, rfl, rfl, rfl⟩ rfl rfl rfl rfl rfl (by kernel_rfl) Tryz.func5 (by kernel_rfl)
    (of_decide_eq_true (by kernel_rfl)) (by unfold Func.isWrapper; first | (rw [if_pos (by decide +kernel)]; kernel_rfl) | (rw [if_neg (by decide +kernel)]; exact ⟨rfl, rfl⟩))
    (fun os started H enc _ => logicsOf_lifted os started H enc)
end Go.Proofs.YtgnehffglhbggaaGreat
