/- FnExactBoxValuesOf answers true for every input: the program's BoxValuesOf returns what the reference's returns. No condition. -/
import Derived.Test.YtolepbiepebclaaQI
import Derived.Test.YtolepbiepebclaaR3
import Derived.Test.YtolepbiepebclaaLO
namespace Go.Proofs.Ytolepbiepebclaa
open Go.ChangeShapes Go.WideShapes Go.ChangeAt Go.RowKit

set_option maxRecDepth 100000 in
theorem boxValuesOf_lifted (os : Os) (started : os.Started) (H : Type) (enc : TypeId × Value → H) :
    ReturnsInHanded {} Try.checked os 3 .any (Rows.fnExactBoxValuesOfSpec.pre6 enc Try.prog Try.f3 Rows.fnExactBoxValuesOfRow.domain false) (Rows.fnExactBoxValuesOfSpec.post enc Try.prog Try.f3 false true false false) := by
  refine returnsInHanded_of_change (C := Try.checked) own started (by kernel_rfl) Try.func3
    (ChangeSpec.witness6 (enc := enc) (C := Try.checked) false ⟨#[], #[.agg #[.int .i64 0, .slice none 0 0], .slice none 0 0], []⟩ 8 (by kernel_rfl) (by kernel_rfl) (by kernel_rfl) (by kernel_rfl)) ?_
  intro W base args ds gs before hval0 hW hcnd _
  have hval : ∀ (j : Nat) t v, Try.f3.params[j]? = some t → args[j]? = some v → Value.okWide Try.prog W .any base t v := hval0
  have hW' := hW
  obtain ⟨p, q, hA0, hV, rfl, hfz, hnd⟩ := hW
  have hA : DataW.TrodAll enc Try.prog W 0 (fun _ => true) true Try.f3.params.toList args.toList ds p := hA0
  rw [Try.params3] at hA hval
  obtain ⟨v0, v1, d0, d1, p0, p1, rfl, rfl, rfl, h0, h1⟩ := trodAll_two hA
  obtain ⟨rfl, rfl⟩ := trodVars_none hV
  have fin : ∀ e W', (e = Ending.returned (.bool true) ∧ Keeps W W') → ∃ v, e = Ending.returned v ∧ Rows.fnExactBoxValuesOfSpec.post enc Try.checked.prog Try.f3 false true false false W #[v0, v1] v W' := by
    intro e W' ⟨he, hk⟩
    subst he
    exact ⟨_, rfl, lawPost hW' rfl rfl (by kernel_rfl) (by rw [Try.params3]; intro t ht; simp at ht; rcases ht with rfl | rfl <;> exact ⟨by kernel_rfl, of_decide_eq_true (by kernel_rfl)⟩) hk⟩
  obtain ⟨n0, y0, rfl, vp0, vm0, vq0, rfl, hm0, hr0⟩ := open_poset (hval 0 _ v0 rfl rfl) h0
  obtain ⟨vp1, vm1, vq1, rfl, hm1, hr1⟩ := open_wkI (hval 1 _ v1 rfl rfl) h1
  by_cases hb : vm1 ≤ 1048576 ∧ vm0 ≤ 1048576
  · obtain ⟨hf0, hf1⟩ := hb
    obtain ⟨a0, rfl, hv0⟩ := hr0 (by omega)
    obtain ⟨a1, rfl, hv1⟩ := hr1 (by omega)
    have hl : ((if isVal n0 a0 a1 then a0 else []).length + (if isVal n0 a0 a1 then a1 else []).length) ≤ 1000 := by
      cases h : isVal n0 a0 a1
      · simp
      · unfold isVal at h
        rw [Bool.and_eq_true, Bool.and_eq_true, decide_eq_true_eq] at h
        obtain ⟨b, e, _, h8, _⟩ := (isPos_iff _ _).1 h.1
        have : a0.length = b.length := by rw [e, zs_length]
        simp only [if_true]
        omega
    exact (lawBoxValuesOf n0 a0 _ a1 _ _ _ _ _ hl (fun v u w hv hu => (specBoxValues_any n0 a0 a1 v u w hv hu).mono (fun e w' h => by
        obtain ⟨va, vb, rfl, ho, k⟩ := h
        exact ⟨va, vb, rfl, ho.1.ints (by omega), ho.2.1.ints (by omega), k⟩)) (fun v u w hv hu => implBoxValues_any n0 a0 a1 v u w hv hu) W hv0 hv1 (by omega) (by omega)).mono fin
  · exact (lawBoxValuesOfBig n0 vp0 vm0 vq0 vp1 vm1 vq1 W hm0 hm1 hb).mono fin
theorem boxValuesOf_holds : Rows.FnExactBoxValuesOfSaid :=
  OpenClaim.holds_of_wide 3 Try.f3 rfl rfl rfl rfl rfl rfl rfl ⟨rfl, rfl, rfl, rfl, rfl⟩ rfl rfl rfl rfl rfl (by kernel_rfl) Try.func3 (by kernel_rfl)
    (of_decide_eq_true (by kernel_rfl)) (by unfold Func.isWrapper; first | (rw [if_pos (by decide +kernel)]; kernel_rfl) | (rw [if_neg (by decide +kernel)]; exact ⟨rfl, rfl⟩))
    (fun os started H enc _ => boxValuesOf_lifted os started H enc)
end Go.Proofs.Ytolepbiepebclaa
