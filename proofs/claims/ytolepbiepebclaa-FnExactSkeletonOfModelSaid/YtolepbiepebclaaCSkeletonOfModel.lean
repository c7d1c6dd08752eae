/- FnExactSkeletonOfModel answers true for every input: the program's SkeletonOfModel returns what the reference's returns. No condition. -/
import Derived.Test.YtolepbiepebclaaQP
import Derived.Test.YtolepbiepebclaaR3
import Derived.Test.YtolepbiepebclaaLQ
namespace Go.Proofs.Ytolepbiepebclaa
open Go.ChangeShapes Go.WideShapes Go.ChangeAt Go.RowKit

set_option maxRecDepth 100000 in
theorem skeletonOfModel_lifted (os : Os) (started : os.Started) (H : Type) (enc : TypeId × Value → H) :
    ReturnsInHanded {} Try.checked os 4 .any (Rows.fnExactSkeletonOfModelSpec.pre6 enc Try.prog Try.f4 Rows.fnExactSkeletonOfModelRow.domain false) (Rows.fnExactSkeletonOfModelSpec.post enc Try.prog Try.f4 false true false false) := by
  refine returnsInHanded_of_change (C := Try.checked) own started (by kernel_rfl) Try.func4
    (ChangeSpec.witness6 (enc := enc) (C := Try.checked) false ⟨#[], #[.agg #[.int .i64 0, .slice none 0 0, .slice none 0 0]], []⟩ 8 (by kernel_rfl) (by kernel_rfl) (by kernel_rfl) (by kernel_rfl)) ?_
  intro W base args ds gs before hval0 hW hcnd _
  have hval : ∀ (j : Nat) t v, Try.f4.params[j]? = some t → args[j]? = some v → Value.okWide Try.prog W .any base t v := hval0
  have hW' := hW
  obtain ⟨p, q, hA0, hV, rfl, hfz, hnd⟩ := hW
  have hA : DataW.TrodAll enc Try.prog W 0 (fun _ => true) true Try.f4.params.toList args.toList ds p := hA0
  rw [Try.params4] at hA hval
  obtain ⟨v0, d0, rfl, rfl, h0⟩ := trodAll_one hA
  obtain ⟨rfl, rfl⟩ := trodVars_none hV
  have fin : ∀ e W', (e = Ending.returned (.bool true) ∧ Keeps W W') → ∃ v, e = Ending.returned v ∧ Rows.fnExactSkeletonOfModelSpec.post enc Try.checked.prog Try.f4 false true false false W #[v0] v W' := by
    intro e W' ⟨he, hk⟩
    subst he
    exact ⟨_, rfl, lawPost hW' rfl rfl (by kernel_rfl) (by rw [Try.params4]; intro t ht; simp at ht; subst ht; exact ⟨by kernel_rfl, of_decide_eq_true (by kernel_rfl)⟩) hk⟩
  obtain ⟨n0, y0, z0, rfl, ⟨vp0, vm0, vq0, rfl, hm0, hr0⟩, ⟨up0, um0, uq0, rfl, hl0, hs0⟩⟩ := open_model (hval 0 _ v0 rfl rfl) h0
  by_cases hb : vm0 + um0 ≤ 1048576
  · have hf0 := hb
    obtain ⟨a0, rfl, hv0⟩ := hr0 (by omega)
    obtain ⟨b0, rfl, hu0⟩ := hs0 (by omega)
    have hl : (skP n0 a0 b0).length + (skV n0 a0 b0).length + (skC n0 a0 b0).length ≤ 1000 := by
      unfold skP skV skC
      cases h : skOk n0 a0 b0
      · simp
      · unfold skOk isMod at h
        rw [Bool.and_eq_true, Bool.and_eq_true, Bool.and_eq_true, decide_eq_true_eq] at h
        obtain ⟨b, e, _, h8, _⟩ := (isFra_iff _ _).1 h.1.1
        have h6 := h.1.2.1
        subst e
        simp only [if_true, zs_toNat, zs_length, List.length_map, qL_len, clB_len]
        have := clS_le b b.length
        omega
    exact (lawSkeletonOfModel n0 a0 b0 _ _ _ _ _ _ _ hl (fun v u w hv hu => (specSkeleton_any n0 a0 b0 v u w hv hu).mono (fun e w' h => by
        obtain ⟨r0, r1, r2, rfl, h0, h1, h2, _, _, _, k⟩ := h
        exact ⟨r0, r1, r2, rfl, h0.ints (by omega), h1.ints (by omega), h2.ints (by omega), k⟩)) (fun v u w hv hu => implSkeleton_any n0 a0 b0 v u w hv hu) W hv0 hu0 (by omega)).mono fin
  · exact (lawSkeletonOfModelBig n0 vp0 vm0 vq0 up0 um0 uq0 W hm0 hl0 hb).mono fin
theorem skeletonOfModel_holds : Rows.FnExactSkeletonOfModelSaid :=
  OpenClaim.holds_of_wide 4 Try.f4 rfl rfl rfl rfl rfl rfl rfl ⟨rfl, rfl, rfl, rfl, rfl⟩ rfl rfl rfl rfl rfl (by kernel_rfl) Try.func4 (by kernel_rfl)
    (of_decide_eq_true (by kernel_rfl)) (by unfold Func.isWrapper; first | (rw [if_pos (by decide +kernel)]; kernel_rfl) | (rw [if_neg (by decide +kernel)]; exact ⟨rfl, rfl⟩))
    (fun os started H enc _ => skeletonOfModel_lifted os started H enc)
end Go.Proofs.Ytolepbiepebclaa
