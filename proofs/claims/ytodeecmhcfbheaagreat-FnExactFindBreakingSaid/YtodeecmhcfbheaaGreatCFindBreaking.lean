/- FnExactFindBreaking answers true for every input: the program's FindBreaking returns what the reference's returns. No condition. -/
import Derived.Test.YtodeecmhcfbheaaGreatGLF
import Derived.Test.YtodeecmhcfbheaaGreatGR2
import Derived.Test.YtodeecmhcfbheaaGreatGZJ
namespace Go.Proofs.YtodeecmhcfbheaaGreat
open Go.ChangeShapes Go.WideShapes Go.ChangeAt Go.RowKit

set_option maxRecDepth 100000 in
theorem findBreaking_lifted (os : Os) (started : os.Started) (H : Type) (enc : TypeId × Value → H) :
    ReturnsInHanded {} Tryz.checked os 6 .any (Rows.fnExactFindBreakingSpec.pre6 enc Tryz.prog Tryz.f6 Rows.fnExactFindBreakingRow.domain false) (Rows.fnExactFindBreakingSpec.post enc Tryz.prog Tryz.f6 false true false false) := by
  refine returnsInHanded_of_change (C := Tryz.checked) own started (by kernel_rfl) Tryz.func6
    (ChangeSpec.witness6 (enc := enc) (C := Tryz.checked) false ⟨#[], #[.agg #[.slice none 0 0, .slice none 0 0], .slice none 0 0], []⟩ 8 (by kernel_rfl) (by kernel_rfl) (by kernel_rfl) (by kernel_rfl)) ?_
  intro W base args ds gs before hval0 hW hcnd _
  have hval : ∀ (j : Nat) t v, Tryz.f6.params[j]? = some t → args[j]? = some v → Value.okWide Tryz.prog W .any base t v := hval0
  have hW' := hW
  obtain ⟨p, q, hA0, hV, rfl, hfz, hnd⟩ := hW
  have hA : DataW.TrodAll enc Tryz.prog W 0 (fun _ => true) true Tryz.f6.params.toList args.toList ds p := hA0
  rw [Tryz.params6] at hA hval
  obtain ⟨v0, v1, d0, d1, p0, p1, rfl, rfl, rfl, h0, h1⟩ := trodAll_two hA
  obtain ⟨rfl, rfl⟩ := trodVars_none hV
  have fin : ∀ e W', (e = Ending.returned (.bool true) ∧ Keeps W W') → ∃ v, e = Ending.returned v ∧ Rows.fnExactFindBreakingSpec.post enc Tryz.checked.prog Tryz.f6 false true false false W #[v0, v1] v W' := by
    intro e W' ⟨he, hk⟩
    subst he
    exact ⟨_, rfl, lawPost hW' rfl rfl (by kernel_rfl) (by rw [Tryz.params6]; intro t ht; simp at ht; rcases ht with rfl | rfl <;> exact ⟨by kernel_rfl, of_decide_eq_true (by kernel_rfl)⟩) hk⟩
  obtain ⟨x0, y0, rfl, o0, o0'⟩ := open_rule (hval 0 _ v0 rfl rfl) h0
  have o1 := open_wkL (hval 1 _ v1 rfl rfl) h1
  rcases szR_weak o0 o0' (1048576) (by omega) (by omega) with ⟨xs0, c0, hv0, hu0, hs0⟩ | hb
  · rcases szL_weak o1 (1048576 - (xs0.length : Int) - (tot xs0 : Int) - (c0.length : Int)) (by omega) (by omega) with ⟨l1, hv1, hs1⟩ | hb
    · obtain ⟨r, k, h1, h2, hS, hI⟩ := bothFindR xs0 c0 l1 (by omega)
      exact (lawFindBreaking xs0 c0 _ _ l1 _ r k h1 h2 (fun v u v1 w h h' h1 => hS v u v1 w h h' h1) (fun v u v1 w h h' h1 => hI v u v1 w h h' h1) W hv0 hu0 hv1 (by omega)).mono fin
    · obtain ⟨p1, n1, q1, rfl, _⟩ := o1
      exact (lawFindBreakingBig1 xs0 c0 _ _ _ _ _ W hv0 hu0 (by omega) hb).mono fin
  · obtain ⟨p0, n0, q0, rfl, _⟩ := o0
    obtain ⟨r0, m0, z0, rfl, _⟩ := o0'
    obtain ⟨p1, n1, q1, rfl, _⟩ := o1
    exact (lawFindBreakingBig0  _ _ _ _ _ _ _ _ _ W  hb).mono fin
theorem findBreaking_holds : Rows.FnExactFindBreakingSaid :=
  OpenClaim.holds_of_wide 6 Tryz.f6 rfl rfl rfl rfl rfl rfl rfl ⟨rfl, rfl, rfl, rfl, rfl⟩ rfl rfl rfl rfl rfl (by kernel_rfl) Tryz.func6 (by kernel_rfl)
    (of_decide_eq_true (by kernel_rfl)) (by unfold Func.isWrapper; first | (rw [if_pos (by decide +kernel)]; kernel_rfl) | (rw [if_neg (by decide +kernel)]; exact ⟨rfl, rfl⟩))
    (fun os started H enc _ => findBreaking_lifted os started H enc)
end Go.Proofs.YtodeecmhcfbheaaGreat
