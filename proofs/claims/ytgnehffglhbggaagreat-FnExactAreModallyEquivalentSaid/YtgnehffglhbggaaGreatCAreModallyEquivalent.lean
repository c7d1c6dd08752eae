/- FnExactAreModallyEquivalent answers true for every input: the program's AreModallyEquivalent returns what the reference's returns. No condition. -/
import Derived.Test.YtgnehffglhbggaaGreatGR2
import Derived.Test.YtgnehffglhbggaaGreatGLW2
import Derived.ChangeMaps5
import Derived.Test.YtgnehffglhbggaaGreatGL4
namespace Go.Proofs.YtgnehffglhbggaaGreat
open Go.ChangeShapes Go.WideShapes Go.ChangeAt Go.RowKit

set_option maxRecDepth 100000 in
theorem areModallyEquivalent_lifted (os : Os) (started : os.Started) (H : Type) (enc : TypeId × Value → H) :
    ReturnsInHanded {} Tryz.checked os 6 .any (Rows.fnExactAreModallyEquivalentSpec.pre6 enc Tryz.prog Tryz.f6 Rows.fnExactAreModallyEquivalentRow.domain false) (Rows.fnExactAreModallyEquivalentSpec.post enc Tryz.prog Tryz.f6 false true false false) := by
  refine returnsInHanded_of_change (C := Tryz.checked) own started (by kernel_rfl) Tryz.func6
    (ChangeSpec.witness6 (enc := enc) (C := Tryz.checked) false ⟨#[], #[.string ⟨#[]⟩, .slice none 0 0, .slice none 0 0], []⟩ 8 (by kernel_rfl) (by kernel_rfl) (by kernel_rfl) (by kernel_rfl)) ?_
  intro W base args ds gs before hval0 hW hcnd _
  have hval : ∀ (j : Nat) t v, Tryz.f6.params[j]? = some t → args[j]? = some v → Value.okWide Tryz.prog W .any base t v := hval0
  have hW' := hW
  obtain ⟨p, q, hA0, hV, rfl, hfz, hnd⟩ := hW
  have hA : DataW.TrodAll enc Tryz.prog W 0 (fun _ => true) true Tryz.f6.params.toList args.toList ds p := hA0
  rw [Tryz.params6] at hA hval
  obtain ⟨v0, v1, v2, d0, d1, d2, p0, p1, p2, rfl, rfl, rfl, h0, h1, h2⟩ := trodAll_three hA
  obtain ⟨rfl, rfl⟩ := trodVars_none hV
  have fin : ∀ e W', (e = Ending.returned (.bool true) ∧ Keeps W W') → ∃ v, e = Ending.returned v ∧ Rows.fnExactAreModallyEquivalentSpec.post enc Tryz.checked.prog Tryz.f6 false true false false W #[v0, v1, v2] v W' := by
    intro e W' ⟨he, hk⟩
    subst he
    exact ⟨_, rfl, lawPost hW' rfl rfl (by kernel_rfl) (by rw [Tryz.params6]; intro t ht; simp at ht; first | (rcases ht with rfl | rfl <;> exact ⟨by kernel_rfl, of_decide_eq_true (by kernel_rfl)⟩) | (rcases ht with rfl | rfl | rfl <;> exact ⟨by kernel_rfl, of_decide_eq_true (by kernel_rfl)⟩)) hk⟩
  obtain ⟨s, rfl, rfl, rfl, hms⟩ := Go.ChangeMaps.open_string Tryz.underlying9 (hval 0 _ v0 rfl rfl) h0
  have o0 := open_wkN (hval 1 _ v1 rfl rfl) h1
  have o1 := open_wkN (hval 2 _ v2 rfl rfl) h2
  by_cases hlen : s.size ≤ 1048576
  · rcases szN_weak o0 (1048576) (by omega) (by omega) with ⟨a0, hv0, hs0⟩ | hb
    · rcases szN_weak o1 (1048576 - (a0.length : Int)) (by omega) (by omega) with ⟨a1, hv1, hs1⟩ | hb
      · obtain ⟨b, c, hS, hI⟩ := bothEquivalent s a0 a1
        exact (lawAreModallyEquivalent s a0 _ a1 _ b c (fun v u w h h1 => hS v u w h h1) (fun v u w h h1 => hI v u w h h1) hlen W hv0 hv1 (by omega)).mono fin
      · obtain ⟨p1, n1, q1, rfl, _⟩ := o1
        exact (lawAreModallyEquivalentBig1 s a0 _ _ _ _ hlen W hv0 (by omega) hb).mono fin
    · obtain ⟨p0, n0, q0, rfl, _⟩ := o0
      obtain ⟨p1, n1, q1, rfl, _⟩ := o1
      exact (lawAreModallyEquivalentBig0 s _ _ _ _ _ _ hlen W hb).mono fin
  · obtain ⟨p0, n0, q0, rfl, _⟩ := o0
    obtain ⟨p1, n1, q1, rfl, _⟩ := o1
    exact (lawAreModallyEquivalentBigS s _ _ _ _ _ _ W hlen).mono fin
theorem areModallyEquivalent_holds : Rows.FnExactAreModallyEquivalentSaid :=
  OpenClaim.holds_of_wide 6 Tryz.f6 rfl rfl rfl rfl rfl rfl rfl ⟨rfl, rfl, rfl, rfl, rfl⟩ rfl rfl rfl rfl rfl (by kernel_rfl) Tryz.func6 (by kernel_rfl)
    (of_decide_eq_true (by kernel_rfl)) (by unfold Func.isWrapper; first | (rw [if_pos (by decide +kernel)]; kernel_rfl) | (rw [if_neg (by decide +kernel)]; exact ⟨rfl, rfl⟩))
    (fun os started H enc _ => areModallyEquivalent_lifted os started H enc)
end Go.Proofs.YtgnehffglhbggaaGreat
