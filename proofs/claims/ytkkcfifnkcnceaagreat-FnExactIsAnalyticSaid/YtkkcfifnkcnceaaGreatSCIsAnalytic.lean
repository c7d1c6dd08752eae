import Derived.Test.YtkkcfifnkcnceaaGreatHRS
/- FnExactIsAnalytic answers true for every input: the program's IsAnalytic returns what the reference's returns. No condition. -/
namespace Go.Proofs.YtkkcfifnkcnceaaGreat
open Go.ChangeShapes Go.WideShapes Go.ChangeAt Go.RowKit
set_option maxRecDepth 100000 in
theorem isAnalytic_lifted (os : Os) (started : os.Started) (H : Type) (enc : TypeId × Value → H) :
  ReturnsInHanded {} Tryz.checked os 4 .any (Rows.fnExactIsAnalyticSpec.pre6 enc Tryz.prog Tryz.f4 Rows.fnExactIsAnalyticRow.domain false) (Rows.fnExactIsAnalyticSpec.post enc Tryz.prog Tryz.f4 false true false false) := by
 refine returnsInHanded_of_change (C := Tryz.checked) own started (by kernel_rfl) Tryz.func4
  (ChangeSpec.witness6 (enc := enc) (C := Tryz.checked) false ⟨#[], #[.string ⟨#[]⟩, .slice none 0 0], []⟩ 8 (by kernel_rfl) (by kernel_rfl) (by kernel_rfl) (by kernel_rfl)) ?_
 intro W base args ds gs before hval0 hW hcnd _
 have hval : ∀ (j : Nat) t v, Tryz.f4.params[j]? = some t → args[j]? = some v → Value.okWide Tryz.prog W .any base t v := hval0
 have hW' := hW
 obtain ⟨p, q, hA0, hV, rfl, hfz, hnd⟩ := hW
 have hA : DataW.TrodAll enc Tryz.prog W 0 (fun _ => true) true Tryz.f4.params.toList args.toList ds p := hA0
 rw [Tryz.params4] at hA hval
 obtain ⟨v0, v1, d0, d1, p0, p1, rfl, rfl, rfl, h0, h1⟩ := trodAll_two hA
 obtain ⟨rfl, rfl⟩ := trodVars_none hV
 have fin : ∀ e W', (e = Ending.returned (.bool true) ∧ Keeps W W') → ∃ v, e = Ending.returned v ∧ Rows.fnExactIsAnalyticSpec.post enc Tryz.checked.prog Tryz.f4 false true false false W #[v0, v1] v W' := by
  intro e W' ⟨he, hk⟩
  subst he
  exact ⟨_, rfl, lawPost hW' rfl rfl (by kernel_rfl) (by rw [Tryz.params4]; intro t ht; simp at ht; rcases ht with rfl | rfl <;> exact ⟨by kernel_rfl, of_decide_eq_true (by kernel_rfl)⟩) hk⟩
 obtain ⟨s0, rfl, rfl, rfl, hm0⟩ := Go.ChangeMaps.open_string Tryz.underlying9 (hval 0 _ v0 rfl rfl) h0
 obtain ⟨q0, n0, c0, rfl, hn0, hw0⟩ := open_steps (hval 1 _ v1 rfl rfl) h1
 by_cases hb : s0.size ≤ 1048576 ∧ n0 ≤ 2147483648 ∧ ∃ xs : List StW, xs.length = n0 ∧ StLw W (.slice q0 n0 c0) xs ∧ szW xs ≤ 1048576
 ·obtain ⟨hs0, hn1, xs, _, hxs, hz⟩ := hb
  obtain ⟨steps, hr, hM, hl⟩ := hxs.read hz
  exact (lawIsAnalytic s0 xs steps _ W hxs hz hr hM hl hs0).mono fin
 ·refine (lawIsAnalyticBig s0 q0 n0 c0 W hm0 hn0 hw0 ?_).mono fin
  by_cases h2 : 1048576 < s0.size
  ·exact .inl h2
  ·by_cases h3 : 2147483648 < n0
   ·exact .inr (.inl h3)
   ·refine .inr (.inr fun xs hx hxs => ?_)
    by_cases h4 : 1048576 < szW xs
    ·exact h4
    ·exact absurd ⟨by omega, by omega, xs, hx, hxs, by omega⟩ hb
theorem isAnalytic_named : Tryz.pinned.checked.prog.funcNamed Rows.fnExactIsAnalyticRow.func = some 4 := by kernel_rfl
theorem isAnalytic_facts : joinedFacts Tryz.pinned.checked.prog 4 Tryz.f4 Rows.fnExactIsAnalyticSpec Rows.fnExactIsAnalyticRow = true := by kernel_rfl
theorem isAnalytic_inst : Tryz.f4.isInstance Tryz.pinned.checked.prog Rows.fnExactIsAnalyticRow.origin Rows.fnExactIsAnalyticRow.targs := of_decide_eq_true (by kernel_rfl)
theorem isAnalytic_wrap : Tryz.f4.isWrapper Tryz.pinned.checked.prog Rows.fnExactIsAnalyticRow.wrapper Rows.fnExactIsAnalyticRow.mainSum := by unfold Func.isWrapper; first | (rw [if_pos (by decide +kernel)]; kernel_rfl) | (rw [if_neg (by decide +kernel)]; exact ⟨rfl, rfl⟩)
theorem isAnalytic_holds : Rows.FnExactIsAnalyticSaid :=
 OpenClaim.holds_of_wide 4 Tryz.f4 rfl rfl rfl rfl rfl rfl rfl ⟨rfl, rfl, rfl, rfl, rfl⟩ rfl rfl rfl rfl rfl isAnalytic_named Tryz.func4 isAnalytic_facts
  isAnalytic_inst isAnalytic_wrap
  (fun os started H enc _ => isAnalytic_lifted os started H enc)
end Go.Proofs.YtkkcfifnkcnceaaGreat
