/- FnExactIntermediateAxiom answers true for every input: the program's IntermediateAxiom returns what the reference's returns. The tables of names and axioms are laid by the program's own text. -/
import Derived.Test.YtffjmnimnmmemaaDoorS2
import Derived.Test.YtffjmnimnmmemaaDoorRD
import Derived.ChangeMaps5
namespace Go.Proofs.YtffjmnimnmmemaaDoor
open Go.ChangeShapes Go.WideShapes Go.ChangeAt Go.RowKit

theorem gNames : Tryd.prog.globalNamed "loop.example/g01089/impl.intermediateNames" = some 1 := by kernel_rfl
theorem gNamesType : (Tryd.prog.globals[1]?).map (·.type) = some 47 := by kernel_rfl
theorem cellsNames : Tryd.prog.cellsOf 47 = 9 := by kernel_rfl
theorem cellsString : Tryd.prog.cellsOf 9 = 1 := by kernel_rfl
theorem gAxioms : Tryd.prog.globalNamed "loop.example/g01089/impl.intermediateAxioms" = some 0 := by kernel_rfl
theorem gAxiomsType : (Tryd.prog.globals[0]?).map (·.type) = some 47 := by kernel_rfl
theorem laidS_of_second {P : Program} {W : World} {name : String} {ss : List (List UInt8)} {x : String × DataW Unit} {rest : List (String × DataW Unit)} {g : Nat} {t e : TypeId} {n : Nat}
    (hg : P.globalNamed name = some g) (hty : (P.globals[g]?).map (·.type) = some t) (ht : P.underlying t = some (.array n e)) (he : P.underlying e = some .string) (hce : P.cellsOf e = 1) (hct : P.cellsOf t = n)
    (h : laidMet P (x :: (name, .agg (ss.map fun s => .lit (.string s))) :: rest) W) : ∀ i (hi : i < ss.length), W.cell? ⟨g, i, none⟩ = some (.string ⟨ss[i].toArray⟩) := by
  obtain ⟨ps, ⟨_, _, _, _, _, _, _, _, _, _, ⟨g', t', cs, fuel, p, q, hg', ht', hvar, hd, _, _⟩, _⟩, _⟩ := h
  obtain rfl := Option.some.inj (hg.symm.trans hg')
  obtain rfl := Option.some.inj (hty.symm.trans ht')
  intro i hi
  have h1 := cells_of_strs ht he hce hct hd i hi
  have := World.var?_cell hg hvar i
  rw [this]
  simpa using h1
theorem tables {W : World} (h : laidMetH Tryd.prog Rows.fnExactIntermediateAxiomRow.laid W) : LaidS 1 names9 W ∧ LaidS 0 texts9 W := by
  have h1 := laidS_of_head (P := Tryd.prog) (W := W) (ss := [[66, 68, 50], [66, 68, 51], [66, 87, 50], [66, 87, 51], [67, 76], [73, 110, 116], [75, 67], [76, 67], [83, 109, 76]]) (rest := [("loop.example/g01089/impl.intermediateAxioms", Rows.laid_loop_example_g01089_impl_intermediateAxioms)]) gNames gNamesType Tryd.underlying47 Tryd.underlying9 cellsString cellsNames h
  have h2 := laidS_of_second (P := Tryd.prog) (W := W) (x := ("loop.example/g01089/impl.intermediateNames", Rows.laid_loop_example_g01089_impl_intermediateNames)) (ss := [[112, 124, 40, 112, 62, 113, 124, 126, 113, 41], [112, 124, 40, 112, 62, 113, 124, 40, 113, 62, 114, 124, 126, 114, 41, 41], [40, 112, 62, 113, 124, 114, 41, 124, 40, 113, 62, 112, 124, 114, 41, 124, 40, 114, 62, 112, 124, 113, 41], [40, 112, 62, 113, 124, 114, 124, 115, 41, 124, 40, 113, 62, 112, 124, 114, 124, 115, 41, 124, 40, 114, 62, 112, 124, 113, 124, 115, 41, 124, 40, 115, 62, 112, 124, 113, 124, 114, 41], [112, 124, 126, 112], [84], [126, 112, 124, 126, 126, 112], [40, 112, 62, 113, 41, 124, 40, 113, 62, 112, 41], [112, 124, 40, 112, 62, 113, 41, 124, 126, 113]]) (rest := []) gAxioms gAxiomsType Tryd.underlying47 Tryd.underlying9 cellsString cellsNames h
  refine ⟨fun i hi => ?_, fun i hi => ?_⟩
  · have h9 : i < 9 := hi
    rw [h1 i h9]
    match i, h9 with
    | 0, _ => rfl
    | 1, _ => rfl
    | 2, _ => rfl
    | 3, _ => rfl
    | 4, _ => rfl
    | 5, _ => rfl
    | 6, _ => rfl
    | 7, _ => rfl
    | 8, _ => rfl
  · have h9 : i < 9 := hi
    rw [h2 i h9]
    match i, h9 with
    | 0, _ => rfl
    | 1, _ => rfl
    | 2, _ => rfl
    | 3, _ => rfl
    | 4, _ => rfl
    | 5, _ => rfl
    | 6, _ => rfl
    | 7, _ => rfl
    | 8, _ => rfl
set_option maxRecDepth 100000 in
theorem contract (H : Type) (enc : TypeId × Value → H) (W : World) (base : Nat) (args : Array Value) (ds gs : List (DataW H)) (before : List MemPlace)
    (hval : ∀ (j : Nat) t v, Tryd.f3.params[j]? = some t → args[j]? = some v → Value.okWide Tryd.prog W .any base t v)
    (hW : DataW.Whole enc Tryd.prog Tryd.f3.params.toList Rows.fnExactIntermediateAxiomSpec.vars false W args.toList ds gs before) (hL : laidMetH Tryd.prog Rows.fnExactIntermediateAxiomRow.laid W) :
    Calls Tryd.prog 3 args W fun e W' => ∃ v, e = .returned v ∧ Rows.fnExactIntermediateAxiomSpec.post enc Tryd.prog Tryd.f3 false true false false W args v W' := by
  have hW' := hW
  obtain ⟨p, q, hA0, hV, rfl, hfz, hnd⟩ := hW
  have hA : DataW.TrodAll enc Tryd.prog W 0 (fun _ => true) true Tryd.f3.params.toList args.toList ds p := hA0
  rw [Tryd.params3] at hA hval
  obtain ⟨v0, d0, rfl, rfl, h0⟩ := trodAll_one hA
  obtain ⟨s, rfl, rfl, rfl, hs⟩ := Go.ChangeMaps.open_string Tryd.underlying9 (hval 0 9 v0 rfl rfl) h0
  have hV0 := hV
  obtain ⟨g1, g2, rfl⟩ : ∃ g1 g2, gs = [g1, g2] := by
    cases gs with
    | nil => simp [DataW.TrodVars, Rows.fnExactIntermediateAxiomSpec] at hV
    | cons g gs => cases gs with
      | nil => simp [DataW.TrodVars, Rows.fnExactIntermediateAxiomSpec] at hV
      | cons g' gs => cases gs with
        | nil => exact ⟨g, g', rfl⟩
        | cons g'' gs => simp [DataW.TrodVars, Rows.fnExactIntermediateAxiomSpec] at hV
  have fin : ∀ e W', (e = Ending.returned (.bool true) ∧ Keeps W W') → ∃ v, e = .returned v ∧ Rows.fnExactIntermediateAxiomSpec.post enc Tryd.prog Tryd.f3 false true false false W #[.string s] v W' := by
    intro e W' ⟨he, hk⟩
    subst he
    exact ⟨_, rfl, lawPostV hW' rfl rfl (by rw [Tryd.params3]; intro t ht; simp at ht; subst ht; exact ⟨by kernel_rfl, of_decide_eq_true (by kernel_rfl)⟩)
      (fun n hn g t h1 h2 => by
        have hn' : n = "loop.example/g01089/impl.intermediateAxioms" ∨ n = "loop.example/g01089/impl.intermediateNames" := by simpa [Rows.fnExactIntermediateAxiomSpec] using hn
        rcases hn' with hn' | hn'
        · obtain rfl := var_type hn' gAxioms gAxiomsType h1 h2
          exact ⟨by kernel_rfl, of_decide_eq_true (by kernel_rfl)⟩
        · obtain rfl := var_type hn' gNames gNamesType h1 h2
          exact ⟨by kernel_rfl, of_decide_eq_true (by kernel_rfl)⟩) hk⟩
  obtain ⟨t1, t2⟩ := tables hL
  by_cases hz : s.size ≤ 1048576
  · exact (lawIntermediateAxiom s W t1 t2 hz).mono fin
  · exact (lawIntermediateAxiomBig s W (by omega)).mono fin

/-- an object whose cells are laid anew -/
def layS (vs : Array Value) : Obj → Obj
  | .cells _ t frozen => .cells vs t frozen
  | o => o
noncomputable def laidWorld (os : Os) : World :=
  { World.holding Tryd.prog os ⟨#[], #[], []⟩ with heap := ((World.holding Tryd.prog os ⟨#[], #[], []⟩).heap.modify 1 (layS #[.string ⟨#[66, 68, 50]⟩, .string ⟨#[66, 68, 51]⟩, .string ⟨#[66, 87, 50]⟩, .string ⟨#[66, 87, 51]⟩, .string ⟨#[67, 76]⟩, .string ⟨#[73, 110, 116]⟩, .string ⟨#[75, 67]⟩, .string ⟨#[76, 67]⟩, .string ⟨#[83, 109, 76]⟩])).modify 0 (layS #[.string ⟨#[112, 124, 40, 112, 62, 113, 124, 126, 113, 41]⟩, .string ⟨#[112, 124, 40, 112, 62, 113, 124, 40, 113, 62, 114, 124, 126, 114, 41, 41]⟩, .string ⟨#[40, 112, 62, 113, 124, 114, 41, 124, 40, 113, 62, 112, 124, 114, 41, 124, 40, 114, 62, 112, 124, 113, 41]⟩, .string ⟨#[40, 112, 62, 113, 124, 114, 124, 115, 41, 124, 40, 113, 62, 112, 124, 114, 124, 115, 41, 124, 40, 114, 62, 112, 124, 113, 124, 115, 41, 124, 40, 115, 62, 112, 124, 113, 124, 114, 41]⟩, .string ⟨#[112, 124, 126, 112]⟩, .string ⟨#[84]⟩, .string ⟨#[126, 112, 124, 126, 126, 112]⟩, .string ⟨#[40, 112, 62, 113, 41, 124, 40, 113, 62, 112, 41]⟩, .string ⟨#[112, 124, 40, 112, 62, 113, 41, 124, 126, 113]⟩]) }
theorem laid_met (os : Os) : laidMet Tryd.prog Rows.fnExactIntermediateAxiomRow.laid ((laidWorld os).forCall (fun _ _ => 0) ⟨#[], #[.string ⟨#[]⟩], []⟩).memory :=
  laidMet_of_run' 8 (by kernel_rfl) (by kernel_rfl)
theorem reads (os : Os) {H : Type} (enc : TypeId × Value → H) : ∃ places, DataW.whole enc Tryd.prog ((laidWorld os).forCall (fun _ _ => 0) ⟨#[], #[.string ⟨#[]⟩], []⟩).memory Tryd.f3.params.toList Rows.fnExactIntermediateAxiomSpec.vars false #[Value.string ⟨#[]⟩].toList 8 = some ([.lit (.string [])], [Rows.laid_loop_example_g01089_impl_intermediateAxioms, Rows.laid_loop_example_g01089_impl_intermediateNames], places) :=
  ⟨MemPlace.row ⟨0, 0, none⟩ 9 ++ MemPlace.row ⟨1, 0, none⟩ 9, by kernel_rfl⟩
set_option maxRecDepth 100000 in
theorem lifted (os : Os) (started : os.Started) (H : Type) (enc : TypeId × Value → H) (F : Stop.Interp) :
    ReturnsInHanded {} Tryd.checked os 3 .any ((OpenSpec.ofChange Rows.fnExactIntermediateAxiomSpec).preRow enc Tryd.prog Tryd.f3 Rows.fnExactIntermediateAxiomRow.domain false Rows.fnExactIntermediateAxiomRow.laid) (((OpenSpec.ofChange Rows.fnExactIntermediateAxiomSpec).at F).post enc Tryd.prog Tryd.f3 false true false false) := by
  obtain ⟨places, hx⟩ := reads os enc
  refine returnsInHanded_of_row (C := Tryd.checked) (s := OpenSpec.ofChange Rows.fnExactIntermediateAxiomSpec) own started (by kernel_rfl) Tryd.func3
    (witness_row_at (enc := enc) (C := Tryd.checked) false (laidWorld os) #[.string ⟨#[]⟩] rfl (by kernel_rfl) (by kernel_rfl) (by kernel_rfl)
      (OpenSpec.preRow_of_cond 8 hx (by kernel_rfl) (fun k hk => by cases hk) (by kernel_rfl) (laid_met os))) ?_
  intro W base args ds gs before hval hW _ _ _ hL _ _
  exact contract H enc W base args ds gs before hval hW hL
theorem said : Rows.FnExactIntermediateAxiomSaid :=
  OpenClaim.holds_of_cond 3 Tryd.f3 rfl rfl rfl rfl rfl rfl rfl ⟨rfl, rfl, rfl, rfl, rfl⟩ rfl rfl rfl rfl rfl (by kernel_rfl) Tryd.func3 (by kernel_rfl)
    (of_decide_eq_true (by kernel_rfl)) (by unfold Func.isWrapper; first | (rw [if_pos (by decide +kernel)]; kernel_rfl) | (rw [if_neg (by decide +kernel)]; exact ⟨rfl, rfl⟩))
    (fun os started H enc _ F => by rw [OpenClaim.pre_eq_preRow]; exact lifted os started H enc F)
theorem plainCard (f : FuncId) (fn : Func) (hf : Tryd.pinned.checked.prog.funcNamed "loop.example/g01089/laws.FnExactIntermediateAxiom" = some f) (hfn : Tryd.pinned.checked.prog.funcs[f]? = some fn) :
    false = Tryd.pinned.checked.prog.looks [] ∧ ∀ (j : Nat) t, fn.params[j]? = some t → Tryd.pinned.checked.prog.wantsStandIn t = false := by
  obtain rfl : f = 3 := Option.some.inj ((show Tryd.prog.funcNamed "loop.example/g01089/laws.FnExactIntermediateAxiom" = some 3 by kernel_rfl).symm.trans hf) |>.symm
  obtain rfl : fn = Tryd.f3 := (Option.some.inj (Tryd.func3.symm.trans hfn)).symm
  refine ⟨by kernel_rfl, fun j t ht => ?_⟩
  rw [Tryd.params3] at ht
  obtain rfl : t = 9 := by simpa using Array.mem_of_getElem? ht
  exact (show Tryd.prog.wantsStandIn 9 = false by kernel_rfl)
theorem intermediateAxiom_card : Rows.FnExactIntermediateAxiomCardSaid :=
  Claim7.holds_tied_plain_at .later [] _ _ _ _ said (fun _ h => by cases h) (by kernel_rfl) (fun _ h => by cases h) fnExactIntermediateAxiom_row_tie rfl ⟨rfl, rfl⟩ (by kernel_rfl) rfl plainCard (by kernel_rfl)
end Go.Proofs.YtffjmnimnmmemaaDoor
