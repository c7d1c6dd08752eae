import Derived.Test.YtfmmajgkjkmghaaGreatDoorHIMD
import Derived.Test.YtfmmajgkjkmghaaGreatDoorHRB
import Derived.ChangeMaps5
/- FnIntermediateAxioms answers true for every input: an axiom of an intermediate logic is valid on an order exactly if the order is one of the logic, and its rooted images are, too. The table of names is laid by the program's own text. -/
namespace Go.Proofs.YtfmmajgkjkmghaaGreatDoor
open Go.ChangeShapes Go.WideShapes Go.ChangeAt Go.RowKit
theorem gNames : Tryz.prog.globalNamed "loop.example/g01089/impl.intermediateNames" = some 1 := by kernel_rfl
theorem gNamesType : (Tryz.prog.globals[1]?).map (·.type) = some 48 := by kernel_rfl
theorem cellsNames : Tryz.prog.cellsOf 48 = 9 := by kernel_rfl
theorem cellsString : Tryz.prog.cellsOf 9 = 1 := by kernel_rfl
theorem tableNames {W : World} (h : laidMetH Tryz.prog Rows.fnIntermediateAxiomsRow.laid W) : LaidS 1 names9 W := by
 have := laidS_of_head (P := Tryz.prog) (W := W) (ss := [[66, 68, 50], [66, 68, 51], [66, 87, 50], [66, 87, 51], [67, 76], [73, 110, 116], [75, 67], [76, 67], [83, 109, 76]]) (rest := [("loop.example/g01089/impl.intermediateAxioms", Rows.laid_loop_example_g01089_impl_intermediateAxioms)]) gNames gNamesType Tryz.underlying48 Tryz.underlying9 cellsString cellsNames h
 intro i hi
 have h9 : i < 9 := hi
 have h1 := this i h9
 rw [h1]
 match i, h9 with
 | 0, _ => rfl
 | 1, _ => rfl
 | 2, _ => rfl
 | 3, _ => rfl
 | 4, _ => rfl
 | 5, _ => rfl
 | 6, _ => rfl
 | 7, _ => rfl
 | 8, _ => rfl
theorem gAxioms : Tryz.prog.globalNamed "loop.example/g01089/impl.intermediateAxioms" = some 0 := by kernel_rfl
theorem gAxiomsType : (Tryz.prog.globals[0]?).map (·.type) = some 48 := by kernel_rfl
theorem laidS_of_second {P : Program} {W : World} {name : String} {ss : List (List UInt8)} {x : String × DataW Unit} {rest : List (String × DataW Unit)} {g : Nat} {t e : TypeId} {n : Nat}
  (hg : P.globalNamed name = some g) (hty : (P.globals[g]?).map (·.type) = some t) (ht : P.underlying t = some (.array n e)) (he : P.underlying e = some .string) (hce : P.cellsOf e = 1) (hct : P.cellsOf t = n)
  (h : laidMet P (x :: (name, .agg (ss.map fun s => .lit (.string s))) :: rest) W) : ∀ i (hi : i < ss.length), W.cell? ⟨g, i, none⟩ = some (.string ⟨ss[i].toArray⟩) := by
 obtain ⟨ps, ⟨_, _, _, _, _, _, _, _, _, _, ⟨g', t', cs, fuel, p, q, hg', ht', hvar, hd, _, _⟩, _⟩, _⟩ := h
 obtain rfl := Option.some.inj (hg.symm.trans hg')
 obtain rfl := Option.some.inj (hty.symm.trans ht')
 intro i hi
 have h1 := cells_of_strs ht he hce hct hd i hi
 have := World.var?_cell hg hvar i
 rw [this]
 simpa using h1
theorem tableAxioms {W : World} (h : laidMetH Tryz.prog Rows.fnIntermediateAxiomsRow.laid W) : LaidS 0 texts9 W := by
 have := laidS_of_second (P := Tryz.prog) (W := W) (x := ("loop.example/g01089/impl.intermediateNames", Rows.laid_loop_example_g01089_impl_intermediateNames)) (ss := [[112, 124, 40, 112, 62, 113, 124, 126, 113, 41], [112, 124, 40, 112, 62, 113, 124, 40, 113, 62, 114, 124, 126, 114, 41, 41], [40, 112, 62, 113, 124, 114, 41, 124, 40, 113, 62, 112, 124, 114, 41, 124, 40, 114, 62, 112, 124, 113, 41], [40, 112, 62, 113, 124, 114, 124, 115, 41, 124, 40, 113, 62, 112, 124, 114, 124, 115, 41, 124, 40, 114, 62, 112, 124, 113, 124, 115, 41, 124, 40, 115, 62, 112, 124, 113, 124, 114, 41], [112, 124, 126, 112], [84], [126, 112, 124, 126, 126, 112], [40, 112, 62, 113, 41, 124, 40, 113, 62, 112, 41], [112, 124, 40, 112, 62, 113, 41, 124, 126, 113]]) (rest := []) gAxioms gAxiomsType Tryz.underlying48 Tryz.underlying9 cellsString cellsNames h
 intro i hi
 have h9 : i < 9 := hi
 have h1 := this i h9
 rw [h1]
 match i, h9 with
 | 0, _ => rfl
 | 1, _ => rfl
 | 2, _ => rfl
 | 3, _ => rfl
 | 4, _ => rfl
 | 5, _ => rfl
 | 6, _ => rfl
 | 7, _ => rfl
 | 8, _ => rfl
def layS (vs : Array Value) : Obj → Obj
 | .cells _ t frozen => .cells vs t frozen
 | o => o
set_option maxRecDepth 100000 in
theorem intermediateAxioms_contract (H : Type) (enc : TypeId × Value → H) (W : World) (base : Nat) (args : Array Value) (ds gs : List (DataW H)) (before : List MemPlace)
  (hval : ∀ (j : Nat) t v, Tryz.f3.params[j]? = some t → args[j]? = some v → Value.okWide Tryz.prog W .any base t v)
  (hW : DataW.Whole enc Tryz.prog Tryz.f3.params.toList Rows.fnIntermediateAxiomsSpec.vars false W args.toList ds gs before) (hL : laidMetH Tryz.prog Rows.fnIntermediateAxiomsRow.laid W) :
  Calls Tryz.prog 3 args W fun e W' => ∃ v, e = .returned v ∧ Rows.fnIntermediateAxiomsSpec.post enc Tryz.prog Tryz.f3 false true false false W args v W' := by
 have hW' := hW
 obtain ⟨p, q, hA0, hV, rfl, hfz, hnd⟩ := hW
 have hA : DataW.TrodAll enc Tryz.prog W 0 (fun _ => true) true Tryz.f3.params.toList args.toList ds p := hA0
 rw [Tryz.params3] at hA hval
 obtain ⟨v0, d0, rfl, rfl, h0⟩ := trodAll_one hA
 have hV0 := hV
 obtain ⟨g1, g2, rfl⟩ : ∃ g1 g2, gs = [g1, g2] := by
  cases gs with
  | nil => simp [DataW.TrodVars, Rows.fnIntermediateAxiomsSpec] at hV
  | cons g gs => cases gs with
   | nil => simp [DataW.TrodVars, Rows.fnIntermediateAxiomsSpec] at hV
   | cons g' gs => cases gs with
    | nil => exact ⟨g, g', rfl⟩
    | cons g'' gs => simp [DataW.TrodVars, Rows.fnIntermediateAxiomsSpec] at hV
 have fin : ∀ e W', (e = Ending.returned (.bool true) ∧ Keeps W W') → ∃ v, e = .returned v ∧ Rows.fnIntermediateAxiomsSpec.post enc Tryz.prog Tryz.f3 false true false false W #[v0] v W' := by
  intro e W' ⟨he, hk⟩
  subst he
  exact ⟨_, rfl, lawPostV hW' rfl rfl (by rw [Tryz.params3]; intro t ht; simp at ht; subst ht; exact ⟨by kernel_rfl, of_decide_eq_true (by kernel_rfl)⟩)
   (fun n hn g t h1 h2 => by
    have hn' : n = "loop.example/g01089/impl.intermediateNames" ∨ n = "loop.example/g01089/impl.intermediateAxioms" := by simpa [Rows.fnIntermediateAxiomsSpec] using hn
    rcases hn' with hn' | hn'
    ·obtain rfl := var_type hn' gNames gNamesType h1 h2
     exact ⟨by kernel_rfl, of_decide_eq_true (by kernel_rfl)⟩
    ·obtain rfl := var_type hn' gAxioms gAxiomsType h1 h2
     exact ⟨by kernel_rfl, of_decide_eq_true (by kernel_rfl)⟩) hk⟩
 have hN := tableNames hL
 have hX := tableAxioms hL
 obtain ⟨p0, n0, q0, rfl, _, hb0⟩ := open_bytes (hval 0 _ v0 rfl rfl) h0
 exact (lawIntermediateAxioms _ n0 W hb0 hN hX).mono fin
noncomputable def laidWorld (os : Os) : World :=
 { World.holding Tryz.prog os ⟨#[], #[], []⟩ with heap := ((World.holding Tryz.prog os ⟨#[], #[], []⟩).heap.modify 1 (layS #[.string ⟨#[66, 68, 50]⟩, .string ⟨#[66, 68, 51]⟩, .string ⟨#[66, 87, 50]⟩, .string ⟨#[66, 87, 51]⟩, .string ⟨#[67, 76]⟩, .string ⟨#[73, 110, 116]⟩, .string ⟨#[75, 67]⟩, .string ⟨#[76, 67]⟩, .string ⟨#[83, 109, 76]⟩])).modify 0 (layS #[.string ⟨#[112, 124, 40, 112, 62, 113, 124, 126, 113, 41]⟩, .string ⟨#[112, 124, 40, 112, 62, 113, 124, 40, 113, 62, 114, 124, 126, 114, 41, 41]⟩, .string ⟨#[40, 112, 62, 113, 124, 114, 41, 124, 40, 113, 62, 112, 124, 114, 41, 124, 40, 114, 62, 112, 124, 113, 41]⟩, .string ⟨#[40, 112, 62, 113, 124, 114, 124, 115, 41, 124, 40, 113, 62, 112, 124, 114, 124, 115, 41, 124, 40, 114, 62, 112, 124, 113, 124, 115, 41, 124, 40, 115, 62, 112, 124, 113, 124, 114, 41]⟩, .string ⟨#[112, 124, 126, 112]⟩, .string ⟨#[84]⟩, .string ⟨#[126, 112, 124, 126, 126, 112]⟩, .string ⟨#[40, 112, 62, 113, 41, 124, 40, 113, 62, 112, 41]⟩, .string ⟨#[112, 124, 40, 112, 62, 113, 41, 124, 126, 113]⟩]) }
theorem laid_met (os : Os) : laidMet Tryz.prog Rows.fnIntermediateAxiomsRow.laid ((laidWorld os).forCall (fun _ _ => 0) ⟨#[], #[.slice none 0 0], []⟩).memory :=
 laidMet_of_run' 8 (by kernel_rfl) (by kernel_rfl)
theorem reads (os : Os) {H : Type} (enc : TypeId × Value → H) : ∃ places, DataW.whole enc Tryz.prog ((laidWorld os).forCall (fun _ _ => 0) ⟨#[], #[.slice none 0 0], []⟩).memory Tryz.f3.params.toList Rows.fnIntermediateAxiomsSpec.vars false (#[.slice none 0 0] : Array Value).toList 8 = some ([.nil], [Rows.laid_loop_example_g01089_impl_intermediateNames, Rows.laid_loop_example_g01089_impl_intermediateAxioms], places) :=
 ⟨MemPlace.row ⟨1, 0, none⟩ 9 ++ MemPlace.row ⟨0, 0, none⟩ 9, by kernel_rfl⟩
set_option maxRecDepth 100000 in
theorem lifted (os : Os) (started : os.Started) (H : Type) (enc : TypeId × Value → H) (F : Stop.Interp) :
  ReturnsInHanded {} Tryz.checked os 3 .any ((OpenSpec.ofChange Rows.fnIntermediateAxiomsSpec).preRow enc Tryz.prog Tryz.f3 Rows.fnIntermediateAxiomsRow.domain false Rows.fnIntermediateAxiomsRow.laid) (((OpenSpec.ofChange Rows.fnIntermediateAxiomsSpec).at F).post enc Tryz.prog Tryz.f3 false true false false) := by
 obtain ⟨places, hx⟩ := reads os enc
 refine returnsInHanded_of_row (C := Tryz.checked) (s := OpenSpec.ofChange Rows.fnIntermediateAxiomsSpec) own started (by kernel_rfl) Tryz.func3
  (witness_row_at (enc := enc) (C := Tryz.checked) false (laidWorld os) #[.slice none 0 0] rfl (by kernel_rfl) (by kernel_rfl) (by kernel_rfl)
   (OpenSpec.preRow_of_cond 8 hx (by kernel_rfl) (fun k hk => by cases hk) (by kernel_rfl) (laid_met os))) ?_
 intro W base args ds gs before hval hW _ _ _ hL _ _
 exact intermediateAxioms_contract H enc W base args ds gs before hval hW hL
theorem intermediateAxioms_named : Tryz.pinned.checked.prog.funcNamed Rows.fnIntermediateAxiomsRow.func = some 3 := by kernel_rfl
theorem intermediateAxioms_facts : joinedFacts Tryz.pinned.checked.prog 3 Tryz.f3 Rows.fnIntermediateAxiomsSpec Rows.fnIntermediateAxiomsRow = true := by kernel_rfl
theorem intermediateAxioms_inst : Tryz.f3.isInstance Tryz.pinned.checked.prog Rows.fnIntermediateAxiomsRow.origin Rows.fnIntermediateAxiomsRow.targs := of_decide_eq_true (by kernel_rfl)
theorem intermediateAxioms_wrap : Tryz.f3.isWrapper Tryz.pinned.checked.prog Rows.fnIntermediateAxiomsRow.wrapper Rows.fnIntermediateAxiomsRow.mainSum := by unfold Func.isWrapper; first | (rw [if_pos (by decide +kernel)]; kernel_rfl) | (rw [if_neg (by decide +kernel)]; exact ⟨rfl, rfl⟩)
theorem said : Rows.FnIntermediateAxiomsSaid :=
 OpenClaim.holds_of_cond 3 Tryz.f3 rfl rfl rfl rfl rfl rfl rfl ⟨rfl, rfl, rfl, rfl, rfl⟩ rfl rfl rfl rfl rfl intermediateAxioms_named Tryz.func3 intermediateAxioms_facts
  intermediateAxioms_inst intermediateAxioms_wrap
  (fun os started H enc _ F => by rw [OpenClaim.pre_eq_preRow]; exact lifted os started H enc F)
theorem plainCard (f : FuncId) (fn : Func) (hf : Tryz.pinned.checked.prog.funcNamed "loop.example/g01089/laws.FnIntermediateAxioms" = some f) (hfn : Tryz.pinned.checked.prog.funcs[f]? = some fn) :
  false = Tryz.pinned.checked.prog.looks [] ∧ ∀ (j : Nat) t, fn.params[j]? = some t → Tryz.pinned.checked.prog.wantsStandIn t = false := by
 obtain rfl : f = 3 := Option.some.inj ((show Tryz.prog.funcNamed "loop.example/g01089/laws.FnIntermediateAxioms" = some 3 by kernel_rfl).symm.trans hf) |>.symm
 obtain rfl : fn = Tryz.f3 := (Option.some.inj (Tryz.func3.symm.trans hfn)).symm
 refine ⟨by kernel_rfl, fun j t ht => ?_⟩
 rw [Tryz.params3] at ht
 obtain rfl : t = 22 := by simpa using Array.mem_of_getElem? ht
 exact (show Tryz.prog.wantsStandIn 22 = false by kernel_rfl)
theorem intermediateAxioms_card : Rows.FnIntermediateAxiomsCardSaid :=
 Claim7.holds_tied_plain_at .later [] _ _ _ _ said (fun _ h => by cases h) (by kernel_rfl) (fun _ h => by cases h) fnIntermediateAxioms_row_tie rfl ⟨rfl, rfl⟩ (by kernel_rfl) rfl plainCard (by kernel_rfl)
end Go.Proofs.YtfmmajgkjkmghaaGreatDoor
