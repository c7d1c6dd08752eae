import Derived.Test.YtikooimokfbffaaGreatDoorHRB
import Derived.Test.YtikooimokfbffaaGreatDoorHRV
import Derived.ChangeMaps5
import Derived.Test.YtikooimokfbffaaGreatDoorHR
/- FnTheorems answers true for every input: a theorem of a logic is valid on its posets, theorems of a logic are theorems of those it is below, and all theorems are classical ones. The table of names is laid by the program's own text. -/
namespace Go.Proofs.YtikooimokfbffaaGreatDoor
open Go.ChangeShapes Go.WideShapes Go.ChangeAt Go.RowKit
theorem gNames : Tryz.prog.globalNamed "loop.example/g01089/impl.intermediateNames" = some 1 := by kernel_rfl
theorem gNamesType : (Tryz.prog.globals[1]?).map (·.type) = some 80 := by kernel_rfl
theorem cellsNames : Tryz.prog.cellsOf 80 = 9 := by kernel_rfl
theorem cellsString : Tryz.prog.cellsOf 9 = 1 := by kernel_rfl
theorem tableNames {W : World} (h : laidMetH Tryz.prog Rows.fnTheoremsRow.laid W) : LaidS 1 names9 W := by
 have := laidS_of_head (P := Tryz.prog) (W := W) (ss := [[66, 68, 50], [66, 68, 51], [66, 87, 50], [66, 87, 51], [67, 76], [73, 110, 116], [75, 67], [76, 67], [83, 109, 76]]) (rest := []) gNames gNamesType Tryz.underlying80 Tryz.underlying9 cellsString cellsNames h
 intro i hi
 have h9 : i < 9 := hi
 have h1 := this i h9
 rw [h1]
 match i, h9 with
 | 0, _ => rfl
 | 1, _ => rfl
 | 2, _ => rfl
 | 3, _ => rfl
 | 4, _ => rfl
 | 5, _ => rfl
 | 6, _ => rfl
 | 7, _ => rfl
 | 8, _ => rfl
set_option maxRecDepth 100000 in
theorem theorems_contract (H : Type) (enc : TypeId × Value → H) (W : World) (base : Nat) (args : Array Value) (ds gs : List (DataW H)) (before : List MemPlace)
  (hval : ∀ (j : Nat) t v, Tryz.f5.params[j]? = some t → args[j]? = some v → Value.okWide Tryz.prog W .any base t v)
  (hW : DataW.Whole enc Tryz.prog Tryz.f5.params.toList Rows.fnTheoremsSpec.vars false W args.toList ds gs before) (hL : laidMetH Tryz.prog Rows.fnTheoremsRow.laid W) :
  Calls Tryz.prog 5 args W fun e W' => ∃ v, e = .returned v ∧ Rows.fnTheoremsSpec.post enc Tryz.prog Tryz.f5 false true false false W args v W' := by
 have hW' := hW
 obtain ⟨p, q, hA0, hV, rfl, hfz, hnd⟩ := hW
 have hA : DataW.TrodAll enc Tryz.prog W 0 (fun _ => true) true Tryz.f5.params.toList args.toList ds p := hA0
 rw [Tryz.params5] at hA hval
 obtain ⟨v0, d0, rfl, rfl, h0⟩ := trodAll_one hA
 have hV0 := hV
 obtain ⟨g, rfl⟩ : ∃ g, gs = [g] := by
  cases gs with
  | nil => simp [DataW.TrodVars, Rows.fnTheoremsSpec] at hV
  | cons g gs => cases gs with
   | nil => exact ⟨g, rfl⟩
   | cons g' gs => simp [DataW.TrodVars, Rows.fnTheoremsSpec] at hV
 have fin : ∀ e W', (e = Ending.returned (.bool true) ∧ Keeps W W') → ∃ v, e = .returned v ∧ Rows.fnTheoremsSpec.post enc Tryz.prog Tryz.f5 false true false false W #[v0] v W' := by
  intro e W' ⟨he, hk⟩
  subst he
  exact ⟨_, rfl, lawPostV hW' rfl rfl (by rw [Tryz.params5]; intro t ht; simp at ht; subst ht; exact ⟨by kernel_rfl, of_decide_eq_true (by kernel_rfl)⟩)
   (fun n hn g t h1 h2 => by
    have hn' : n = "loop.example/g01089/impl.intermediateNames" := by simpa [Rows.fnTheoremsSpec] using hn
    obtain rfl := var_type hn' gNames gNamesType h1 h2
    exact ⟨by kernel_rfl, of_decide_eq_true (by kernel_rfl)⟩) hk⟩
 have hN := tableNames hL
 obtain ⟨p0, n0, q0, rfl, _, hb0⟩ := open_bytes (hval 0 _ v0 rfl rfl) h0
 exact (lawTheorems _ n0 W hb0 hN).mono fin
noncomputable def laidWorld (os : Os) : World :=
 { World.holding Tryz.prog os ⟨#[], #[], []⟩ with heap := (World.holding Tryz.prog os ⟨#[], #[], []⟩).heap.modify 1 fun
   | .cells _ t frozen => .cells #[.string ⟨#[66, 68, 50]⟩, .string ⟨#[66, 68, 51]⟩, .string ⟨#[66, 87, 50]⟩, .string ⟨#[66, 87, 51]⟩, .string ⟨#[67, 76]⟩, .string ⟨#[73, 110, 116]⟩, .string ⟨#[75, 67]⟩, .string ⟨#[76, 67]⟩, .string ⟨#[83, 109, 76]⟩] t frozen
   | o => o }
theorem laid_met (os : Os) : laidMet Tryz.prog Rows.fnTheoremsRow.laid ((laidWorld os).forCall (fun _ _ => 0) ⟨#[], #[.slice none 0 0], []⟩).memory :=
 laidMet_of_run' 8 (by kernel_rfl) (by kernel_rfl)
theorem reads (os : Os) {H : Type} (enc : TypeId × Value → H) : ∃ places, DataW.whole enc Tryz.prog ((laidWorld os).forCall (fun _ _ => 0) ⟨#[], #[.slice none 0 0], []⟩).memory Tryz.f5.params.toList Rows.fnTheoremsSpec.vars false (#[.slice none 0 0] : Array Value).toList 8 = some ([.nil], [Rows.laid_loop_example_g01089_impl_intermediateNames], places) :=
 ⟨MemPlace.row ⟨1, 0, none⟩ 9, by kernel_rfl⟩
set_option maxRecDepth 100000 in
theorem lifted (os : Os) (started : os.Started) (H : Type) (enc : TypeId × Value → H) (F : Stop.Interp) :
  ReturnsInHanded {} Tryz.checked os 5 .any ((OpenSpec.ofChange Rows.fnTheoremsSpec).preRow enc Tryz.prog Tryz.f5 Rows.fnTheoremsRow.domain false Rows.fnTheoremsRow.laid) (((OpenSpec.ofChange Rows.fnTheoremsSpec).at F).post enc Tryz.prog Tryz.f5 false true false false) := by
 obtain ⟨places, hx⟩ := reads os enc
 refine returnsInHanded_of_row (C := Tryz.checked) (s := OpenSpec.ofChange Rows.fnTheoremsSpec) own started (by kernel_rfl) Tryz.func5
  (witness_row_at (enc := enc) (C := Tryz.checked) false (laidWorld os) #[.slice none 0 0] rfl (by kernel_rfl) (by kernel_rfl) (by kernel_rfl)
   (OpenSpec.preRow_of_cond 8 hx (by kernel_rfl) (fun k hk => by cases hk) (by kernel_rfl) (laid_met os))) ?_
 intro W base args ds gs before hval hW _ _ _ hL _ _
 exact theorems_contract H enc W base args ds gs before hval hW hL
theorem theorems_named : Tryz.pinned.checked.prog.funcNamed Rows.fnTheoremsRow.func = some 5 := by kernel_rfl
theorem theorems_facts : joinedFacts Tryz.pinned.checked.prog 5 Tryz.f5 Rows.fnTheoremsSpec Rows.fnTheoremsRow = true := by kernel_rfl
theorem theorems_inst : Tryz.f5.isInstance Tryz.pinned.checked.prog Rows.fnTheoremsRow.origin Rows.fnTheoremsRow.targs := of_decide_eq_true (by kernel_rfl)
theorem theorems_wrap : Tryz.f5.isWrapper Tryz.pinned.checked.prog Rows.fnTheoremsRow.wrapper Rows.fnTheoremsRow.mainSum := by unfold Func.isWrapper; first | (rw [if_pos (by decide +kernel)]; kernel_rfl) | (rw [if_neg (by decide +kernel)]; exact ⟨rfl, rfl⟩)
theorem said : Rows.FnTheoremsSaid :=
 OpenClaim.holds_of_cond 5 Tryz.f5 rfl rfl rfl rfl rfl rfl rfl ⟨rfl, rfl, rfl, rfl, rfl⟩ rfl rfl rfl rfl rfl theorems_named Tryz.func5 theorems_facts
  theorems_inst theorems_wrap
  (fun os started H enc _ F => by rw [OpenClaim.pre_eq_preRow]; exact lifted os started H enc F)
theorem plainCard (f : FuncId) (fn : Func) (hf : Tryz.pinned.checked.prog.funcNamed "loop.example/g01089/laws.FnTheorems" = some f) (hfn : Tryz.pinned.checked.prog.funcs[f]? = some fn) :
  false = Tryz.pinned.checked.prog.looks [] ∧ ∀ (j : Nat) t, fn.params[j]? = some t → Tryz.pinned.checked.prog.wantsStandIn t = false := by
 obtain rfl : f = 5 := Option.some.inj ((show Tryz.prog.funcNamed "loop.example/g01089/laws.FnTheorems" = some 5 by kernel_rfl).symm.trans hf) |>.symm
 obtain rfl : fn = Tryz.f5 := (Option.some.inj (Tryz.func5.symm.trans hfn)).symm
 refine ⟨by kernel_rfl, fun j t ht => ?_⟩
 rw [Tryz.params5] at ht
 obtain rfl : t = 30 := by simpa using Array.mem_of_getElem? ht
 exact (show Tryz.prog.wantsStandIn 30 = false by kernel_rfl)
theorem theorems_card : Rows.FnTheoremsCardSaid :=
 Claim7.holds_tied_plain_at .later [] _ _ _ _ said (fun _ h => by cases h) (by kernel_rfl) (fun _ h => by cases h) fnTheorems_row_tie rfl ⟨rfl, rfl⟩ (by kernel_rfl) rfl plainCard (by kernel_rfl)
end Go.Proofs.YtikooimokfbffaaGreatDoor
