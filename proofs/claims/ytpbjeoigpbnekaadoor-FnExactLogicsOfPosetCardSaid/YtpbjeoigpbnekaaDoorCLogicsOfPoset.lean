/- FnExactLogicsOfPoset answers true for every input: the program's LogicsOfPoset returns what the reference's returns. The table of names is laid by the program's own text. -/
import Derived.Test.YtpbjeoigpbnekaaDoorGOF
import Derived.Test.YtpbjeoigpbnekaaDoorGVC0
import Derived.ChangeMaps5
namespace Go.Proofs.YtpbjeoigpbnekaaDoor
open Go.ChangeShapes Go.WideShapes Go.ChangeAt Go.RowKit

theorem gNames : Tryd.prog.globalNamed "loop.example/g01089/impl.intermediateNames" = some 0 := by kernel_rfl
theorem gNamesType : (Tryd.prog.globals[0]?).map (·.type) = some 60 := by kernel_rfl
theorem cellsNames : Tryd.prog.cellsOf 60 = 9 := by kernel_rfl
theorem cellsString : Tryd.prog.cellsOf 9 = 1 := by kernel_rfl
theorem tableNames {W : World} (h : laidMetH Tryd.prog Rows.fnExactLogicsOfPosetRow.laid W) : LaidS 0 names9 W := by
  have := laidS_of_head (P := Tryd.prog) (W := W) (ss := [[66, 68, 50], [66, 68, 51], [66, 87, 50], [66, 87, 51], [67, 76], [73, 110, 116], [75, 67], [76, 67], [83, 109, 76]]) (rest := []) gNames gNamesType Tryd.underlying60 Tryd.underlying9 cellsString cellsNames h
  intro i hi
  have h9 : i < 9 := hi
  have h1 := this i h9
  rw [h1]
  match i, h9 with
  | 0, _ => rfl
  | 1, _ => rfl
  | 2, _ => rfl
  | 3, _ => rfl
  | 4, _ => rfl
  | 5, _ => rfl
  | 6, _ => rfl
  | 7, _ => rfl
  | 8, _ => rfl
set_option maxRecDepth 100000 in
theorem logicsOfPoset_contract (H : Type) (enc : TypeId × Value → H) (W : World) (base : Nat) (args : Array Value) (ds gs : List (DataW H)) (before : List MemPlace)
    (hval : ∀ (j : Nat) t v, Tryd.f4.params[j]? = some t → args[j]? = some v → Value.okWide Tryd.prog W .any base t v)
    (hW : DataW.Whole enc Tryd.prog Tryd.f4.params.toList Rows.fnExactLogicsOfPosetSpec.vars false W args.toList ds gs before) (hL : laidMetH Tryd.prog Rows.fnExactLogicsOfPosetRow.laid W) :
    Calls Tryd.prog 4 args W fun e W' => ∃ v, e = .returned v ∧ Rows.fnExactLogicsOfPosetSpec.post enc Tryd.prog Tryd.f4 false true false false W args v W' := by
  have hW' := hW
  obtain ⟨p, q, hA0, hV, rfl, hfz, hnd⟩ := hW
  have hA : DataW.TrodAll enc Tryd.prog W 0 (fun _ => true) true Tryd.f4.params.toList args.toList ds p := hA0
  rw [Tryd.params4] at hA hval
  obtain ⟨v0, d0, rfl, rfl, h0⟩ := trodAll_one hA
  have hV0 := hV
  obtain ⟨g, rfl⟩ : ∃ g, gs = [g] := by
    cases gs with
    | nil => simp [DataW.TrodVars, Rows.fnExactLogicsOfPosetSpec] at hV
    | cons g gs => cases gs with
      | nil => exact ⟨g, rfl⟩
      | cons g' gs => simp [DataW.TrodVars, Rows.fnExactLogicsOfPosetSpec] at hV
  have fin : ∀ e W', (e = Ending.returned (.bool true) ∧ Keeps W W') → ∃ v, e = .returned v ∧ Rows.fnExactLogicsOfPosetSpec.post enc Tryd.prog Tryd.f4 false true false false W #[v0] v W' := by
    intro e W' ⟨he, hk⟩
    subst he
    exact ⟨_, rfl, lawPostV hW' rfl rfl (by rw [Tryd.params4]; intro t ht; simp at ht; subst ht; exact ⟨by kernel_rfl, of_decide_eq_true (by kernel_rfl)⟩)
      (fun n hn g t h1 h2 => by
        have hn' : n = "loop.example/g01089/impl.intermediateNames" := by simpa [Rows.fnExactLogicsOfPosetSpec] using hn
        obtain rfl := var_type hn' gNames gNamesType h1 h2
        exact ⟨by kernel_rfl, of_decide_eq_true (by kernel_rfl)⟩) hk⟩
  have hN := tableNames hL
  obtain ⟨n0, y0, rfl, vp0, vm0, vq0, rfl, hm0, hr0⟩ := open_poset (hval 0 _ v0 rfl rfl) h0
  by_cases hb : vm0 ≤ 1048576
  · have hf0 := hb
    obtain ⟨a0, rfl, hv0⟩ := hr0 (by omega)
    have hl := loR_len n0 a0
    exact (lawLogicsOfPoset n0 a0 _ _ _ (by omega) (fun v w hv _ => (specLogicsOfPoset n0 a0 v w hv).mono (fun e w' h => by
        obtain ⟨r, rfl, h0, k⟩ := h
        exact ⟨r, rfl, h0.strs (by omega), k⟩)) (fun v w hv hL => implLogicsOfPoset n0 a0 v w hv hL) W hv0 (by omega) hN).mono fin
  · exact (lawLogicsOfPosetBig n0 vp0 vm0 vq0 W hm0 hb).mono fin

noncomputable def laidWorld (os : Os) : World :=
  { World.holding Tryd.prog os ⟨#[], #[], []⟩ with heap := (World.holding Tryd.prog os ⟨#[], #[], []⟩).heap.modify 0 fun
      | .cells _ t frozen => .cells #[.string ⟨#[66, 68, 50]⟩, .string ⟨#[66, 68, 51]⟩, .string ⟨#[66, 87, 50]⟩, .string ⟨#[66, 87, 51]⟩, .string ⟨#[67, 76]⟩, .string ⟨#[73, 110, 116]⟩, .string ⟨#[75, 67]⟩, .string ⟨#[76, 67]⟩, .string ⟨#[83, 109, 76]⟩] t frozen
      | o => o }
theorem laid_met (os : Os) : laidMet Tryd.prog Rows.fnExactLogicsOfPosetRow.laid ((laidWorld os).forCall (fun _ _ => 0) ⟨#[], #[.agg #[.int .i64 0, .slice none 0 0]], []⟩).memory :=
  laidMet_of_run' 8 (by kernel_rfl) (by kernel_rfl)
theorem reads (os : Os) {H : Type} (enc : TypeId × Value → H) : ∃ places, DataW.whole enc Tryd.prog ((laidWorld os).forCall (fun _ _ => 0) ⟨#[], #[.agg #[.int .i64 0, .slice none 0 0]], []⟩).memory Tryd.f4.params.toList Rows.fnExactLogicsOfPosetSpec.vars false (#[.agg #[.int .i64 0, .slice none 0 0]] : Array Value).toList 8 = some ([.agg [.lit (.int .i64 0), .nil]], [Rows.laid_loop_example_g01089_impl_intermediateNames], places) :=
  ⟨MemPlace.row ⟨0, 0, none⟩ 9, by kernel_rfl⟩
set_option maxRecDepth 100000 in
theorem lifted (os : Os) (started : os.Started) (H : Type) (enc : TypeId × Value → H) (F : Stop.Interp) :
    ReturnsInHanded {} Tryd.checked os 4 .any ((OpenSpec.ofChange Rows.fnExactLogicsOfPosetSpec).preRow enc Tryd.prog Tryd.f4 Rows.fnExactLogicsOfPosetRow.domain false Rows.fnExactLogicsOfPosetRow.laid) (((OpenSpec.ofChange Rows.fnExactLogicsOfPosetSpec).at F).post enc Tryd.prog Tryd.f4 false true false false) := by
  obtain ⟨places, hx⟩ := reads os enc
  refine returnsInHanded_of_row (C := Tryd.checked) (s := OpenSpec.ofChange Rows.fnExactLogicsOfPosetSpec) own started (by kernel_rfl) Tryd.func4
    (witness_row_at (enc := enc) (C := Tryd.checked) false (laidWorld os) #[.agg #[.int .i64 0, .slice none 0 0]] rfl (by kernel_rfl) (by kernel_rfl) (by kernel_rfl)
      (OpenSpec.preRow_of_cond 8 hx (by kernel_rfl) (fun k hk => by cases hk) (by kernel_rfl) (laid_met os))) ?_
  intro W base args ds gs before hval hW _ _ _ hL _ _
  exact logicsOfPoset_contract H enc W base args ds gs before hval hW hL
theorem said : Rows.FnExactLogicsOfPosetSaid :=
  OpenClaim.holds_of_cond 4 Tryd.f4 rfl rfl rfl rfl rfl rfl rfl ⟨rfl, rfl, rfl, rfl, rfl⟩ rfl rfl rfl rfl rfl (by kernel_rfl) Tryd.func4 (by kernel_rfl)
    (of_decide_eq_true (by kernel_rfl)) (by unfold Func.isWrapper; first | (rw [if_pos (by decide +kernel)]; kernel_rfl) | (rw [if_neg (by decide +kernel)]; exact ⟨rfl, rfl⟩))
    (fun os started H enc _ F => by rw [OpenClaim.pre_eq_preRow]; exact lifted os started H enc F)
theorem plainCard (f : FuncId) (fn : Func) (hf : Tryd.pinned.checked.prog.funcNamed "loop.example/g01089/laws.FnExactLogicsOfPoset" = some f) (hfn : Tryd.pinned.checked.prog.funcs[f]? = some fn) :
    false = Tryd.pinned.checked.prog.looks [] ∧ ∀ (j : Nat) t, fn.params[j]? = some t → Tryd.pinned.checked.prog.wantsStandIn t = false := by
  obtain rfl : f = 4 := Option.some.inj ((show Tryd.prog.funcNamed "loop.example/g01089/laws.FnExactLogicsOfPoset" = some 4 by kernel_rfl).symm.trans hf) |>.symm
  obtain rfl : fn = Tryd.f4 := (Option.some.inj (Tryd.func4.symm.trans hfn)).symm
  refine ⟨by kernel_rfl, fun j t ht => ?_⟩
  rw [Tryd.params4] at ht
  obtain rfl : t = 24 := by simpa using Array.mem_of_getElem? ht
  exact (show Tryd.prog.wantsStandIn 24 = false by kernel_rfl)
theorem logicsOfPoset_card : Rows.FnExactLogicsOfPosetCardSaid :=
  Claim7.holds_tied_plain_at .later [] _ _ _ _ said (fun _ h => by cases h) (by kernel_rfl) (fun _ h => by cases h) fnExactLogicsOfPoset_row_tie rfl ⟨rfl, rfl⟩ (by kernel_rfl) rfl plainCard (by kernel_rfl)
end Go.Proofs.YtpbjeoigpbnekaaDoor
