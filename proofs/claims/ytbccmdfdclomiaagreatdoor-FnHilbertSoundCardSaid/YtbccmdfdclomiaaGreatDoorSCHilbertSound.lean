import Derived.Test.YtbccmdfdclomiaaGreatDoorHLSH
import Derived.ChangeMaps5
/- own -/
namespace Go.Proofs.YtbccmdfdclomiaaGreatDoor
set_option maxRecDepth 100000
open Go.ChangeShapes Go.WideShapes Go.ChangeAt Go.RowKit
theorem gNames:Tryz.prog.globalNamed "loop.example/g01089/impl.schemeTexts" = some 0:=by kernel_rfl
theorem gNamesType:(Tryz.prog.globals[0]?).map (·.type)=some 136:=by kernel_rfl
theorem cellsNames:Tryz.prog.cellsOf 136=19:=by kernel_rfl
theorem cellsString:Tryz.prog.cellsOf 9=1:=by kernel_rfl
theorem tableNames {W:World} (h:laidMetH Tryz.prog Rows.fnHilbertSoundRow.laid W):LaidS 0 texts19 W:=by
 have:=laidS_of_headH (P:=Tryz.prog) (W:=W) (ss:=[[112,62,113,62,112],[40,112,62,113,62,114,41,62,40,112,62,113,41,62,112,62,114],[112,38,113,62,112],[112,38,113,62,113],[112,62,113,62,112,38,113],[112,62,112,124,113],[113,62,112,124,113],[40,112,62,114,41,62,40,113,62,114,41,62,112,124,113,62,114],[70,62,112],[126,126,112,62,112],[91,93,40,112,62,113,41,62,91,93,112,62,91,93,113],[60,62,112,62,126,91,93,126,112],[126,91,93,126,112,62,60,62,112],[91,93,112,62,112],[91,93,112,62,91,93,91,93,112],[60,62,112,62,91,93,60,62,112],[112,62,91,93,60,62,112],[91,93,112,62,60,62,112],[91,93,40,91,93,112,62,112,41,62,91,93,112]]) (rest:=[]) gNames gNamesType Tryz.underlying136 Tryz.underlying9 cellsString cellsNames h;intro i hi;have h9:i<19:=hi;have h1:=this i h9;rw [h1]
 match i,h9 with
 | 0,_=>rfl
 | 1,_=>rfl
 | 2,_=>rfl
 | 3,_=>rfl
 | 4,_=>rfl
 | 5,_=>rfl
 | 6,_=>rfl
 | 7,_=>rfl
 | 8,_=>rfl
 | 9,_=>rfl
 | 10,_=>rfl
 | 11,_=>rfl
 | 12,_=>rfl
 | 13,_=>rfl
 | 14,_=>rfl
 | 15,_=>rfl
 | 16,_=>rfl
 | 17,_=>rfl
 | 18,_=>rfl
 | k+19,h=>exact absurd h (by omega)
theorem hilbertSound_contract (H:Type) (enc:TypeId×Value→H) (W:World) (base:Nat) (args:Array Value) (ds gs:List (DataW H)) (before:List MemPlace)
  (hval:∀ (j:Nat) t v,Tryz.f3.params[j]? = some t→args[j]? = some v→Value.okWide Tryz.prog W .any base t v)
  (hW:DataW.Whole enc Tryz.prog Tryz.f3.params.toList Rows.fnHilbertSoundSpec.vars false W args.toList ds gs before) (hL:laidMetH Tryz.prog Rows.fnHilbertSoundRow.laid W):
  Calls Tryz.prog 3 args W fun e W'=>∃ v,e=.returned v∧Rows.fnHilbertSoundSpec.post enc Tryz.prog Tryz.f3 false true false false W args v W':=by
 have hW':=hW;obtain ⟨p,q,hA0,hV,rfl,hfz,hnd⟩:=hW;have hA:DataW.TrodAll enc Tryz.prog W 0 (fun _=>true) true Tryz.f3.params.toList args.toList ds p:=hA0;rw [Tryz.params3] at hA hval;obtain ⟨v0,d0,rfl,rfl,h0⟩:=trodAll_one hA;have hV0:=hV
 obtain ⟨g,rfl⟩:∃ g,gs=[g]:=by
  cases gs with
  | nil=>simp [DataW.TrodVars,Rows.fnHilbertSoundSpec] at hV
  | cons g gs=>cases gs with
   | nil=>exact ⟨g,rfl⟩
   | cons g' gs=>simp [DataW.TrodVars,Rows.fnHilbertSoundSpec] at hV
 have fin:∀ e W',(e=Ending.returned (.bool true)∧Keeps W W')→∃ v,e=.returned v∧Rows.fnHilbertSoundSpec.post enc Tryz.prog Tryz.f3 false true false false W #[v0] v W':=by
  intro e W' ⟨he,hk⟩;subst he
  exact ⟨_,rfl,lawPostV hW' rfl rfl (by rw [Tryz.params3];intro t ht;simp at ht;subst ht;exact ⟨by kernel_rfl,of_decide_eq_true (by kernel_rfl)⟩)
   (fun n hn g t h1 h2=>by
    have hn':n= "loop.example/g01089/impl.schemeTexts" := by simpa [Rows.fnHilbertSoundSpec] using hn
    obtain rfl:=var_type hn' gNames gNamesType h1 h2
    exact ⟨by kernel_rfl,of_decide_eq_true (by kernel_rfl)⟩) hk⟩
 have hN:=tableNames hL;obtain ⟨p0,n0,q0,rfl,_,hb0⟩:=open_bytes (hval 0 _ v0 rfl rfl) h0;exact (lawHilbertSound _ n0 W hb0 hN).mono fin
noncomputable def laidWorld (os:Os):World:=
 { World.holding Tryz.prog os ⟨#[],#[],[]⟩ with heap:=(World.holding Tryz.prog os ⟨#[],#[],[]⟩).heap.modify 0 fun
   | .cells _ t frozen=>.cells #[.string ⟨#[112,62,113,62,112]⟩,.string ⟨#[40,112,62,113,62,114,41,62,40,112,62,113,41,62,112,62,114]⟩,.string ⟨#[112,38,113,62,112]⟩,.string ⟨#[112,38,113,62,113]⟩,.string ⟨#[112,62,113,62,112,38,113]⟩,.string ⟨#[112,62,112,124,113]⟩,.string ⟨#[113,62,112,124,113]⟩,.string ⟨#[40,112,62,114,41,62,40,113,62,114,41,62,112,124,113,62,114]⟩,.string ⟨#[70,62,112]⟩,.string ⟨#[126,126,112,62,112]⟩,.string ⟨#[91,93,40,112,62,113,41,62,91,93,112,62,91,93,113]⟩,.string ⟨#[60,62,112,62,126,91,93,126,112]⟩,.string ⟨#[126,91,93,126,112,62,60,62,112]⟩,.string ⟨#[91,93,112,62,112]⟩,.string ⟨#[91,93,112,62,91,93,91,93,112]⟩,.string ⟨#[60,62,112,62,91,93,60,62,112]⟩,.string ⟨#[112,62,91,93,60,62,112]⟩,.string ⟨#[91,93,112,62,60,62,112]⟩,.string ⟨#[91,93,40,91,93,112,62,112,41,62,91,93,112]⟩] t frozen
   | o=>o }
theorem laid_met (os:Os):laidMet Tryz.prog Rows.fnHilbertSoundRow.laid ((laidWorld os).forCall (fun _ _=>0) ⟨#[],#[.slice none 0 0],[]⟩).memory:=
 laidMet_of_run' 8 (by kernel_rfl) (by kernel_rfl)
theorem reads (os:Os) {H:Type} (enc:TypeId×Value→H):∃ places,DataW.whole enc Tryz.prog ((laidWorld os).forCall (fun _ _=>0) ⟨#[],#[.slice none 0 0],[]⟩).memory Tryz.f3.params.toList Rows.fnHilbertSoundSpec.vars false (#[.slice none 0 0]:Array Value).toList 8=some ([.nil],[Rows.laid_loop_example_g01089_impl_schemeTexts],places):=
 ⟨MemPlace.row ⟨0,0,none⟩ 19,by kernel_rfl⟩
theorem lifted (os:Os) (started:os.Started) (H:Type) (enc:TypeId×Value→H) (F:Stop.Interp):
  ReturnsInHanded {} Tryz.checked os 3 .any ((OpenSpec.ofChange Rows.fnHilbertSoundSpec).preRow enc Tryz.prog Tryz.f3 Rows.fnHilbertSoundRow.domain false Rows.fnHilbertSoundRow.laid) (((OpenSpec.ofChange Rows.fnHilbertSoundSpec).at F).post enc Tryz.prog Tryz.f3 false true false false):=by
 obtain ⟨places,hx⟩:=reads os enc
 refine returnsInHanded_of_row (C:=Tryz.checked) (s:=OpenSpec.ofChange Rows.fnHilbertSoundSpec) own started (by kernel_rfl) Tryz.func3
  (witness_row_at (enc:=enc) (C:=Tryz.checked) false (laidWorld os) #[.slice none 0 0] rfl (by kernel_rfl) (by kernel_rfl) (by kernel_rfl)
   (OpenSpec.preRow_of_cond 8 hx (by kernel_rfl) (fun k hk=>by cases hk) (by kernel_rfl) (laid_met os))) ?_
 intro W base args ds gs before hval hW _ _ _ hL _ _;exact hilbertSound_contract H enc W base args ds gs before hval hW hL
theorem hilbertSound_named:Tryz.pinned.checked.prog.funcNamed Rows.fnHilbertSoundRow.func=some 3:=by kernel_rfl
theorem hilbertSound_facts:joinedFacts Tryz.pinned.checked.prog 3 Tryz.f3 Rows.fnHilbertSoundSpec Rows.fnHilbertSoundRow=true:=by kernel_rfl
theorem hilbertSound_inst:Tryz.f3.isInstance Tryz.pinned.checked.prog Rows.fnHilbertSoundRow.origin Rows.fnHilbertSoundRow.targs:=of_decide_eq_true (by kernel_rfl)
theorem hilbertSound_wrap:Tryz.f3.isWrapper Tryz.pinned.checked.prog Rows.fnHilbertSoundRow.wrapper Rows.fnHilbertSoundRow.mainSum:=by unfold Func.isWrapper;first | (rw [if_pos (by decide +kernel)];kernel_rfl) | (rw [if_neg (by decide +kernel)];exact ⟨rfl,rfl⟩)
theorem said:Rows.FnHilbertSoundSaid:=
 OpenClaim.holds_of_cond 3 Tryz.f3 rfl rfl rfl rfl rfl rfl rfl ⟨rfl,rfl,rfl,rfl,rfl⟩ rfl rfl rfl rfl rfl hilbertSound_named Tryz.func3 hilbertSound_facts
  hilbertSound_inst hilbertSound_wrap
  (fun os started H enc _ F=>by rw [OpenClaim.pre_eq_preRow];exact lifted os started H enc F)
theorem plainCard (f:FuncId) (fn:Func) (hf:Tryz.pinned.checked.prog.funcNamed "loop.example/g01089/laws.FnHilbertSound" = some f) (hfn:Tryz.pinned.checked.prog.funcs[f]? = some fn):
  false=Tryz.pinned.checked.prog.looks []∧∀ (j:Nat) t,fn.params[j]? = some t→Tryz.pinned.checked.prog.wantsStandIn t=false:=by
 obtain rfl:f=3:=Option.some.inj ((show Tryz.prog.funcNamed "loop.example/g01089/laws.FnHilbertSound" = some 3 by kernel_rfl).symm.trans hf) |>.symm
 obtain rfl:fn=Tryz.f3:=(Option.some.inj (Tryz.func3.symm.trans hfn)).symm;refine ⟨by kernel_rfl,fun j t ht=>?_⟩;rw [Tryz.params3] at ht
 obtain rfl:t=22:=by simpa using Array.mem_of_getElem? ht
 exact (show Tryz.prog.wantsStandIn 22=false by kernel_rfl)
theorem hilbertSound_card:Rows.FnHilbertSoundCardSaid:=
 Claim7.holds_tied_plain_at .later [] _ _ _ _ said (fun _ h=>by cases h) (by kernel_rfl) (fun _ h=>by cases h) fnHilbertSound_row_tie rfl ⟨rfl,rfl⟩ (by kernel_rfl) rfl plainCard (by kernel_rfl)
end Go.Proofs.YtbccmdfdclomiaaGreatDoor
