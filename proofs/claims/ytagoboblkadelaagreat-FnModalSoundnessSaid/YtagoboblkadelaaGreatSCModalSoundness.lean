import Derived.Test.YtagoboblkadelaaGreatZTP
/- own -/
namespace Go.Proofs.YtagoboblkadelaaGreat
open Go.ChangeShapes Go.WideShapes Go.ChangeAt Go.RowKit
set_option maxRecDepth 100000 in
theorem jT (os:Os) (started:os.Started) (H:Type) (enc:TypeId×Value→H):
  ReturnsInHanded {} Tryz.checked os 3 .any (Rows.fnModalSoundnessSpec.pre6 enc Tryz.prog Tryz.f3 Rows.fnModalSoundnessRow.domain false) (Rows.fnModalSoundnessSpec.post enc Tryz.prog Tryz.f3 false true false false):=by
 refine returnsInHanded_of_change (C:=Tryz.checked) own started qA Tryz.func3
  (ChangeSpec.witness6 (enc:=enc) (C:=Tryz.checked) false ⟨#[],#[.slice none 0 0],[]⟩ 8 qA qA qA qA) ?_
 intro W base args ds gs before h9 hW x7 _
 have eE:∀ (j:Nat) t v,Tryz.f3.params[j]? = some t→args[j]? = some v→Value.okWide Tryz.prog W .any base t v:=h9
 have hW':=hW;obtain⟨p,q,x6,hV,rfl,x8,x9⟩:=hW;have hA:DataW.TrodAll enc Tryz.prog W 0 (fun _=>true) true Tryz.f3.params.toList args.toList ds p:=x6;rw[Tryz.params3] at hA eE;obtain⟨v0,d0,rfl,rfl,h0⟩:=trodAll_one hA;obtain⟨rfl,rfl⟩:=trodVars_none hV
 have fin:∀ e W',(e=Ending.returned (.bool true)∧aa W W')→∃ v,e=Ending.returned v∧Rows.fnModalSoundnessSpec.post enc Tryz.checked.prog Tryz.f3 false true false false W #[v0] v W':=by
  intro e W' ⟨he,hk⟩;subst he;exact⟨_,rfl,Gf hW' rfl rfl qA (by rw[Tryz.params3];intro t ht;simp at ht;subst ht;exact⟨qA,of_decide_eq_true qA⟩) hk⟩
 obtain⟨p0,n0,q0,rfl,_,hb⟩:=Am (eE 0 _ v0 rfl rfl) h0;exact(mO _ n0 W hb).mono fin
theorem kF:Tryz.pinned.checked.prog.funcNamed Rows.fnModalSoundnessRow.func=some 3:=qA
theorem kv:joinedFacts Tryz.pinned.checked.prog 3 Tryz.f3 Rows.fnModalSoundnessSpec Rows.fnModalSoundnessRow=true:=qA
theorem lP:Tryz.f3.isInstance Tryz.pinned.checked.prog Rows.fnModalSoundnessRow.origin Rows.fnModalSoundnessRow.targs:=of_decide_eq_true qA
theorem lQ:Tryz.f3.isWrapper Tryz.pinned.checked.prog Rows.fnModalSoundnessRow.wrapper Rows.fnModalSoundnessRow.mainSum:=by unfold Func.isWrapper;first | (rw[if_pos (by decide +kernel)];kernel_rfl) | (rw[if_neg (by decide +kernel)];exact⟨rfl,rfl⟩)
theorem modalSoundness_holds:Rows.FnModalSoundnessSaid:=
 OpenClaim.holds_of_wide 3 Tryz.f3 rfl rfl rfl rfl rfl rfl rfl ⟨rfl,rfl,rfl,rfl,rfl⟩ rfl rfl rfl rfl rfl kF Tryz.func3 kv
  lP lQ
  (fun os started H enc _=>jT os started H enc)
end Go.Proofs.YtagoboblkadelaaGreat
