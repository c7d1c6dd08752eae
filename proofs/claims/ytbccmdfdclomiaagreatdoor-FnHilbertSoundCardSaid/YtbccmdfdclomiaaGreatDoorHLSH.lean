import Derived.Test.YtbccmdfdclomiaaGreatDoorHAZ4
import Derived.Test.YtbccmdfdclomiaaGreatDoorHDR
import Derived.Test.YtbccmdfdclomiaaGreatDoorRows
import Derived.ProofKit
import Derived.OpenShut
import Derived.Deep.Slices
import Derived.Deep.Fields
import Derived.ChangeSame
import Derived.Lib.SmallJoins
import Derived.Test.YtbccmdfdclomiaaGreatDoorCards
import Derived.Test.YtbccmdfdclomiaaGreatDoorTie
import Derived.Deep.DeepHandedRow
/- own -/
namespace Go.Proofs.YtbccmdfdclomiaaGreatDoor
set_option maxRecDepth 100000
section
open Go.RowKit
theorem hs_facts {L:Nat} {G:List Fm} {ls:List Ln} (h:prE L (G.map Fm.enc) ls=0):
  L≤9∧fblE L (G.map Fm.enc) ls=0∧fblR L (G.map Fm.enc) ls = -1∧∃ b:Fm,hcnR L (G.map Fm.enc) ls=b.enc∧b.wf∧b.enc.length≤40∧(∀ i∈uhR L (G.map Fm.enc) ls,i<G.length)∧Fol L ((uhR L (G.map Fm.enc) ls).map fun i=>G.getD i .fls) b:=by
 obtain ⟨h1,h2,h3⟩:=pr_zero h;obtain ⟨h9,_⟩:=hcE_zero h1
 have e1:fblE L (G.map Fm.enc) ls=0:=by
  unfold fblE;rw [if_neg (by omega),if_neg (by rw [h2];decide)]
 have e2:fblR L (G.map Fm.enc) ls = -1:=by
  unfold fblR;rw [if_pos e1];exact h3
 obtain ⟨m,hm,t,hw,ht,hl⟩:=last_fm h;obtain ⟨t',e,_,hus,hfol⟩:=okL_fol h9 h3 m (by omega);rw [List.take_of_length_le (by omega:ls.length≤m+1)] at hus hfol;rw [lastL_at hm] at ht;obtain rfl:t=t':=enc_inj (ht.symm.trans e)
 have hu:uhR L (G.map Fm.enc) ls=getI [] (usP ls) (m:Int):=by
  unfold uhR;rw [if_pos h,show (ls.length:Int)-1=(m:Int) by omega]
 refine ⟨h9,e1,e2,t,?_,hw,hl,?_,?_⟩
 ·unfold hcnR
  rw [if_pos h,lastL_at hm];exact ht
 ·rw [hu];exact hus
 ·rw [hu];exact hfol
theorem uh_len (L:Nat) (H:List (List Nd)) (ls:List Ln):(uhR L H ls).length≤H.length:=by
 unfold uhR
 split
 ·rename_i h
  have:=us_all (pr_zero h).2.2 ls.length (Nat.le_refl _);rw [List.take_length] at this;exact this.len _
 ·simp
theorem isFm_treeH {a:List Nd} (h:isFm a=true):∃ t:Fm,t.wf∧a=t.enc∧a.length≤40:=by
 unfold isFm at h;simp only [Bool.and_eq_true,decide_eq_true_eq] at h;obtain ⟨t,hw,e⟩:=isTree_enc h.2;exact ⟨t,hw,e,h.1⟩
theorem drop_at {α:Type} {l:List α} {j:Nat} (h:j<l.length):l.drop j=l[j]::l.drop (j+1):=List.drop_eq_getElem_cons h
def WhR (w:World) (wv:Value) (A:List Fm) (b:Fm) (k:Nat):Prop:=Nds w wv (impsF (A.drop k) b).enc∧(impsF (A.drop k) b).wf∧(impsF (A.drop k) b).enc.length≤40
set_option maxHeartbeats 4000000 in
theorem lawHilbertSound (v:Value) (n:Nat) (w:World) (hv:Bts w v n) (hN:LaidS 0 texts19 w):
  Calls Tryz.prog 3 #[v] w fun e w'=>e=.returned (.bool true)∧Keeps w w':=by
 have HBG:=hid (big_any v n w hv);have HD:=hid (fun (h:n≤4096)=>drawUsedHypotheses_any v n w hv h);obtain ⟨p,c,rfl,_⟩:=hv;have HL:=hid hN;clear hN
 by_cases hb:4096<n
 ·rw [decide_eq_true hb] at HBG
  clear hb HD HL;go_enter Tryz.func3,Tryz.ntmps3;go_wp2_with fail;refine HBG.out.mono ?_;rintro e w' ⟨rfl,rfl⟩;go_wp2_with fail;go_ret;exact ⟨rfl,Keeps.refl _⟩
 rw [decide_eq_false hb] at HBG;have HD1:=hid (HD.out (by omega));clear HD hb;go_enter Tryz.func3,Tryz.ntmps3;go_wp2_with fail;refine HBG.out.mono ?_;rintro e w' ⟨rfl,rfl⟩;go_wp2_with fail;refine HD1.out.mono ?_;rintro e w1 ⟨L,hv1,lv1,G,ls,rfl,hL,hy,hg3,hln,hll,hla,k1⟩;have hN1:=HL.out.keeps k1
 have hM:MidLn ls:=fun x hx=>Nat.le_trans (hla x hx) (by omega)
 have hHl:(G.map Fm.enc).length≤6:=by simp;omega
 have HU1:=hid (fun wz (kz:Keeps w1 wz)=>implUsedHypotheses_any L hL hv1 lv1 _ ls hM (by omega) hHl wz (hy.keeps kz) (hln.keeps kz) (hN1.keeps kz));have HU2:=hid (fun wz (kz:Keeps w1 wz)=>specUsedHypotheses_any L hL hv1 lv1 _ ls hM (by omega) hHl wz (hy.keeps kz) (hln.keeps kz));have HF1:=hid (fun wz (kz:Keeps w1 wz)=>implFirstBadLine_any L hL hv1 lv1 _ ls hM (by omega) hHl wz (hy.keeps kz) (hln.keeps kz) (hN1.keeps kz));have HF2:=hid (fun wz (kz:Keeps w1 wz)=>specFirstBadLine_any L hL hv1 lv1 _ ls hM (by omega) hHl wz (hy.keeps kz) (hln.keeps kz));have HC1:=hid (fun wz (kz:Keeps w1 wz)=>implHilbertConclusion_any L hL hv1 lv1 _ ls hM (by omega) hHl wz (hy.keeps kz) (hln.keeps kz) (hN1.keeps kz));have HC2:=hid (fun wz (kz:Keeps w1 wz)=>specHilbertConclusion_any L hL hv1 lv1 _ ls hM (by omega) hHl wz (hy.keeps kz) (hln.keeps kz));have K1:=hid k1;have HY:=hid (fun wz (kz:Keeps w1 wz)=>hy.keeps kz);have hul:=uh_len L (G.map Fm.enc) ls;have HFX:=hid (fun h=>hs_facts (L:=L) (G:=G) (ls:=ls) h);have HUL:=hid (show (uhR L (G.map Fm.enc) ls).length≤6 by omega)
 obtain ⟨ph,nh,ch,hnh,rfl⟩:∃ p n c,n=G.length∧hv1=.slice p n c:=by
  obtain ⟨p,cap,e,_⟩:=hy;exact ⟨p,_,cap,by simp,e⟩
 have HNH:=hid hnh;clear hnh;obtain ⟨pl,cl,rfl,_⟩:=hln.shape;clear hy hln hla hll hM hHl hN1 HL k1 hul hL HD1 HBG;generalize ls.length=nl at*
 obtain ⟨E,hE⟩:∃ E,prE L (G.map Fm.enc) ls=E:=⟨_,rfl⟩
 rw [hE] at HU1 HU2 HC1 HC2 HFX;clear hE
 by_cases h0:E=0
 case neg=>
  have h0':(E != 0)=true:=by simpa using h0
  clear h0 HC1 HC2 HFX HY;generalize hfe:fblE L (G.map Fm.enc) ls=F at*;generalize hfr:fblR L (G.map Fm.enc) ls=R at*;clear hfe hfr;generalize uhR L (G.map Fm.enc) ls=us at*;go_wp2_with fail;refine (HU1.out _ (Keeps.refl _)).mono ?_;rintro e w2 ⟨⟨u,rfl,hu⟩,k2⟩;have hu2:Ints w2 u (zs us):=hu.ints (by have:=HUL.out;simp [zs];omega)
  obtain ⟨p2,c2,rfl⟩:∃ p c,u=.slice p (zs us).length c:=(by obtain ⟨p,c,e,_⟩:=hu2;exact ⟨p,c,e⟩)
  have HX2:=hid hu2;clear hu hu2;go_wp2_with fail;refine (HU2.out _ k2).mono ?_;rintro e w3 ⟨⟨m,rfl,hm⟩,k3⟩;have hm2:Ints w3 m (zs us):=hm.ints (by have:=HUL.out;simp [zs];omega)
  obtain ⟨p3,c3,rfl⟩:∃ p c,m=.slice p (zs us).length c:=(by obtain ⟨p,c,e,_⟩:=hm2;exact ⟨p,c,e⟩)
  have k13:=k2.trans k3;have HX3:=hid (fun wz (kz:Keeps w3 wz)=>likeInts_same (zs us) _ _ wz ((HX2.out.keeps k3).keeps kz) (hm2.keeps kz));clear hm hm2 HU1 HU2;go_wp2_with fail;refine (HF1.out _ k13).mono ?_;rintro e w4 ⟨rfl,k4⟩;go_wp2_with fail;refine (HF2.out _ (k13.trans k4)).mono ?_;rintro e w5 ⟨rfl,k5⟩;have HX5:=hid (HX3.out _ (k4.trans k5));go_wp2_with fail;refine HX5.out.mono ?_;rintro e w6 ⟨rfl,k6⟩;go_wp2_with fail;go_ret;exact ⟨rfl,((((K1.out.trans k13).trans k4).trans k5).trans k6)⟩
 subst h0;obtain ⟨h9,hf1,hf2,b,hcn,hbw,hbl,hus,hfol⟩:=HFX.out rfl;rw [hf1,hf2] at HF1 HF2;rw [hcn] at HC1 HC2;generalize uhR L (G.map Fm.enc) ls=us at*;have HB:=hid (And.intro hbw hbl);have HUS:=hid hus
 obtain ⟨A,hA⟩:∃ A,A=us.map fun i=>G.getD i .fls:=⟨_,rfl⟩
 have hAl:A.length=us.length:=by rw [hA];simp
 rw [←hA] at hfol;have HT5:=hid (fun (ht:(impsF A b).wf) (hl:(impsF A b).enc.length≤40)=>fun v wz=>theorem5_any L h9 (impsF A b) ht hl (fol_imps A hfol) v wz);have HA:=hid hA;have HAL:=hid hAl;clear hf1 hf2 hcn hbw hbl hus hfol hA hAl HFX;go_wp2_with fail;refine (HU1.out _ (Keeps.refl _)).mono ?_;rintro e w2 ⟨⟨u,rfl,hu⟩,k2⟩;have hu2:Ints w2 u (zs us):=hu.ints (by have:=HUL.out;simp [zs];omega)
 obtain ⟨p2,c2,rfl⟩:∃ p c,u=.slice p (zs us).length c:=(by obtain ⟨p,c,e,_⟩:=hu2;exact ⟨p,c,e⟩)
 have HX2:=hid hu2;clear hu hu2;go_wp2_with fail;refine (HU2.out _ k2).mono ?_;rintro e w3 ⟨⟨m,rfl,hm⟩,k3⟩;have hm2:Ints w3 m (zs us):=hm.ints (by have:=HUL.out;simp [zs];omega)
 obtain ⟨p3,c3,rfl⟩:∃ p c,m=.slice p (zs us).length c:=(by obtain ⟨p,c,e,_⟩:=hm2;exact ⟨p,c,e⟩)
 have k13:=k2.trans k3;have HX3:=hid (fun wz (kz:Keeps w3 wz)=>likeInts_same (zs us) _ _ wz ((HX2.out.keeps k3).keeps kz) (hm2.keeps kz));have HM2:=hid (fun wz (kz:Keeps w3 wz)=>hm2.keeps kz);clear hm hm2 HU1 HU2;go_wp2_with fail;refine (HF1.out _ k13).mono ?_;rintro e w4 ⟨rfl,k4⟩;go_wp2_with fail;refine (HF2.out _ (k13.trans k4)).mono ?_;rintro e w5 ⟨rfl,k5⟩;have HX5:=hid (HX3.out _ (k4.trans k5));go_wp2_with fail;refine HX5.out.mono ?_;rintro e w6 ⟨rfl,k6⟩;have k36:=(k4.trans k5).trans k6;have k16:=k13.trans k36;clear HX5 HX3 HX2 HF1 HF2 k2;go_wp2_with fail;refine (HC1.out _ k16).mono ?_;rintro e w7 ⟨⟨q7,rfl,h7⟩,k7⟩;have n7:=h7.nds (by have:=HB.out.2;omega);obtain ⟨p7,m7,c7,rfl⟩:=n7.shape;clear h7;go_wp2_with fail;refine (HC2.out _ (k16.trans k7)).mono ?_;rintro e w8 ⟨⟨q8,rfl,h8⟩,k8⟩;have n8:=h8.nds (by have:=HB.out.2;omega);obtain ⟨p8,m8,c8,rfl⟩:=n8.shape;have HLK:=hid (likeFormula5_any b.enc b.enc _ _ w8 (n7.keeps k8) n8);rw [decide_eq_true rfl] at HLK;have N8:=hid n8;clear h8 n8 n7 HC1 HC2;go_wp2_with fail;refine HLK.out.mono ?_;rintro e w9 ⟨rfl,k9⟩;have k39:=((k36.trans k7).trans k8).trans k9;have k19:=k13.trans k39;have N9:=hid (N8.out.keeps k9);clear HLK N8 k36 k16 k7 k8 k9 k4 k5 k6;go_wp2_with fail
 have hzl:(zs us).length=us.length:=by simp [zs]
 have HZL:=hid hzl;generalize hzn:(zs us).length=zn at*;have HZN:=hid hzn;clear hzn hzl
 go_loopw [18,19] (fun wv i' wr=>∃ (k:Nat) (x:Int),i'=.int .i64 x∧x=(k:Int)-1∧k≤us.length∧WhR wr wv A b k∧Keeps w9 wr) (fun _ i' _=>(intOf i'+1).toNat)
 case atStart=>
  refine ⟨us.length,_,rfl,by have:=HZL.out;have:=HUL.out;unfold wrap64;omega,Nat.le_refl _,?_,Keeps.refl _⟩;have e:A.drop us.length=[]:=List.drop_eq_nil_of_le (by have:=HAL.out;omega);unfold WhR;rw [e];exact ⟨N9.out,HB.out.1,HB.out.2⟩
 case round=>
  obtain ⟨k,x,rfl,hx,hk,⟨hn,hwf,hlen⟩,kw⟩:=hrel;obtain ⟨pw,nw,cw,rfl⟩:=hn.shape
  by_cases hk0:k=0
  ·subst hk0
   obtain rfl:x = -1:=by omega
   have HT:=hid (HT5.out hwf hlen _ _ hn);clear hx hk hn hwf hlen;go_wp2_with fail;refine HT.out.mono ?_;rintro e w10 ⟨rfl,k10⟩;go_wp2_with fail;go_ret;exact ⟨rfl,((K1.out.trans k19).trans kw).trans k10⟩
  ·obtain ⟨j,rfl⟩:∃ j,k=j+1:=⟨k-1,by omega⟩
   obtain rfl:x=(j:Int):=by omega
   have hj:j<us.length:=by omega
   obtain ⟨_,_,em,_,_,hat,_⟩:=HM2.out wr (k39.trans kw)
   cases em
   obtain ⟨bm,om,epm,hcm⟩:=hat.int j (by have:=HZL.out;have:=HZN.out;omega);subst epm
   have ezj:(zs us)[j]'(by have:=HZL.out;have:=HZN.out;omega)=((us[j]:Nat):Int):=by simp [zs]
   rw [ezj] at hcm;have huj:=HUS.out _ (List.getElem_mem hj)
   have eA:A.drop j=G[us[j]]::A.drop (j+1):=by
    have h1:j<A.length:=by have:=HAL.out;omega
    rw [drop_at h1]
    congr 1
    have h2:=HA.out;subst h2;simp [huj]
   have HEA:=hid eA;clear eA ezj hat hk0 hk hx;generalize us[j]=uj at*;obtain ⟨bh,oh,uh,eph,hch,hnh⟩:=(HY.out wr (k19.trans kw)).get uj (by simpa using huj);subst eph;rw [List.getElem_map] at hnh;obtain ⟨pu0,nu0,cu0,rfl⟩:=hnh.shape;have HJN:=hid (specJoinI_any _ _ _ _ wr hnh hn)
   have huj':(uj:Int)<nh:=by have:=HNH.out;omega
   have hjz:(j:Int)<(zs us).length:=by have:=HZL.out;omega
   clear hnh hn;go_wp2_with fail;refine HJN.out.mono ?_;rintro e w10 ⟨u,c,rfl,hc,⟨pu,nu,qu,rfl⟩,k10⟩
   by_cases hc0:c=0
   ·subst hc0
    obtain ⟨f1,f2,f3,hu⟩:=hc rfl;clear hc
    have hwh:WhR w10 (.slice pu nu qu) A b j:=by
     unfold WhR;rw [HEA.out,impsF_cons];obtain ⟨t,hw,he,_⟩:=isFm_treeH f1;obtain rfl:=enc_inj he;refine ⟨hu.nds (by simp only [List.length_cons,List.length_append];omega),⟨hw,hwf⟩,?_⟩;simp only [Fm.enc,List.length_cons,List.length_append];omega
    have HWH:=hid hwh;clear hwh hu f1 f2 f3 hwf hlen;go_wp2_with fail;go_roundw
    case rel=>exact ⟨j,_,rfl,rfl,by omega,HWH.out,kw.trans k10⟩
    case measure=>simp [intOf]
   ·have hc':(c != 0)=true:=by simpa using hc0
    clear hc hc0;go_wp2_with fail;go_ret;exact ⟨rfl,((K1.out.trans k19).trans kw).trans k10⟩
end
section
open Go.ChangeShapes Go.WideShapes Go.ChangeAt Go.RowKit Go.Deep
theorem own:ownKnob Tryz.prog.godebug=none:=by kernel_rfl
theorem laidOut:laidOutB Tryz.prog=true:=by kernel_rfl
section
variable {H:Type} {enc:TypeId×Value→H}
theorem trodAll_stays {W W':World} (hk:Keeps W W'):∀ (ts:List TypeId) (vs:List Value) (ds:List (DataW H)) (ps:List MemPlace),
  (∀ t∈ts,Tryz.prog.readableRec t=true∧t<Tryz.prog.types.size)→(∀ x∈ps,x.block<W.heap.size)→
  DataW.TrodAll enc Tryz.prog W 0 (fun _=>true) true ts vs ds ps→DataW.TrodAll enc Tryz.prog W' 0 (fun b=>decide (b<W.heap.size)) true ts vs ds ps:=by
 intro ts
 induction ts with
 | nil=>
  intro vs ds ps _ _ h
  cases vs<;>cases ds<;>simp [DataW.TrodAll] at h ⊢
  exact h
 | cons t ts ih=>
  intro vs ds ps hr hlt h;obtain ⟨v,vs',d,ds',p,q,rfl,rfl,rfl,h1,h2⟩:=trodAll_cons h;obtain ⟨hr1,hr2⟩:=hr t (List.mem_cons_self ..);have g1:=Below.trod laidOut hr1 hr2 h1 hk (fun x hx=>hlt x (List.mem_append.2 (.inl hx)));have g2:=ih _ _ _ (fun t ht=>hr t (List.mem_cons_of_mem _ ht)) (fun x hx=>hlt x (List.mem_append.2 (.inr hx))) h2;exact trodAll_cons_mk g1 g2
end
end
section
open Go.ChangeShapes Go.WideShapes Go.ChangeAt Go.RowKit
section
variable {H:Type} {enc:TypeId×Value→H}
theorem trodVars_stays {W W':World} (hk:Keeps W W'):∀ (ns:List String) (gs:List (DataW H)) (ps:List MemPlace),
  (∀ n∈ns,∀ g t,Tryz.prog.globalNamed n=some g→(Tryz.prog.globals[g]?).map (·.type)=some t→Tryz.prog.readableRec t=true∧t<Tryz.prog.types.size)→(∀ x∈ps,x.block<W.heap.size)→
  DataW.TrodVars enc Tryz.prog W (fun _=>true) ns gs ps→DataW.TrodVars enc Tryz.prog W' (fun b=>decide (b<W.heap.size)) ns gs ps:=by
 intro ns
 induction ns with
 | nil=>
  intro gs ps _ _ h
  cases gs<;>simp [DataW.TrodVars] at h ⊢
  exact h
 | cons n ns ih=>
  intro gs ps hr hlt h
  cases gs with
  | nil=>simp [DataW.TrodVars] at h
  | cons d gs=>
   obtain ⟨g,t,cs,fuel,p,q,h1,h2,h3,h4,h5,rfl⟩:=h;obtain ⟨hr1,hr2⟩:=hr n (List.mem_cons_self ..) g t h1 h2
   have hg:g<W.heap.size:=by
    unfold World.var? at h3;rw [h1] at h3;simp only [Option.bind_some] at h3
    split at h3
    ·rename_i hh;exact (Array.getElem?_eq_some_iff.1 hh).1
    ·cases h3
   have h3':=var?_below hk h1 hg h3;obtain ⟨fuel',h4'⟩:=Below.trod (v:=.agg cs) laidOut hr1 hr2 ⟨fuel,h4⟩ hk (fun x hx=>hlt x (by simp [hx]));exact ⟨g,t,cs,fuel',p,q,h1,h2,h3',h4',ih _ _ (fun n hn=>hr n (List.mem_cons_of_mem _ hn)) (fun x hx=>hlt x (by simp [hx])) h5,rfl⟩
theorem lawPostV {f:Func} {s:ChangeSpec} {W W':World} {args:Array Value} {ds gs:List (DataW H)} {before:List MemPlace}
  (hW:DataW.Whole enc Tryz.prog f.params.toList s.vars false W args.toList ds gs before)
  (hfn:s.fn H (ds++gs)={ results:=[.lit (.bool true)],args:=ds,vars:=gs }) (hres:f.resultTypes=#[4])
  (hr:∀ t∈f.params.toList,Tryz.prog.readableRec t=true∧t<Tryz.prog.types.size)
  (hv:∀ n∈s.vars,∀ g t,Tryz.prog.globalNamed n=some g→(Tryz.prog.globals[g]?).map (·.type)=some t→Tryz.prog.readableRec t=true∧t<Tryz.prog.types.size) (hk:Keeps W W'):
  s.post enc Tryz.prog f false true false false W args (.bool true) W':=by
 have hW':=hW;obtain ⟨p,q,hA,hV,rfl,_,_⟩:=hW
 have hlt:∀ x∈p,x.block<W.heap.size:=fun x hx=>hW'.lt x (List.mem_append.2 (.inl hx))
 have hlq:∀ x∈q,x.block<W.heap.size:=fun x hx=>hW'.lt x (List.mem_append.2 (.inr hx))
 refine ⟨ds,gs,_,[],p,q,hW',?_,?_,?_,Below.frame hk _,fun h=>by cases h⟩
 ·rw [hfn,hres]
  exact trodAll_cons_mk (shut_bool Tryz.underlying4 _) trodAll_mk0
 ·rw [hfn]
  exact trodAll_stays hk _ _ _ _ hr hlt hA
 ·rw [hfn]
  exact trodVars_stays hk _ _ _ hv hlq hV
theorem var_type {n n':String} {g g':Nat} {t t':TypeId} (hn:n=n') (hg:Tryz.prog.globalNamed n'=some g') (ht:(Tryz.prog.globals[g']?).map (·.type)=some t') (h1:Tryz.prog.globalNamed n=some g) (h2:(Tryz.prog.globals[g]?).map (·.type)=some t):t=t':=by
 subst hn;rw [hg] at h1;cases h1;rw [ht] at h2;cases h2;rfl
end
end
section
open Go.ChangeShapes Go.WideShapes Go.ChangeAt Go.RowKit Go.Deep
theorem open_bytes {H:Type} {enc:TypeId×Value→H} {W:World} {v:Value} {d:DataW H} {ps:List MemPlace} {r:Reach} {b0:Nat} (hval:Value.okWide Tryz.prog W r b0 22 v)
  (h:DataW.Trod enc Tryz.prog W 0 (fun _=>true) true 22 v d ps):
  ∃ p n cap,v=.slice p n cap∧n≤maxLen∧Bts W v n:=by
 obtain ⟨p,n,cap,rfl⟩:=okWide_slice Tryz.underlying22 hval;obtain ⟨fuel,hf⟩:=h
 have hC:Tryz.prog.cellsOf 5=1:=by kernel_rfl
 rcases open_slice1 Tryz.underlying22 hC hf with ⟨hcs,_⟩ | ⟨a,len,cap',m,n',V,D,Pl,hcs,_,hl,hm,hmm,_,hi⟩
 ·simp [Value.cells] at hcs
  obtain ⟨rfl,rfl,rfl⟩:=hcs;exact ⟨none,0,0,rfl,by simp [maxLen],none,0,rfl,by simp,by simp [maxLen],fun j hj=>by omega⟩
 ·simp [Value.cells] at hcs
  obtain ⟨rfl,rfl,rfl⟩:=hcs
  simp at hmm
  refine ⟨some a,n,cap,rfl,by omega,some a,cap,rfl,hl,hm,fun j hj=>?_⟩;obtain ⟨hc,ht⟩:=hi j (by omega);obtain ⟨x,hx,_,hwf⟩:=DataW.trod_int Tryz.underlying5 ht
  simp at hx
  rw [hx] at hc
  have hr:0≤x∧x<256:=by
   simp [Lit.wf,IntKind.min,IntKind.max,IntKind.bits,IntKind.signed] at hwf;omega
  obtain ⟨b,off,spot⟩:=a
  have hs:spot=none:=by simpa [Addr.add] using World.cell?_spot (hi 0 (by omega)).1
  subst hs
  have hadd:(⟨b,off,none⟩:Addr).add j=⟨b,off+j,none⟩:=by unfold Addr.add;split<;>simp_all
  rw [hadd] at hc;exact ⟨b,off,x.toNat,rfl,by rw [hc];congr 2;omega,by omega,World.block_lt_of_cell? _ _ hc⟩
end
section
open Go.RowKit
theorem cells_of_strsH {H:Type} {enc:TypeId×Value→H} {P:Program} {w:World} {base:Nat} {sp:Nat→Bool} {held:Bool} {fuel:Nat} {t e:TypeId} {n:Nat} {cs:List Value} {ss:List (List UInt8)} {p:List MemPlace}
  (ht:P.underlying t=some (.array n e)) (he:P.underlying e=some .string) (hce:P.cellsOf e=1) (hct:P.cellsOf t=n)
  (h:DataW.trod enc P w base sp held fuel t cs=some (.agg (ss.map fun s=>.lit (.string s)),p)):∀ i (hi:i<ss.length),cs[i]? = some (.string ⟨ss[i].toArray⟩):=by
 intro i hi
 cases fuel with
 | zero=>simp [DataW.trod] at h
 | succ fuel=>
  simp only [DataW.trod,ht,hce,hct,Nat.mul_one] at h
  split at h
  ·rename_i hl
   obtain ⟨xs,hm,hx⟩:=Option.map_eq_some_iff.1 h
   have hxs:xs.map (·.1)=ss.map fun s=>(DataW.lit (.string s):DataW H):=by
    have:=congrArg Prod.fst hx
    simpa using this
   have hxl:xs.length=n:=by have:=Lib.mapM_length hm;rw [this];exact List.length_range
   have hsl:ss.length=n:=by
    have:=congrArg List.length hxs
    simp at this
    omega
   obtain ⟨b,hb,hf⟩:=Lib.mapM_at hm i i (by rw [List.getElem?_range (by omega)]);obtain ⟨s,hc,rfl,_⟩:=DataW.trod_string he hf
   have h1:cs[i]? = some (.string s):=by
    have:=congrArg (·[0]?) hc
    simpa [List.getElem?_take,List.getElem?_drop] using this
   have h2:(xs.map (·.1))[i]? = some (DataW.lit (.string s.data.toList):DataW H):=by simp [hb]
   rw [hxs] at h2;simp [hi] at h2;rw [h1,h2]
  ·cases h
theorem laidS_of_headH {P:Program} {W:World} {name:String} {ss:List (List UInt8)} {rest:List (String×DataW Unit)} {g:Nat} {t e:TypeId} {n:Nat}
  (hg:P.globalNamed name=some g) (hty:(P.globals[g]?).map (·.type)=some t) (ht:P.underlying t=some (.array n e)) (he:P.underlying e=some .string) (hce:P.cellsOf e=1) (hct:P.cellsOf t=n)
  (h:laidMet P ((name,.agg (ss.map fun s=>.lit (.string s)))::rest) W):∀ i (hi:i<ss.length),W.cell? ⟨g,i,none⟩=some (.string ⟨ss[i].toArray⟩):=by
 obtain ⟨ps,⟨g',t',cs,fuel,p,q,hg',ht',hvar,hd,_,_⟩,_⟩:=h;obtain rfl:=Option.some.inj (hg.symm.trans hg');obtain rfl:=Option.some.inj (hty.symm.trans ht');intro i hi;have h1:=cells_of_strsH ht he hce hct hd i hi;have:=World.var?_cell hg hvar i;rw [this]
 simpa using h1
end
end Go.Proofs.YtbccmdfdclomiaaGreatDoor
