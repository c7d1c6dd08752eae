import Derived.Test.YtagoboblkadelaaGreatZMV
/- own -/
namespace Go.Proofs.YtagoboblkadelaaGreat
section
open Go.RowKit
theorem eH {w w':World} {g b o:Nat} {v:Value} (h:w.grownBy w' (some g)) (hb:b≠g) (hc:w.cell? ⟨b,o,none⟩=some v):w'.cell? ⟨b,o,none⟩=some v:=
 (h.cell_far ⟨b,o,none⟩ (World.block_lt_of_cell? w _ hc) (by simpa using hb)).trans hc
def Jd (g:Nat) (v:Value):Prop:=∀ b o m c,v=.slice (some ⟨b,o,none⟩) m c→b≠g
theorem cN.off {w w':World} {g:Nat} {v:Value} {a:List Bool} (h:cN w v a) (hv:Jd g v) (k:w.grownBy w' (some g)):cN w' v a:=by
 obtain⟨p,cap,rfl,h1,h2,h3,h4⟩:=h;refine⟨p,cap,rfl,h1,h2,?_,h4⟩;intro j hj;obtain⟨b,off,rfl,hc⟩:=h3 j hj;exact⟨b,off,rfl,eH k (hv b off _ _ rfl) hc⟩
def xg (w:World) (g:Nat) (v:Value) (ns:List Nee):Prop:=
 ∃ p cap,v=.slice p ns.length cap∧ns.length≤cap∧cap≤maxLen∧ns.length≤8∧
  ∀ i (h:i<ns.length),∃ b off u,p=some ⟨b,off,none⟩∧b≠g∧Jd g u∧w.cell? ⟨b,off+i*3,none⟩=some (.int .i64 ns[i].ix)∧w.cell? ⟨b,off+i*3+1,none⟩=some (.int .i64 ns[i].kd)∧w.cell? ⟨b,off+i*3+2,none⟩=some u∧cN w u ns[i].inn
theorem xg.neeL {w:World} {g:Nat} {v:Value} {ns:List Nee} (h:xg w g v ns):xf w v ns:=by
 obtain⟨p,cap,h1,h2,h3,h4,h5⟩:=h;exact⟨p,cap,h1,h2,h3,h4,fun i a=>by obtain⟨b,off,u,e1,_,_,e2,e3,e4,e5⟩:=h5 i a;exact⟨b,off,u,e1,e2,e3,e4,e5⟩⟩
theorem xg.off {w w':World} {g:Nat} {v:Value} {ns:List Nee} (h:xg w g v ns) (k:w.grownBy w' (some g)):xg w' g v ns:=by
 obtain⟨p,cap,h1,h2,h3,h4,h5⟩:=h
 exact⟨p,cap,h1,h2,h3,h4,fun i a=>by
  obtain⟨b,off,u,e1,e6,e7,e2,e3,e4,e5⟩:=h5 i a
  exact⟨b,off,u,e1,e6,e7,eH k e6 e2,eH k e6 e3,eH k e6 e4,e5.off e7 k⟩⟩
structure TyE (w:World) (r g L N cap:Nat) (ns:List Nee):Prop where
 c0:w.cell? ⟨r,0,none⟩=some (.string (lgS L))
 c2:∃ v,w.cell? ⟨r,2,none⟩=some v∧xg w g v ns
 c3:w.cell? ⟨r,3,none⟩=some (.int .i64 N)
 c5:w.cell? ⟨r,5,none⟩=some (.slice (some ⟨g,0,none⟩) N cap)
 hr:r≠g
 hL:L<8
 hi:∀ n∈ns,n.ix≤8
 hl:∀ n∈ns,n.inn.length=N
 hN:N≤256
theorem TyE.off {w w':World} {r g L N cap:Nat} {ns:List Nee} (h:TyE w r g L N cap ns) (k:w.grownBy w' (some g)):TyE w' r g L N cap ns:=by
 obtain⟨v,h1,h2⟩:=h.c2;exact⟨eH k h.hr h.c0,⟨v,eH k h.hr h1,h2.off k⟩,eH k h.hr h.c3,eH k h.hr h.c5,h.hr,h.hL,h.hi,h.hl,h.hN⟩
theorem TyE.tyA {w:World} {r g L N cap B:Nat} {ns:List Nee} {S:List Bool} (h:TyE w r g L N cap ns) (ho:cl w B (.slice (some ⟨g,0,none⟩) N cap) S) (hS:S.length=N):TyA w r L N ns S:=by
 obtain⟨v,h1,h2⟩:=h.c2;exact⟨⟨h.c0,⟨v,h1,h2.neeL⟩,h.hL,h.hi,h.hl,h.hN⟩,h.c3,⟨_,h.c5,ho.bools (by have:=h.hN;omega)⟩,hS⟩
theorem pL {w w':World} (g:Nat) (k:aa w w'):w.grownBy w' (some g):=⟨k.os,k.tape,k.output,k.size,fun _i hi _=>k.block hi⟩
structure tw (w:World) (r g L N cap B:Nat) (ns:List Nee) (Lv:Nat→Bool) (S:List Bool) (wr:World) (T:List Bool):Prop where
 own:cl wr B (.slice (some ⟨g,0,none⟩) N cap) T
 len:T.length=N
 gr:w.grownBy wr (some g)
 ty:TyE wr r g L N cap ns
 lv:∀ t,t<N→Lv t=true→T.getD t false=true
 sub:∀ t,T.getD t false=true→S.getD t false=true
theorem tw.keeps {w:World} {r g L N cap B:Nat} {ns:List Nee} {Lv:Nat→Bool} {S:List Bool} {wr w':World} {T:List Bool} (h:tw w r g L N cap B ns Lv S wr T) (k:aa wr w'):tw w r g L N cap B ns Lv S w' T:=
 ⟨h.own.keeps k,h.len,h.gr.trans (pL g k),h.ty.off (pL g k),h.lv,h.sub⟩
theorem rO (T:List Bool) (k t:Nat):(T.set k false).getD t false=(if t=k then false else T.getD t false):=by
 rw[zi,zi,List.getElem?_set]
 by_cases h:k=t
 ·subst h
  by_cases h2:k<T.length<;>simp[h2]
 ·rw[if_neg h,if_neg (fun e=>h e.symm)]
theorem tw.drop {w:World} {r g L N cap B:Nat} {ns:List Nee} {Lv:Nat→Bool} {S:List Bool} {wr:World} {T:List Bool} (h:tw w r g L N cap B ns Lv S wr T) (k:Nat) (hk:k<N) (hn:Lv k=false):
  tw w r g L N cap B ns Lv S (wr.setCell ⟨g,k,none⟩ (.bool false)) (T.set k false):=by
 obtain⟨h1,h2⟩:=cl.store h.own k (by rw[h.len];exact hk) false;refine⟨h1,by rw[List.length_set,h.len],h.gr.trans h2,h.ty.off h2,?_,?_⟩
 ·intro t ht hl
  rw[rO,if_neg (by rintro rfl;rw[hn] at hl;cases hl)];exact h.lv t ht hl
 ·intro t ht
  rw[rO] at ht
  split at ht
  ·cases ht
  ·exact h.sub t ht
theorem zI (T:List Bool) (k:Nat) (h:k<T.length) (hb:T[k]=true):(T.set k false).count true<T.count true:=by
 have hp:0<T.count true:=List.count_pos_iff.2 (hb▸zo h);rw[List.count_set h,hb]
 simp
 omega
noncomputable def BD (w:World) (g N:Nat):List Bool:=(List.range N).map fun i=>@decide (w.cell? ⟨g,i,none⟩=some (.bool true)) (Classical.propDecidable _)
theorem yM {w:World} {B g N cap:Nat} {T:List Bool} (h:cl w B (.slice (some ⟨g,0,none⟩) N cap) T) (hl:T.length=N):BD w g N=T:=by
 apply List.ext_getElem?;intro i;unfold BD;rw[List.getElem?_map]
 by_cases hi:i<N
 ·have h2:i<T.length:=qB
  have hc:=(h.cell i h2).1;rw[List.getElem?_range hi,zn h2,Option.map_some]
  congr 1
  cases hT:T[i]
  ·rw[hT] at hc
   exact @decide_eq_false _ (Classical.propDecidable _) (by rw[hc];simp)
  ·rw[hT] at hc
   exact @decide_eq_true _ (Classical.propDecidable _) hc
 ·rw[List.getElem?_eq_none (by simp;omega),List.getElem?_eq_none qB]
  rfl
structure tz (L N:Nat) (ns:List Nee) (T0 T:List Bool) (k:Nat) (ch:Bool):Prop where
 same:ch=false→T=T0∧∀ m,m<k→T0.getD m false=true→mh L ns N T0 m=true
 less:ch=true→T.count true<T0.count true
theorem tz.start (L N:Nat) (ns:List Nee) (T:List Bool):tz L N ns T T 0 false:=⟨fun _=>⟨rfl,fun m h=>by omega⟩,fun h=>by cases h⟩
theorem tz.stay {L N:Nat} {ns:List Nee} {T0 T:List Bool} {k:Nat} {ch:Bool} (h:tz L N ns T0 T k ch) (hs:T.getD k false=true→mh L ns N T k=true):tz L N ns T0 T (k+1) ch:=
 ⟨fun hc=>by
  obtain⟨rfl,h2⟩:=h.same hc;refine⟨rfl,fun m hm ht=>?_⟩
  rcases Nat.lt_succ_iff_lt_or_eq.1 hm with h3 | rfl
  ·exact h2 m h3 ht
  ·exact hs ht,h.less⟩
theorem tz.gone {L N:Nat} {ns:List Nee} {T0 T:List Bool} {k:Nat} {ch:Bool} (h:tz L N ns T0 T k ch) (hk:k<T.length) (hb:T[k]=true):tz L N ns T0 (T.set k false) (k+1) true:=by
 have h1:=zI T k hk hb;refine⟨fun hc=>?_,fun _=>?_⟩
 ·cases hc
 ·cases ch
  ·obtain⟨e,_⟩:=h.same rfl
   rw[←e];exact h1
  ·exact Nat.lt_trans h1 (h.less rfl)
def chN:Value→Nat
 | .bool true=>1
 | _=>0
set_option maxRecDepth 20000 in
set_option maxHeartbeats 4000000 in
theorem tI (r g L N cap B:Nat) (ns:List Nee) (S:List Bool) (Lv:Nat→Bool)
  (KR:∀ T:List Bool,(∀ t,t<N→Lv t=true→T.getD t false=true)→∀ m,m<N→Lv m=true→mh L ns N T m=true)
  (w:World) (h:TyE w r g L N cap ns) (ho:cl w B (.slice (some ⟨g,0,none⟩) N cap) S) (hS:S.length=N) (hl:∀ t,t<N→Lv t=true→S.getD t false=true):
  Calls Tryz.prog 125 #[.pointer (some ⟨r,0,none⟩)] w fun e w'=>∃ T,e=.returned (.tuple #[])∧tw w r g L N cap B ns Lv S w' T∧∀ m,m<N→T.getD m false=true→mh L ns N T m=true:=by
 have hN:=h.hN;have KY:=hid (⟨ho,hS,rP _ _,h,hl,fun _ ht=>ht⟩:tw w r g L N cap B ns Lv S w S);have La:=hid KR;clear KR h ho hS hl;go_enter Tryz.func125,Tryz.ntmps125;go_wp2_with fail
 go_loopw [2] (fun ch wr=>∃ (T:List Bool) (cb:Bool),ch=.bool cb∧tw w r g L N cap B ns Lv S wr T∧(cb=false→∀ m,m<N→T.getD m false=true→mh L ns N T m=true)) (fun ch wr=>2*(BD wr g N).count true+chN ch)
 case atStart=>exact⟨S,true,rfl,KY.out,fun hc=>by cases hc⟩
 case round=>
  obtain⟨T0,cb,rfl,hI,eE⟩:=hrel;have HI:=hid hI;have KP:=hid eE;clear eE
  cases cb
  ·clear hI
   go_wp2_with fail;refine bodyPost_end (v:=.tuple #[]) (by simp[results,Tryz.results125,go_sem]) rfl ?_
   first | exact⟨rfl,T0,HI.out,KP.out (by trivial)⟩ | exact⟨T0,rfl,HI.out,KP.out (by trivial)⟩
  ·have c3:=hI.ty.c3
   have Lc:=hid (yM hI.own hI.len);clear hI;go_wp2_with fail
   go_loopw [2,9] (fun ch i' wq=>∃ (k:Nat) (T:List Bool) (cb:Bool),k≤N∧i'=.int .i64 k∧ch=.bool cb∧tw w r g L N cap B ns Lv S wq T∧tz L N ns T0 T k cb) (fun _ i' _=>N-(intOf i').toNat)
   case atStart=>exact⟨0,T0,false,qB,rfl,rfl,HI.out,tz.start L N ns T0⟩
   case round=>
    obtain⟨k,T,cb,hk,rfl,rfl,hJ,hM⟩:=hrel;have HJ:=hid hJ;have HM:=hid hM;clear hM
    by_cases x7:k<N
    ·have x9:(k:Int)<N:=qB
     have x6:k<T.length:=by rw[hJ.len];exact x7
     have c5:=hJ.ty.c5;obtain⟨ci,fi⟩:=hJ.own.cell k x6;have Ld:=hid (wV r L N ns T k x7 wr (hJ.ty.tyA hJ.own hJ.len))
     have K0:Hid (mh L ns N T k=false→Lv k=false):=hid (fun hn=>by
      cases hv:Lv k
      ·rfl
      ·rw[La.out T hJ.lv k x7 hv] at hn;cases hn)
     have x8:N≤cap∧cap≤maxLen:=by
      obtain⟨_,_,e,_,_,h1,h2⟩:=hJ.own.shape qB
      cases e
      rw[hJ.len] at h1;exact⟨h1,h2⟩
     obtain⟨Lg,Lf⟩:=x8;unfold maxLen at Lf;have Le:Hid (T.getD k false=T[k]):=hid (by rw[zi,zn x6];rfl);have H9:=hid x6;clear hJ;generalize KT:T[k]=b at*;generalize KS:mh L ns N T k=z at*;have KV:=hid KS;clear KS;have H7:=hid KT;clear KT x6
     cases b
     ·go_wp2_with fail
      go_roundw
      case rel=>exact⟨k+1,T,cb,qB,by go_num,rfl,HJ.out,HM.out.stay (fun e=>by rw[Le.out] at e;cases e)⟩
      case measure=>simp[intOf];omega
     ·go_wp2_with fail
      refine Ld.out.mono ?_;rintro e w3 ⟨rfl,k3⟩;have h9:=HJ.out.keeps k3;have e5:=h9.ty.c5;obtain⟨ci3,fi3⟩:=h9.own.cell k H9.out;have H8:=hid h9;clear h9 ci fi c5
      cases z
      ·have KZ:=hid (H8.out.drop k x7 (K0.out rfl))
       replace ci3:w3.cell? ⟨g,k,none⟩=some (.bool true):=ci3.trans (congrArg (fun x=>some (Value.bool x)) H7.out)
       go_wp2_with fail;go_roundw
       case rel=>exact⟨k+1,T.set k false,true,qB,by go_num,rfl,KZ.out,HM.out.gone H9.out H7.out⟩
       case measure=>simp[intOf];omega
      ·go_wp2_with fail
       go_roundw
       case rel=>exact⟨k+1,T,cb,qB,by go_num,rfl,H8.out,HM.out.stay (fun _=>KV.out)⟩
       case measure=>simp[intOf];omega
    ·obtain rfl:k=N:=qB
     have x9:¬((k:Int)<k):=qB;have KU:=yM hJ.own hJ.len
     have hm:2*(BD wr g k).count true+chN (.bool cb)<2*T0.count true+1:=by
      rw[KU]
      cases cb
      ·obtain⟨e,_⟩:=HM.out.same rfl
       rw[e];simp[chN]
      ·have:=HM.out.less rfl
       simp only[chN];omega
     have Lb:=hid hm;clear hJ KU hm;go_wp2;go_roundw
     case rel=>exact⟨T,cb,rfl,HJ.out,fun hc=>by obtain⟨e,h2⟩:=HM.out.same hc;rw[e];exact h2⟩
     case measure=>have:=Lb.out;rw[Lc.out];simpa [chN] using this
def nee (E:List Fm) (N i:Nat):Nee:=⟨i,bxB E i,(List.range N).map (qe E i)⟩
def fT (E:List Fm) (N:Nat):List Nee:=(dE E).map (nee E N)
theorem mS (E:List Fm) (N i m:Nat):(nee E N i).dem m=bE E i m:=rfl
theorem wD (E:List Fm) (N i m:Nat) (h:m<N):(nee E N i).mee m=fL E i m:=by
 unfold Nee.mee nee fL
 simp only
 rw[zi,List.getElem?_map,List.getElem?_range h];rfl
theorem Gt (L:Nat) (E:List Fm) (N f t i:Nat) (h:t<N):yw L f t (nee E N i)=Ap L E f t i:=by
 unfold yw Ap;rw[wD E N i t h,mS,mS]
theorem De {α:Type} {l:List α} {p q:α→Bool} (h:∀ x∈l,p x=q x):l.all p=l.all q:=by
 induction l with
 | nil=>rfl
 | cons a l ih=>rw[List.all_cons,List.all_cons,h a qD,ih (fun x hx=>h x (by simp[hx]))]
theorem mu {α:Type} {l:List α} {p q:α→Bool} (h:∀ x∈l,p x=q x):l.any p=l.any q:=by
 induction l with
 | nil=>rfl
 | cons a l ih=>rw[List.any_cons,List.any_cons,h a qD,ih (fun x hx=>h x (by simp[hx]))]
theorem mT (E:List Fm) (N:Nat) (p:Nee→Bool) (q:Nat→Bool) (h:∀ i,p (nee E N i)=q i):(fT E N).all p=(dE E).all q:=by
 unfold fT;rw[List.all_map]
 exact De fun x _=>h x
theorem Ek (E:List Fm) (N:Nat) (p:Nee→Bool) (q:Nat→Bool) (h:∀ i,p (nee E N i)=q i):(fT E N).any p=(dE E).any q:=by
 unfold fT;rw[List.any_map]
 exact mu fun x _=>h x
theorem yA (L:Nat) (E:List Fm) (N f t:Nat) (h:t<N):hU L (fT E N) f t=wK L E f t:=mT E N _ _ fun i=>Gt L E N f t i h
theorem yB (L:Nat) (E:List Fm) (N f t:Nat) (hf:f<N) (ht:t<N):jw L (fT E N) f t=iy L E f t:=by
 unfold jw iy;rw[yA L E N f t ht,yA L E N t f hf,mT E N (fun n=>n.dem f==n.dem t) (fun i=>bE E i f==bE E i t) (fun i=>rfl),Ek E N (fun n=>n.dem t&&!n.dem f) (fun i=>bE E i t&&!bE E i f) (fun i=>rfl)]
theorem yz (L:Nat) (E:List Fm) (N m:Nat) (h:m<N):Ej L (fT E N) m=jW L E m:=by
 unfold Ej jW;rw[mT E N (fun n=>!n.dem m||n.mee m) (fun i=>!bE E i m||fL E i m) (fun i=>by rw[wD E N i m h,mS])]
theorem Em (L:Nat) (E:List Fm) (N i f t:Nat) (hf:f<N) (ht:t<N):iT L (fT E N) f t (nee E N i)=C1 L E i f t:=by
 unfold iT C1;rw[yB L E N f t hf ht,wD E N i t ht,mS,decide_not]
theorem yC (L:Nat) (E:List Fm) (N:Nat) (S:List Bool) (m:Nat) (h:m<N):mh L (fT E N) N S m=ui L E N (fun t=>S.getD t false) m:=by
 unfold mh ui;rw[mu (q:=fun t=>S.getD t false&&iy L E m t) (fun t ht=>by rw[yB L E N m t h (List.mem_range.1 ht)])]
 rw[mT E N _ (fun i=>bE E i m||(List.range N).any fun t=>S.getD t false&&C1 L E i m t) (fun i=>by
  rw[mS]
  congr 1
  exact mu fun t ht=>by rw[Em L E N i m t h (List.mem_range.1 ht)])]
theorem Ct (L:Nat) (E:List Fm) (N:Nat):∀ T:List Bool,(∀ t,t<N→dM L E N t=true→T.getD t false=true)→∀ m,m<N→dM L E N m=true→mh L (fT E N) N T m=true:=by
 intro T hT m hm hl;rw[yC L E N T m hm];exact Ai hT hm hl
def BT (L:Nat) (E:List Fm) (N:Nat):List Bool:=(List.range N).map (jW L E)
theorem xm (L:Nat) (E:List Fm) (N m:Nat) (h:m<N):(BT L E N).getD m false=jW L E m:=by
 unfold BT;rw[zi,List.getElem?_map,List.getElem?_range h];rfl
theorem Co (L:Nat) (E:List Fm) (N:Nat) (T:List Bool) (x6:∀ t,t<N→dM L E N t=true→T.getD t false=true) (h9:∀ t,T.getD t false=true→(BT L E N).getD t false=true)
  (eE:∀ m,m<N→T.getD m false=true→mh L (fT E N) N T m=true):∀ m,m<N→T.getD m false=dM L E N m:=by
 intro m hm;refine Gi (S:=fun t=>T.getD t false) x6 (fun t ht h=>⟨?_,?_⟩) hm
 ·rw[←xm L E N t ht];exact h9 t h
 ·rw[←yC L E N T t ht];exact eE t ht h
theorem Cs (L:Nat) (E:List Fm) (N t:Nat) (ht:t<N) (h:dM L E N t=true):(BT L E N).getD t false=true:=by
 rw[xm L E N t ht];exact iR ht h
noncomputable def mP (L:Nat) (E:List Fm) (N:Nat):List Bool:=(List.range N).map (dM L E N)
theorem Ec (L:Nat) (E:List Fm) (N:Nat) (T:List Bool) (hl:T.length=N) (h:∀ m,m<N→T.getD m false=dM L E N m):T=mP L E N:=by
 apply List.ext_getElem?;intro i;unfold mP;rw[List.getElem?_map]
 by_cases hi:i<N
 ·have:=h i hi
  rw[zi,zn qB] at this;rw[List.getElem?_range hi,zn qB,Option.map_some,←this];rfl
 ·rw[List.getElem?_eq_none qB,List.getElem?_eq_none (by simp;omega)]
  rfl
theorem Bz {E:List Fm} {N:Nat}:∀ n∈fT E N,n.ix<E.length:=by
 intro n hn;obtain⟨i,hi,rfl⟩:=List.mem_map.1 hn;exact List.mem_range.1 (List.mem_filter.1 hi).1
theorem mU {E:List Fm} {N:Nat}:∀ n∈fT E N,n.inn.length=N:=by
 intro n hn;obtain⟨i,_,rfl⟩:=List.mem_map.1 hn;simp[nee]
theorem El (E:List Fm) (N:Nat):(fT E N).length≤E.length:=by
 unfold fT dE;rw[List.length_map];exact zx (List.length_filter_le _ _) qD
end
section
open Go.RowKit
def fG (w:World) (B:Nat) (vs:List Value) (xs:List (List Bool)):Prop:=vs.length=xs.length∧∀ i (h1:i<vs.length) (h2:i<xs.length),cl w B vs[i] xs[i]
theorem fG.nil (w:World) (B:Nat):fG w B [] []:=⟨rfl,fun i h=>by simp at h⟩
theorem fG.snoc {w:World} {B:Nat} {v:Value} {vs:List Value} {x:List Bool} {xs:List (List Bool)} (h:cl w B v x) (hs:fG w B vs xs):fG w B (vs++[v]) (xs++[x]):=
 ⟨by simp[hs.1],fun i h1 h2=>by
  have hl:=hs.1
  by_cases hi:i<vs.length
  ·rw[List.getElem_append_left hi,List.getElem_append_left qB];exact hs.2 i hi qB
  ·simp at h1
   obtain rfl:i=vs.length:=qB;rw[List.getElem_append_right (zm _),List.getElem_append_right qB]
   simpa [hl] using h⟩
theorem cl.touch {w w':World} {S:Nat→Prop} {B:Nat} {v:Value} {x:List Bool} (h:cl w B v x) (k:al w w' S) (hS:∀ i,v.ownBlock=some i→¬S i):cl w' B v x:=aZ h k hS
theorem fG.touch {w w':World} {S:Nat→Prop} {B:Nat} {vs:List Value} {xs:List (List Bool)} (h:fG w B vs xs) (k:al w w' S) (hS:∀ i,blk vs i→¬S i):fG w' B vs xs:=
 ⟨h.1,fun i h1 h2=>(h.2 i h1 h2).touch k (fun j e=>hS j ⟨i,h1,e⟩)⟩
theorem fG.keeps {w w':World} {B:Nat} {vs:List Value} {xs:List (List Bool)} (h:fG w B vs xs) (k:aa w w'):fG w' B vs xs:=⟨h.1,fun i h1 h2=>(h.2 i h1 h2).keeps k⟩
def dz:List Nee→List Value→List Value
 | n::ns,u::us=>.int .i64 n.ix::.int .i64 n.kd::u::dz ns us
 | _,_=>[]
theorem pR:∀ (ns:List Nee) (us:List Value),ns.length=us.length→(dz ns us).length=ns.length*3
 | [],[],_=>rfl
 | n::ns,u::us,h=>by
  have:=pR ns us (by simpa using h);simp only[dz,zh,this];omega
 | [],_::_,h=>by simp at h
 | _::_,[],h=>by simp at h
theorem mR:∀ (ns:List Nee) (us:List Value) (n:Nee) (u:Value),ns.length=us.length→dz (ns++[n]) (us++[u])=dz ns us++[.int .i64 n.ix,.int .i64 n.kd,u]
 | [],[],_,_,_=>rfl
 | x::ns,y::us,n,u,h=>by
  have:=mR ns us n u (by simpa using h);simp only[List.cons_append,dz,this]
 | [],_::_,_,_,h=>by simp at h
 | _::_,[],_,_,h=>by simp at h
theorem pQ:∀ (ns:List Nee) (us:List Value) (i:Nat) (h1:i<ns.length) (h2:i<us.length),(dz ns us)[i*3]? = some (.int .i64 ns[i].ix)∧(dz ns us)[i*3+1]? = some (.int .i64 ns[i].kd)∧(dz ns us)[i*3+2]? = some us[i]
 | n::ns,u::us,0,_,_=>by simp[dz]
 | n::ns,u::us,i+1,h1,h2=>by
  have:=pQ ns us i (by simpa using h1) (by simpa using h2)
  simpa [dz,Nat.add_mul] using this
theorem IF:(Tryz.prog.info? 153).map (fun i=>(i.zero,i.size,i.bytes))=some (some (.agg #[.int .i64 0,.int .i64 0,.slice none 0 0]),3,40):=qA
theorem Ie:(153:TypeId)≠4:=qC
def dJ (w:World) (B:Nat) (v:Value) (ns:List Nee):Prop:=
 ∃ us,w.ownsRow B 153 3 v ns.length (dz ns us)∧fG w B us (ns.map Nee.inn)
theorem dJ.nil (w:World) (B:Nat):dJ w B (.slice none 0 0) []:=⟨[],World.ownsRow_nil w B _ 3,fG.nil _ _⟩
theorem dJ.keeps {w w':World} {B:Nat} {v:Value} {ns:List Nee} (h:dJ w B v ns) (k:aa w w'):dJ w' B v ns:=by
 obtain⟨us,h1,h2⟩:=h;exact⟨us,bw h1 k,h2.keeps k⟩
theorem dJ.other {w w':World} {B B':Nat} {v u:Value} {ns:List Nee} {T:TypeId} {s m:Nat} {cs:List Value} {S:Nat→Prop} (h:dJ w B v ns) (ho:w.ownsRow B' T s u m cs) (t1:T≠153) (t2:T≠4) (hS:∀ i,S i→u.ownBlock=some i) (k:al w w' S):dJ w' B v ns:=by
 obtain⟨us,h1,h2⟩:=h;refine⟨us,aZ h1 k (fun i e hi=>cE ho h1 t1 (hS i hi) e),h2.touch k (fun i hb hi=>?_)⟩;obtain⟨j,hj,e⟩:=hb;exact cE ho (h2.2 j hj (by have:=h2.1;omega)) t2 (hS i hi) e
theorem dJ.shape {w:World} {B:Nat} {v:Value} {ns:List Nee} (h:dJ w B v ns):∃ p c,v=.slice p ns.length c:=by
 obtain⟨us,h1,_⟩:=h;obtain⟨p,c,e,_⟩:=At.of_own h1;exact⟨p,c,e⟩
theorem dJ.neeO {w w':World} {B g:Nat} {v:Value} {ns:List Nee} (_h:dJ w' B v ns) (hl:ns.length≤8) (hb:∀ n∈ns,n.inn.length≤2147483648) (h0:dJ w B v ns) (k:∀ us,w.ownsRow B 153 3 v ns.length (dz ns us)→fG w B us (ns.map Nee.inn)→w'.ownsRow B 153 3 v ns.length (dz ns us)∧fG w' B us (ns.map Nee.inn)) (hg:w.heap.size≤g):xg w' g v ns:=by
 obtain⟨us,a1,a2⟩:=h0;obtain⟨h1,h2⟩:=k us a1 a2
 have x7:us.length=ns.length:=by rw[h2.1,List.length_map]
 obtain⟨p,cap,e,hn,hm,eE⟩:=At.of_own h1;refine⟨p,cap,e,hn,hm,hl,fun i a=>?_⟩;obtain⟨g1,g2,g3⟩:=pQ ns us i a qB;have l2:=pR ns us x7.symm;obtain⟨b,off,hp,hc⟩:=eE (i*3) qB;obtain⟨b',off',hp',hc'⟩:=eE (i*3+1) qB;obtain⟨b'',off'',hp'',hc''⟩:=eE (i*3+2) qB;rw[hp] at hp' hp''
 cases hp'
 cases hp''
 rw[zn qB] at g1 g2 g3;rw[Option.some.inj g1] at hc;rw[Option.some.inj g2] at hc';rw[Option.some.inj g3] at hc''
 have h9:b≠g:=by
  rw[e,hp] at a1
  have:=(World.ownsRow.lt a1 b (by
   rcases a1.2 with ⟨e0,_⟩ | ⟨g9,c9,_,e0,_⟩
   ·cases e0
   ·cases e0;rfl)).2
  omega
 have hu:=a2.2 i qB (by simpa using a);have hu':=h2.2 i qB (by simpa using a);refine⟨b,off,us[i]'qB,hp,h9,?_,hc,by rw[←Nat.add_assoc] at hc';exact hc',by rw[←Nat.add_assoc] at hc'';exact hc'',?_⟩
 ·intro b2 o2 m2 c2 e2
  rcases hu.2 with ⟨e0,_⟩ | ⟨g9,c9,_,e0,_,x6,_⟩
  ·rw[e2] at e0;cases e0
  ·rw[e2] at e0
   cases e0
   have:=(Array.getElem?_eq_some_iff.1 x6).1;omega
 ·have:=cl.bools hu' (by simpa using hb _ (zo a))
  simpa using this
theorem dJ.neeL {w:World} {B:Nat} {v:Value} {ns:List Nee} (h:dJ w B v ns) (hl:ns.length≤8) (hb:∀ n∈ns,n.inn.length≤2147483648):xf w v ns:=
 (h.neeO hl hb h (fun _us a b=>⟨a,b⟩) (zm _)).neeL
theorem It {w:World} {o:Oper} {a:Act} {K:Act→World→Prop} {Q:Exit→Act→World→Prop} (s x:Operand)
  (ho:o.op=.call { callee:=.builtin .append,args:=#[s,x],argTypes:=#[148,148] }) (base:Nat) (v:Value) (ns:List Nee) (hs:a.eval s=v)
  (x8:dJ w base v ns) (n:Nee) (u:Value) (hu:cl w base u n.inn) (h9:base≤w.heap.size)
  (p:Option Addr) (c:Nat) (hx:a.eval x=.slice p 1 c) (x9:At w p [.int .i64 n.ix,.int .i64 n.kd,u]) (H7:ns.length≤1000000)
  (h:∀ v' w',dJ w' base v' (ns++[n])→w.grownBy w' v.ownBlock→(∀ k,v.ownBlock=some k→base≤k)→K (a.put o.dst v') w'):o.wp Tryz.prog a w K Q:=by
 obtain⟨i0,hi,H8,H9,KP⟩:=info_parts IF;obtain⟨us,eE,hr⟩:=x8
 have x7:∀ z∈[Value.int .i64 n.ix,.int .i64 n.kd,u],z.oneCell'=true:=by
  intro z hz
  simp at hz
  rcases hz with rfl | rfl | rfl
  ·rfl
  ·rfl
  ·obtain⟨p,c,e,_⟩:=At.of_own hu
   rw[e];rfl
 refine bI s x _ ho _ i0 _ 3 40 Tryz.underlying148 hi H8 H9 KP rfl qC base v _ _ hs eE p 1 c [.int .i64 n.ix,.int .i64 n.kd,u] hx qD x9 x7 (by unfold maxLen;omega) qB h9 ?_;intro v' w' h1 h2 h3;refine h v' w' ⟨us++[u],?_,?_⟩ h2 h3
 ·rw[mR _ _ _ _ (by rw[hr.1,List.length_map]),ze]
  exact h1
 ·rw[List.map_append,List.map_cons,List.map_nil]
  have x6:∀ i,v.ownBlock=some i→¬blk us i:=fun i hv ⟨j,hj,e⟩=>cE eE (hr.2 j hj (by have:=hr.1;omega)) Ie hv e
  refine fG.snoc ?_ (hr.touch (al.grown h2) (fun i hb e=>x6 i e.symm hb));exact hu.touch (al.grown h2) (fun i hi e=>cE eE hu Ie e.symm hi)
theorem I3 {w:World} {ops:Array Oper} {o:Oper} {a:Act} {K:Act→World→Prop} {Q:Exit→Act→World→Prop} {E:Prop} (x8:o.guard=none) (s x:Operand)
  (ho:o.op=.call { callee:=.builtin .append,args:=#[s,x],argTypes:=#[148,148] }) (base:Nat) (v:Value) (ns:List Nee) (hs:a.eval s=v)
  (x6:dJ w base v ns) (n:Nee) (u:Value) (hu:cl w base u n.inn) (eE:base≤w.heap.size)
  (p:Option Addr) (c:Nat) (hx:a.eval x=.slice p 1 c) (x7:At w p [.int .i64 n.ix,.int .i64 n.kd,u]) (h9:ns.length≤1000000)
  (h:∀ v' w',dJ w' base v' (ns++[n])→w.grownBy w' v.ownBlock→(∀ k,v.ownBlock=some k→base≤k)→K (a.put o.dst v') w'):if Region.wanted o (yielded ops a.tmps)=true then Oper.wp Tryz.prog o a w K Q else E:=by
 rw[if_pos (by simp[Region.wanted,x8])];exact It s x ho base v ns hs x6 n u hu eE p c hx x7 h9 h
theorem At.lit3v (w:World) (a b u:Value) (E:TypeId):At (w.alloc (.cells #[a,b,u] E)) (some ⟨w.heap.size,0,none⟩) [a,b,u]:=by
 intro j hj
 match j,hj with
 | 0,_=>exact⟨_,_,rfl,qD⟩
 | 1,_=>exact⟨_,_,rfl,qD⟩
 | 2,_=>exact⟨_,_,rfl,qD⟩
def cO (w:World) (r:Nat) (c0 c1 c2 c3 c4 c5:Value):Prop:=w.ownsRow r 151 6 (.slice (some ⟨r,0,none⟩) 1 1) 1 [c0,c1,c2,c3,c4,c5]
section
variable {w w':World} {r:Nat} {c0 c1 c2 c3 c4 c5:Value}
theorem cO.cell0 (h:cO w r c0 c1 c2 c3 c4 c5):w.cell? ⟨r,0,none⟩=some c0:=by rw[World.ownsRow.cellAt h 0 qB];rfl
theorem cO.cell1 (h:cO w r c0 c1 c2 c3 c4 c5):w.cell? ⟨r,1,none⟩=some c1:=by rw[World.ownsRow.cellAt h 1 qB];rfl
theorem cO.cell2 (h:cO w r c0 c1 c2 c3 c4 c5):w.cell? ⟨r,2,none⟩=some c2:=by rw[World.ownsRow.cellAt h 2 qB];rfl
theorem cO.cell3 (h:cO w r c0 c1 c2 c3 c4 c5):w.cell? ⟨r,3,none⟩=some c3:=by rw[World.ownsRow.cellAt h 3 qB];rfl
theorem cO.cell4 (h:cO w r c0 c1 c2 c3 c4 c5):w.cell? ⟨r,4,none⟩=some c4:=by rw[World.ownsRow.cellAt h 4 qB];rfl
theorem cO.cell5 (h:cO w r c0 c1 c2 c3 c4 c5):w.cell? ⟨r,5,none⟩=some c5:=by rw[World.ownsRow.cellAt h 5 qB];rfl
theorem cO.froz (h:cO w r c0 c1 c2 c3 c4 c5) (i:Nat):w.frozen? ⟨r,i,none⟩=false:=World.ownsRow.frozenAt h i
theorem cO.lt (h:cO w r c0 c1 c2 c3 c4 c5):r<w.heap.size:=(World.ownsRow.lt h r rfl).2
theorem cO.set2 (h:cO w r c0 c1 c2 c3 c4 c5) (x:Value):cO (w.setCell ⟨r,2,none⟩ x) r c0 c1 x c3 c4 c5:=(World.ownsRow.stored h 2 x).1
theorem cO.set3 (h:cO w r c0 c1 c2 c3 c4 c5) (x:Value):cO (w.setCell ⟨r,3,none⟩ x) r c0 c1 c2 x c4 c5:=(World.ownsRow.stored h 3 x).1
theorem cO.set4 (h:cO w r c0 c1 c2 c3 c4 c5) (x:Value):cO (w.setCell ⟨r,4,none⟩ x) r c0 c1 c2 c3 x c5:=(World.ownsRow.stored h 4 x).1
theorem cO.set5 (h:cO w r c0 c1 c2 c3 c4 c5) (x:Value):cO (w.setCell ⟨r,5,none⟩ x) r c0 c1 c2 c3 c4 x:=(World.ownsRow.stored h 5 x).1
theorem cO.grown (h:cO w r c0 c1 c2 c3 c4 c5) (i:Nat) (x:Value):w.grownBy (w.setCell ⟨r,i,none⟩ x) (some r):=(World.ownsRow.stored h i x).2
theorem cO.keeps (h:cO w r c0 c1 c2 c3 c4 c5) (k:aa w w'):cO w' r c0 c1 c2 c3 c4 c5:=bw h k
theorem cO.other {B s m:Nat} {T:TypeId} {u:Value} {cs:List Value} {S:Nat→Prop} (h:cO w r c0 c1 c2 c3 c4 c5) (ho:w.ownsRow B T s u m cs) (t:T≠151) (hS:∀ i,S i→u.ownBlock=some i) (k:al w w' S):cO w' r c0 c1 c2 c3 c4 c5:=
 aZ h k (fun i e hi=>cE ho h t (hS i hi) e)
theorem cO.made (w:World) (c0 c1 c2 c3 c4 c5:Value):cO (w.alloc (.cells #[c0,c1,c2,c3,c4,c5] 151)) w.heap.size c0 c1 c2 c3 c4 c5:=by
 have h:=World.ownsRow_lit (base:=w.heap.size) (e:=151) (size:=6) w #[c0,c1,c2,c3,c4,c5] 1 (zm _) (by simp[maxLen]) qD
 simpa [cO] using h
end
theorem iC.touch {w w':World} {B:Nat} {v:Value} {ss:List ByteArray} {xs:List (List Nd)} {S:Nat→Prop} (h:iC w B v ss xs) (k:al w w' S) (hS:∀ i,S i→w.heap.size≤i∨∃ r T s c0,w.ownsRow r T s (.slice (some ⟨i,0,none⟩) 1 1) 1 c0∧T≠147∧T≠82):iC w' B v ss xs:=by
 obtain⟨us,h1,h2,h3⟩:=h;refine⟨us,aZ h1 k (fun i e hi=>?_),h2.touch k (fun i hb hi=>?_),h3⟩
 ·have hl:=(World.ownsRow.lt h1 i e).2
  rcases hS i hi with h0 | ⟨r,T,s,c0,ho,t1,_⟩
  ·omega
  ·exact cE ho h1 t1 rfl e
 ·have hl:=(h2.lt hb).2
  rcases hS i hi with h0 | ⟨r,T,s,c0,ho,_,t2⟩
  ·omega
  ·obtain⟨j,hj,e⟩:=hb
   exact cE ho (h2.2 j hj (by have:=h2.1;omega)) t2 rfl e
end
end Go.Proofs.YtagoboblkadelaaGreat
