import Derived.Test.YtagoboblkadelaaGreatZEO
/- own -/
namespace Go.Proofs.YtagoboblkadelaaGreat
set_option maxRecDepth 20000
set_option maxHeartbeats 2000000
open Go.RowKit
theorem yK (ss tt:List ByteArray):(fW ss tt).map bts=du ((ss++tt).map bts):=by simp[fW,Function.comp_def,gU]
theorem wv {u:ByteArray} {l:List ByteArray}:bts u∈l.map bts↔u∈l:=by
 rw[List.mem_map];exact⟨fun ⟨x,hx,e⟩=>by rw[←da e];exact hx,fun h=>⟨u,h,rfl⟩⟩
theorem kN (ss tt:List ByteArray):Asc ((fW ss tt).map bts):=by rw[yK];exact oO _
theorem nj {ss tt:List ByteArray} {u:ByteArray}:u∈fW ss tt↔u∈ss∨u∈tt:=by
 rw[←wv,yK,oP,wv,List.mem_append]
theorem lj {a b:List ByteArray} (ha:Asc (a.map bts)) (hb:Asc (b.map bts)) (h:∀ u,u∈a↔u∈b):a=b:=by
 apply fS
 refine Asc.ext ha hb fun z=>?_
 rw[List.mem_map,List.mem_map];exact⟨fun ⟨u,hu,e⟩=>⟨u,(h u).1 hu,e⟩,fun ⟨u,hu,e⟩=>⟨u,(h u).2 hu,e⟩⟩
theorem EA {ss:List ByteArray} (h:Asc (ss.map bts)):fW ss []=ss:=lj (kN _ _) h fun u=>by rw[nj];simp
theorem EB {ss:List ByteArray} (h:Asc (ss.map bts)) (a b:ByteArray):fW ss [a,b]=ae (ae ss a) b:=
 lj (kN _ _) (iK b (iK a h)) fun u=>by
  rw[nj,gZ,gZ];simp[or_assoc]
theorem Dq (ss:List ByteArray) (t:ByteArray):(ss.filter fun s=>!(s.toList==t.toList))=ah ss t:=by
 unfold ah
 refine List.filter_congr fun u _=>?_
 rw[dT,Bool.eq_iff_iff];simp only[Bool.not_eq_true',decide_eq_false_iff_not,decide_eq_true_eq];exact⟨fun h e=>h (by rw[e]),fun h e=>h (da e)⟩
theorem En {p:Fm→Bool} {ss:List ByteArray} {u:ByteArray}:u∈ofS p ss↔u∈(kdS p ss).map paI:=by
 unfold ofS;rw[qU,List.mem_map];simp only[List.not_mem_nil,false_or];exact⟨fun ⟨s,hs,e⟩=>⟨s,hs,e.symm⟩,fun ⟨s,hs,e⟩=>⟨s,hs,e.symm⟩⟩
theorem IN {p:Fm→Bool} {ss:List ByteArray} (h:aW ss):fW (kdS p ss) ((kdS p ss).map paI)=bU (ofS p ss) (kdS p ss):=
 lj (kN _ _) (lL (kH h) (ft h).1).2 fun u=>by
  rw[nj,jF,En];exact or_comm
theorem JS {p q:Fm→Bool} {ss:List ByteArray} (h:aW ss) (eE:(p=bg∧q=bR)∨(p=bR∧q=bg)) (main:ByteArray):ah (fW (kdS p ss) (kdS q ss)) main=ah (bU (kdS bg ss) (kdS bR ss)) main:=by
 congr 1
 refine lj (kN _ _) (lL (ft h) (ft h).1).2 fun u=>?_
 rw[nj,jF]
 rcases eE with ⟨rfl,rfl⟩ | ⟨rfl,rfl⟩
 ·exact Iff.rfl
 ·exact or_comm
theorem JR {p:Fm→Bool} {ss:List ByteArray} (h:aW ss):fW ((kdS p ss).map paI) []=ofS p ss:=
 lj (kN _ _) (kH h).2 fun u=>by
  rw[nj,En]
  simp
theorem nk (ss tt:List ByteArray):(fW ss tt).length≤ss.length+tt.length:=by
 have eE:(du ((ss++tt).map bts)).length≤_:=Lib.compact_length_le (((ss++tt).map bts).mergeSort fun x y=>decide (x≤y));rw[List.length_mergeSort] at eE
 simpa [fW] using eE
theorem rC (ss:List ByteArray) (v:Value) (w:World) (hv:au w v ss):
  Calls Tryz.prog 60 #[v] w fun e w'=>∃ v',e=.returned v'∧aA w' w.heap.size v' ss∧aa w w':=by
 obtain⟨p,cap,rfl,h9,x6,eE,hl⟩:=hv.at
 cases p with
 | none=>
  have h0:ss=[]:=by
   cases ss with
   | nil=>rfl
   | cons x l=>obtain⟨b,off,e,_⟩:=eE 0 (by simp[aq]);cases e
  subst h0;refine(Tryz.slices_Clone_string_nil _ cap w).mono ?_;rintro e w' ⟨rfl,rfl⟩;exact⟨_,rfl,aA.nil _ _,aa.refl _⟩
 | some a=>
  by_cases h0:ss=[]
  ·subst h0
   refine(Tryz.slices_Clone_string_zero a cap w).mono ?_;rintro e w' ⟨v',rfl,h1,_,k⟩;exact⟨v',rfl,h1,k⟩
  ·have hp:0<ss.length:=List.length_pos_iff.2 h0
   obtain⟨b,off,e,_⟩:=eE 0 (by simpa [aq] using hp)
   cases e
   have hc:∀ j,j<ss.length→w.cell? ⟨b,off+j,none⟩=some (.string (ss.getD j ByteArray.empty)):=by
    intro j hj;obtain⟨b',off',hp,hc⟩:=eE j (by simpa [aq] using hj)
    cases hp
    rw[hc];simp[aq,List.getD_eq_getElem?_getD,hj]
   have hC:=Tryz.slices_Clone_string b off ss.length cap ss w (zm _) qB hc;rw[List.take_length] at hC;refine hC.mono ?_;rintro e w' ⟨v',rfl,h1,_,k⟩;exact⟨v',rfl,h1,k⟩
theorem mC:aG 221:=fun _ _=>by kernel_rfl
theorem tH (f:FuncId) (cp:Array Value) (w:World) (eE:aG f):
  Calls Tryz.prog 220 #[.slice none 0 0,.func (.func f) #[] cp] w fun e w'=>e=.returned (.slice none 0 0)∧aa w w':=by
 have hI:=l9 (fun _=>false) f cp [] _ w ((aA.nil w w.heap.size).strs qD) eE (fun x w1 hx k=>by simp at hx);have HI:=hid hI;clear hI;go_enter Tryz.func220,Tryz.ntmps220;go_wp2_with fail;refine HI.out.mono ?_;rintro e w1 ⟨rfl,k1⟩;go_wp2_with fail;go_ret;exact⟨rfl,k1⟩
theorem uu (ss:List ByteArray) (t:ByteArray) (v:Value) (w:World) (hv:au w v ss) (hl:ss.length≤1000000000):
  Calls Tryz.prog 197 #[v,.string t] w fun e w'=>∃ v',e=.returned v'∧aA w' w.heap.size v' (ah ss t)∧aa w w':=by
 have kA:=(aa.refl w).alloc (.cells #[.string t] 9)
 have hb:(w.alloc (.cells #[.string t] 9)).cell? ⟨w.heap.size,0,none⟩=some (.string t):=by simp
 have HC:=hid (rC ss v _ (hv.keeps kA));have HB:=hid hb;clear hb;obtain⟨p,n,c,rfl⟩:=hv.sh;rw[←Dq];clear hv;go_enter Tryz.func197,Tryz.ntmps197;go_wp2_with fail;refine HC.out.mono ?_;rintro e w1 ⟨v1,rfl,h9,k1⟩;have eE:=h9.2
 rcases eE with ⟨e1,_⟩ | ⟨g,c1,_,e1,_⟩
 ·subst e1
  have h0:ss=[]:=by
   obtain⟨p,c,e,_⟩:=At.of_own h9;injection e with _ e2 _;exact List.eq_nil_of_length_eq_zero e2.symm
  subst h0;have HD:=hid (tH 221 #[.pointer (some ⟨w.heap.size,0,none⟩)] w1 mC);clear h9;go_wp2_with fail;refine HD.out.mono ?_;rintro e w2 ⟨rfl,k2⟩;go_wp2_with fail;go_ret;exact⟨_,rfl,aA.nil _ _,(kA.trans k1).trans k2⟩
 ·subst e1
  have HD:=hid (uW (fun s=>s.toList==t.toList) 221 #[.pointer (some ⟨w.heap.size,0,none⟩)] ss g c1 (w.alloc (.cells #[.string t] 9)) w1 h9 k1 qB mC (fun x w2 _ k2=>(zM x t _ w2 (aa.cell k2 HB.out)).mono fun e w3 h=>⟨h.1,by rw[←h.2];exact aa.refl _⟩));clear h9;go_wp2_with fail;refine HD.out.mono ?_;rintro e w2 ⟨v2,rfl,x6,k2⟩;go_wp2_with fail;go_ret;exact⟨_,rfl,x6.mono qD,kA.trans k2⟩
theorem Iu {w:World} {o:Oper} {a:Act} {K:Act→World→Prop} {Q:Exit→Act→World→Prop} (s x:Operand)
  (ho:o.op=.call { callee:=.builtin .append,args:=#[s,x],argTypes:=#[27,27] }) (base:Nat) (v:Value) (xs:List ByteArray) (hs:a.eval s=v) (h9:aA w base v xs)
  (u:Value) (y:ByteArray) (hx:a.eval x=u) (hu:au w u [y]) (eE:base≤w.heap.size) (x7:xs.length≤1000000)
  (h:∀ v' w',aA w' base v' (xs++[y])→w.grownBy w' v.ownBlock→(∀ k,v.ownBlock=some k→base≤k)→(∀ k,v'.ownBlock=some k→v.ownBlock=some k∨w.heap.size≤k)→K (a.put o.dst v') w'):o.wp Tryz.prog a w K Q:=by
 obtain⟨i0,hi,x8,x9,H7⟩:=info_parts xU;obtain⟨p,cap,rfl,_,_,x6,_⟩:=hu.at;obtain⟨b,off,rfl,hc⟩:=x6 0 (by simp[aq]);refine wp_append_lies w s x _ ho base _ i0 _ 1 16 Tryz.underlying27 hi x8 x9 H7 rfl qC v _ _ hs h9 ⟨b,off,none⟩ 1 cap [.string y] hx qD ?_ (by simp[Value.oneCell']) qB (by unfold maxLen;omega) qB eE _ rfl ?_
 ·intro j u hj
  cases j with
  | zero=>simp at hj;subst hj;simpa [Addr.add,aq] using hc
  | succ j=>simp at hj
 ·intro g c' w' h2 h3 h4 h5
  refine h _ w' ?_ h3 (fun k e=>(World.ownsRow.lt h9 k e).1) (fun k e=>?_)
  ·unfold aA
   rw[ze,show aq (xs++[y])=aq xs++[.string y] by simp[aq]];exact h2
  ·have:k=g:=by simpa [Value.ownBlock] using e.symm
   subst this
   rcases h4 with h4 | h4
   ·exact .inl h4
   ·exact .inr qB
theorem Hm {w:World} {ops:Array Oper} {rest:List Oper} {o:Oper} {a:Act} {Q:Exit→Act→World→Prop} (x7:o.guard=none) (s x:Operand)
  (ho:o.op=.call { callee:=.builtin .append,args:=#[s,x],argTypes:=#[27,27] }) (base:Nat) (v:Value) (xs:List ByteArray) (hs:a.eval s=v) (x6:aA w base v xs)
  (u:Value) (y:ByteArray) (hx:a.eval x=u) (hu:au w u [y]) (eE:base≤w.heap.size) (h9:xs.length≤1000000)
  (h:∀ v' w',aA w' base v' (xs++[y])→w.grownBy w' v.ownBlock→(∀ k,v.ownBlock=some k→base≤k)→(∀ k,v'.ownBlock=some k→v.ownBlock=some k∨w.heap.size≤k)→wpList Tryz.prog ops Q rest (a.put o.dst v') w'):wpList Tryz.prog ops Q (o::rest) a w:=
 wpList_plain x7 fun _ hK=>Iu s x ho base v xs hs x6 u y hx hu eE h9 fun v' w' h1 h2 h3 h4=>hK _ _ (h v' w' h1 h2 h3 h4)
structure Two (B:Nat) (w:World) (v u:Value) (xs ys:List ByteArray):Prop where
 a:aA w B v xs
 b:aA w B u ys
 ne:∀ k,v.ownBlock=some k→u.ownBlock≠some k
theorem Two.keeps {B:Nat} {w w':World} {v u:Value} {xs ys:List ByteArray} (h:Two B w v u xs ys) (k:aa w w'):Two B w' v u xs ys:=⟨h.a.keeps k,h.b.keeps k,h.ne⟩
theorem Two.start (w:World):Two w.heap.size w (.slice none 0 0) (.slice none 0 0) [] []:=⟨aA.nil _ _,aA.nil _ _,fun k e=>by simp[Value.ownBlock] at e⟩
theorem Two.push {B:Nat} {w w':World} {v u v':Value} {xs ys xs':List ByteArray} (h:Two B w v u xs ys) (h1:aA w' B v' xs') (h2:w.grownBy w' v.ownBlock) (h4:∀ k,v'.ownBlock=some k→v.ownBlock=some k∨w.heap.size≤k):Two B w' v' u xs' ys:=by
 refine⟨h1,aZ h.b (al.grown h2) (fun i e hi=>h.ne i hi.symm e),fun k e e2=>?_⟩
 rcases h4 k e with e3 | e3
 ·exact h.ne k e3 e2
 ·have:=(h.b.len k e2).2
  omega
theorem Two.flip {B:Nat} {w:World} {v u:Value} {xs ys:List ByteArray} (h:Two B w v u xs ys):Two B w u v ys xs:=⟨h.b,h.a,fun k e e2=>h.ne k e2 e⟩
def Jk (w:World) (r:List ByteArray) (e:Ending) (w':World):Prop:=∃ a b,e=.returned (.tuple #[a,b])∧aA w' w.heap.size a r∧aA w' w.heap.size b (r.map paI)∧aa w w'
theorem xd (ss:List ByteArray) (hS:aW ss) (kd:Int) (Ld:kd=5∨kd=6) (v:Value) (w:World) (hv:au w v ss) (hl:ss.length≤100000):
  Calls Tryz.prog 219 #[v,.int .i64 kd] w (Jk w (kdS (a6 kd) ss)):=by
 have HV:=hid hv;obtain⟨p,c,rfl,Lw,Ls,_⟩:=hv.shape;unfold maxLen at Ls;have HE:Hid (kdS (a6 kd) (ss.take ss.length)=kdS (a6 kd) ss):=hid (by rw[List.take_length]);have Lp:=hid (fun (i:Nat) (h:i<ss.length)=>gq (hS.1 ss[i] (zo h)));have Ln:=hid Ld;clear hv Ld;go_enter Tryz.func219,Tryz.ntmps219;go_wp2
 go_loopw [4,5,11] (fun o q i' wr=>∃ (i:Nat),i≤ss.length∧i'=.int .i64 i∧Two w.heap.size wr o q (kdS (a6 kd) (ss.take i)) ((kdS (a6 kd) (ss.take i)).map paI)∧aa w wr) (fun _ _ i' _=>ss.length-(intOf i').toNat)
 case atStart=>exact⟨0,qB,rfl,by simpa [kdS] using Two.start w,aa.refl w⟩
 case round=>
  obtain⟨i,hi,rfl,h9,kw⟩:=hrel;have HO:=hid h9;clear h9
  by_cases KR:i<ss.length
  ·have KS:(i:Int)<ss.length:=qB
   obtain⟨b1,o1,rfl,h1⟩:=(HV.out.keeps kw).get i KR;have HN:=hid (se (p:=a6 kd) KR)
   have Ly:(kdS (a6 kd) (ss.take i)).length≤100000:=by have:=fq (a6 kd) (ss.take i);simp at this;omega
   have HT:=hid (Lp.out i KR);have HG:=hid (lA (txF ss[i]) ss[i] wr HT.out);have eE:a6 kd (txF ss[i])=decide ((txF ss[i]).kind=kd):=rfl;have Lo:Hid (paI ss[i]=txS (bH (txF ss[i]))):=hid rfl;rw[eE] at HN;clear eE;generalize txF ss[i]=t at*;generalize ss[i]=x at*;generalize kdS (a6 kd) (ss.take i)=R at*;generalize K0:kdS (a6 kd) (ss.take (i+1))=R2 at*;have KY:=hid K0;clear K0;go_wp2_with fail;refine HG.out.mono ?_;rintro e w2 ⟨v2,rfl,x7,k2⟩
   have h0:0<t.enc.length:=by cases t<;>simp[Fm.enc]
   obtain⟨g,cap,rfl,_,_,Lu,Lr⟩:=x7.shape h0;have hr:=(x7.nds (by have:=HT.out.2.2;omega)).root;obtain⟨b,o9,n9,c9,e9,g0,g1,g2,g3,Lc,_⟩:=hr
   cases e9
   have KV:=hid (HO.out.keeps k2);have KZ:=hid x7;clear x7
   by_cases hk:t.kind=kd
   ·have x8:Hid (R2=R++[x]):=hid (by rw[HN.out,if_pos (decide_eq_true hk)])
    have Lm:Hid (∀ v wz,Nds wz v t.enc→Calls Tryz.prog 120 #[v] wz fun e w'=>∃ v,e=.returned v∧Nds wz v (bH t).enc∧wz=w'):=hid (fun v wz hz=>by
     have eE:=Ln.out;rw[←hk] at eE
     cases t with
     | box x=>
      refine(bu _ ⟨5,0⟩ x [] _ _ hz (by simp[Fm.enc])).mono ?_;rintro e w' ⟨v1,rfl,KT,rfl⟩;exact⟨v1,rfl,KT,rfl⟩
     | dia x=>
      refine(bu _ ⟨6,0⟩ x [] _ _ hz (by simp[Fm.enc])).mono ?_;rintro e w' ⟨v1,rfl,KT,rfl⟩;exact⟨v1,rfl,KT,rfl⟩
     | _=>simp[Fm.kind] at eE)
    have H7:=hid (fun v wz (hz:Nds wz v (bH t).enc)=>gR (bH t) (jZ HT.out.1) (by have:=HT.out.2.2;have:=jY (t:=t);omega) v wz hz);rw[hk] at Lc;clear hk HN;have k3:=(aa.refl w2).alloc (.cells #[.string x] 9);have LD:=kw.size;have Lt:=k2.size;have H9:=KV.out.keeps k3;have Lx:(R.map paI).length=R.length:=List.length_map _;unfold maxLen at Lr
    go_wp2_with (at_builtin;refine Hm rfl (.tmp 23) (.tmp 25) rfl w.heap.size _ R rfl H9.a _ x rfl (au.lit1 w2 x) (by simp;omega) qB ?_;intro v5 w5 Lk x6 Lh Le)
    have La:=H9.push Lk x6 Le;have K5:=((kw.trans k2).trans k3).grown x6 Lh
    have Lg:=aU.nds ((KZ.out.keeps k3).touch (al.grown x6) (fun i e hi=>by
     have e1:=(HO.out.a.len i hi.symm).2;have e2:=(World.ownsRow.lt KZ.out i e).1
     omega)) (by have:=HT.out.2.2;omega)
    clear Lk x6 Lh Le H9 Lc;go_wp2_with fail;refine(Lm.out _ _ Lg).mono ?_;rintro e w6 ⟨v6,rfl,KU,rfl⟩;have H8:=hid (H7.out _ _ KU);obtain⟨p6,n6,c6,rfl⟩:=KU.shape;clear KU Lg;go_wp2_with fail;refine H8.out.mono ?_;rintro e w7 ⟨s7,rfl,Lj,k7⟩;obtain rfl:=iB Lj;have k8:=k7.alloc (.cells #[.string (txS (bH t))] 9);have Lb:=(La.keeps k8).flip;have Lz:=K5.size;have LC:=k7.size;have K8:=K5.trans k8;have x9:=hid Lb;clear La Lj Lb
    go_wp2_with (at_builtin;refine Hm rfl (.tmp 27) (.tmp 31) rfl w.heap.size _ (R.map paI) rfl x9.out.a _ (txS (bH t)) rfl (au.lit1 w7 _) (by simp;omega) qB ?_;intro v9 w9 Ll KP Li Lf)
    have Lq:=(x9.out.push Ll KP Lf).flip;have K9:=K8.grown KP Li;clear Ll KP Li Lf x9;go_roundw
    case rel=>exact⟨i+1,qB,by go_num,by rw[KY.out,x8.out,List.map_append,List.map_cons,List.map_nil,Lo.out];exact Lq,K9⟩
    case measure=>simp[intOf];omega
   ·have x8:Hid (R2=R):=hid (by rw[HN.out,if_neg (by simp[hk])];simp)
    have hk':(t.kind==kd)=false:=by simpa using hk
    have K2:=kw.trans k2;clear HN;go_wp2_with fail;go_roundw
    case rel=>exact⟨i+1,qB,by go_num,by rw[KY.out,x8.out];exact KV.out,K2⟩
    case measure=>simp[intOf];omega
  ·obtain rfl:i=ss.length:=qB
   have KS:¬((ss.length:Int)<ss.length):=qB;rw[HE.out] at HO;go_wp2
   go_ret2
   exact⟨_,_,rfl,HO.out.a,HO.out.b,kw⟩
theorem pw (s:ByteArray) (ss:List ByteArray) (hS:aW ss) (v:Value) (kd:Int) (KR:kd=5∨kd=6) (main:ByteArray) (w:World) (hv:au w v ss) (hl:ss.length≤1000):
  Calls Tryz.prog 196 #[.string s,v,.int .i64 kd,.string main] w (rv w (fE (lgN s) (a6 kd) ss main)):=by
 have HW:=hid (fun k (hk:k=5∨k=6) wz (kz:aa w wz)=>xd ss hS k hk v wz (hv.keeps kz) qB);have x8:=hid KR;have x9:=hid hS;have e1:=JY s;have e2:=Gu s;have e3:=IT s;have e4:=IU s;have eE:Hid (fE (lgN s) (a6 kd) ss main=if lgN s=3∨lgN s=5 then bU (ofS (a6 kd) ss) (kdS (a6 kd) ss) else if lgN s=4 then kdS (a6 kd) ss else if lgN s=6 then ah (bU (kdS bg ss) (kdS bR ss)) main else ofS (a6 kd) ss):=hid rfl;have l2:=fq (a6 kd) ss;have l3:((kdS (a6 kd) ss).map paI).length=(kdS (a6 kd) ss).length:=List.length_map _;obtain⟨p,c,rfl,_⟩:=hv.shape;clear hv hS KR;generalize fE (lgN s) (a6 kd) ss main=R at*;go_enter Tryz.func196,Tryz.ntmps196;go_wp2_with fail;refine(HW.out kd x8.out _ (aa.refl w)).mono ?_;rintro e w2 ⟨va,vb,rfl,ha,hb,k2⟩;have HA:=hid (ha.strs qB);have HB:=hid (hb.strs (by rw[l3];omega))
 by_cases x7:lgN s=3∨lgN s=5
 ·rw[if_pos x7,←IN x9.out] at eE
  have h9:=hid (lD _ _ va vb w2 HA.out HB.out qB);have H8:=nk (kdS (a6 kd) ss) ((kdS (a6 kd) ss).map paI);have H7:lgN s=3∨(lgN s≠3∧lgN s=5):=qB;clear ha hb HA HB x7 e3 e4;generalize fW (kdS (a6 kd) ss) ((kdS (a6 kd) ss).map paI)=U at*
  rcases H7 with h3 | ⟨h3,h5⟩
  ·rw[decide_eq_true h3] at e1
   clear h3 e2;go_wp2_with fail;refine h9.out.mono ?_;rintro e w3 ⟨v3,rfl,x6,k3⟩;go_wp2_with fail;go_ret;exact⟨_,rfl,by rw[eE.out];exact x6.strsP qB,k2.trans k3⟩
  ·rw[decide_eq_false h3] at e1
   rw[decide_eq_true h5] at e2;clear h3 h5;go_wp2_with fail;refine h9.out.mono ?_;rintro e w3 ⟨v3,rfl,x6,k3⟩;go_wp2_with fail;go_ret;exact⟨_,rfl,by rw[eE.out];exact x6.strsP qB,k2.trans k3⟩
 ·rw[if_neg x7] at eE
  rw[decide_eq_false (fun h=>x7 (.inl h))] at e1;rw[decide_eq_false (fun h=>x7 (.inr h))] at e2;clear x7
  by_cases h4:lgN s=4
  ·rw[if_pos h4] at eE
   rw[decide_eq_true h4] at e3;have h9:=hid (lD _ [] va (.slice none 0 0) w2 HA.out ((aA.nil w2 w2.heap.size).strs qD) (by simp;omega));rw[EA (ft x9.out).2] at h9;clear ha hb HA HB h4 e4;go_wp2_with fail;refine h9.out.mono ?_;rintro e w3 ⟨v3,rfl,x6,k3⟩;go_wp2_with fail;go_ret;exact⟨_,rfl,by rw[eE.out];exact x6.strsP qB,k2.trans k3⟩
  ·rw[if_neg h4] at eE
   rw[decide_eq_false h4] at e3;clear h4
   by_cases h6:lgN s=6
   ·rw[if_pos h6] at eE
    rw[decide_eq_true h6] at e4;have H9:=hid (fun k (hk:k=5∨k=6)=>HW.out k hk w2 k2)
    have hq:(11:Int)-kd=5∨(11:Int)-kd=6:=by have:=x8.out;omega
    have KP:=hid (H9.out (11-kd) hq)
    have KY:Hid (ah (fW (kdS (a6 kd) ss) (kdS (a6 (11-kd)) ss)) main=R):=hid (by
     rw[eE.out];refine JS x9.out ?_ main
     rcases x8.out with rfl | rfl
     ·exact .inl ⟨gz,hO⟩
     ·exact .inr ⟨hO,gz⟩)
    have l5:=fq (a6 (11-kd)) ss;have KU:=hid ha
    have La:IntKind.wrap .i64 (11-kd)=11-kd:=by rcases x8.out with rfl | rfl<;>rfl
    clear ha hb HB h6 hq H9 HW eE;go_wp2_with fail;refine KP.out.mono ?_;rintro e w3 ⟨vc,vd,rfl,hc,hd,k3⟩;have h9:=hid (lD _ _ va vc w3 (HA.out.keeps k3) (hc.strs qB) qB);have H8:=nk (kdS (a6 kd) ss) (kdS (a6 (11-kd)) ss);clear hc hd HA KU KP;generalize fW (kdS (a6 kd) ss) (kdS (a6 (11-kd)) ss)=U at*;go_wp2_with fail;refine h9.out.mono ?_;rintro e w4 ⟨v4,rfl,KT,k4⟩;have KV:=hid (uu U main v4 w4 (KT.strs qB) qB);have K0:=dj U main;clear KT h9;go_wp2_with fail;refine KV.out.mono ?_;rintro e w5 ⟨v5,rfl,KZ,k5⟩;go_wp2_with fail;go_ret;exact⟨_,rfl,by rw[←KY.out];exact KZ.strsP qB,((k2.trans k3).trans k4).trans k5⟩
   ·rw[if_neg h6,←JR x9.out] at eE
    rw[decide_eq_false h6] at e4;have h9:=hid (lD _ [] vb (.slice none 0 0) w2 HB.out ((aA.nil w2 w2.heap.size).strs qD) (by simp;omega));have H8:=nk ((kdS (a6 kd) ss).map paI) [];have KS:([]:List ByteArray).length=0:=rfl;rw[KS] at H8;clear ha hb HA HB h6 KS;generalize fW ((kdS (a6 kd) ss).map paI) []=U at*;go_wp2_with fail;refine h9.out.mono ?_;rintro e w3 ⟨v3,rfl,x6,k3⟩;go_wp2_with fail;go_ret;exact⟨_,rfl,by rw[eE.out];exact x6.strsP qB,k2.trans k3⟩
end Go.Proofs.YtagoboblkadelaaGreat
