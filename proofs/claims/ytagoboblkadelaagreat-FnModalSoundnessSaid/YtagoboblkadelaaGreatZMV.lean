import Derived.Test.YtagoboblkadelaaGreatZML
/- own -/
namespace Go.Proofs.YtagoboblkadelaaGreat
set_option maxRecDepth 100000
set_option maxHeartbeats 4000000
open Go.RowKit
theorem xC (G:List Fm) (i:Nat) (h:i<(dX G).length):((dX G).take (i+1)).filter (fun s=>fk (txF s))=((dX G).take i).filter (fun s=>fk (txF s))++(if fk (txF (dX G)[i]) then [(dX G)[i]] else []):=by
 rw[zq h,List.filter_append]
 by_cases hb:fk (txF (dX G)[i])=true
 ·rw[if_pos hb];simp[hb]
 ·rw[if_neg hb];simp[hb]
noncomputable def iH (G:List Fm) (i:Nat):List ByteArray:=((dX G).take i).filter (fun s=>fk (txF s))
theorem B6 (G:List Fm):iH G 0=[]:=by simp[iH]
theorem Dt (G:List Fm):iH G (dX G).length=elT G:=by unfold iH elT;rw[List.take_length]
theorem Du (G:List Fm) (i:Nat):(iH G i).length≤i:=by
 unfold iH;exact zx (List.length_filter_le _ _) (by rw[List.length_take];exact Nat.min_le_left _ _)
theorem Dv {G:List Fm} {i:Nat} (h:i<(dX G).length) (he:fk (txF (dX G)[i])=true):iH G (i+1)=iH G i++[(dX G)[i]]:=by
 unfold iH;rw[xC G i h,if_pos he]
theorem FV {G:List Fm} {i:Nat} (h:i<(dX G).length) (he:fk (txF (dX G)[i])=false):iH G (i+1)=iH G i:=by
 unfold iH;rw[xC G i h,he];simp
theorem xx (zs:List (List UInt8)):(Lib.compact zs).length≤zs.length:=(pB zs).length_le
theorem yT {G:List Fm} (h:ff G):(dX G).length≤40*G.length:=by
 unfold dX du;rw[List.length_map];refine zx (xx _) ?_;rw[List.length_mergeSort,List.length_map];exact tk h
theorem FX (t:Fm):(fk t=true∧(t.kind=0∨t.kind=5∨t.kind=6))∨(fk t=false∧(t.kind=1∨t.kind=2∨t.kind=3∨t.kind=4)):=by
 cases t<;>simp[fk,Fm.kind]
def fg:List ByteArray→List Value→List Value
 | s::ss,u::us=>.string s::u::fg ss us
 | _,_=>[]
theorem pG:∀ (ss:List ByteArray) (us:List Value),ss.length=us.length→(fg ss us).length=ss.length*2
 | [],[],_=>rfl
 | s::ss,u::us,h=>by
  have:=pG ss us (by simpa using h);simp only[fg,zh,this];omega
 | [],_::_,h=>by simp at h
 | _::_,[],h=>by simp at h
theorem mA:∀ (ss:List ByteArray) (us:List Value) (s:ByteArray) (u:Value),ss.length=us.length→fg (ss++[s]) (us++[u])=fg ss us++[.string s,u]
 | [],[],_,_,_=>rfl
 | x::ss,y::us,s,u,h=>by
  have:=mA ss us s u (by simpa using h);simp only[List.cons_append,fg,this]
 | [],_::_,_,_,h=>by simp at h
 | _::_,[],_,_,h=>by simp at h
theorem pE:∀ (ss:List ByteArray) (us:List Value) (i:Nat) (h1:i<ss.length) (h2:i<us.length),(fg ss us)[i*2]? = some (.string ss[i])∧(fg ss us)[i*2+1]? = some us[i]
 | s::ss,u::us,0,_,_=>by simp[fg]
 | s::ss,u::us,i+1,h1,h2=>by
  have:=pE ss us i (by simpa using h1) (by simpa using h2)
  simpa [fg,Nat.add_mul] using this
theorem Ig:(147:TypeId)≠82:=qC
theorem JH:(Tryz.prog.info? 147).map (fun i=>(i.zero,i.size,i.bytes))=some (some (.agg #[.string ⟨#[]⟩,.slice none 0 0]),2,40):=qA
def iC (w:World) (B:Nat) (v:Value) (ss:List ByteArray) (xs:List (List Nd)):Prop:=
 ∃ us,w.ownsRow B 147 2 v ss.length (fg ss us)∧dA w B us xs∧ss.length=xs.length
theorem iC.nil (w:World) (B:Nat):iC w B (.slice none 0 0) [] []:=⟨[],World.ownsRow_nil w B _ 2,dA.nil _ _,rfl⟩
theorem iC.keeps {w w':World} {B:Nat} {v:Value} {ss:List ByteArray} {xs:List (List Nd)} (h:iC w B v ss xs) (k:aa w w'):iC w' B v ss xs:=by
 obtain⟨us,h1,h2,h3⟩:=h;exact⟨us,bw h1 k,h2.keeps k,h3⟩
theorem iC.mono {w:World} {B B':Nat} {v:Value} {ss:List ByteArray} {xs:List (List Nd)} (h:iC w B v ss xs) (k:B'≤B):iC w B' v ss xs:=by
 obtain⟨us,h1,h2,h3⟩:=h;exact⟨us,fU h1 k,h2.mono k,h3⟩
def ElL (w:World) (v:Value) (ss:List ByteArray) (xs:List (List Nd)):Prop:=
 ∃ p cap,v=.slice p ss.length cap∧ss.length≤cap∧cap≤maxLen∧ss.length=xs.length∧ss.length≤2147483648∧
  ∀ i (h1:i<ss.length) (h2:i<xs.length),∃ b off u,p=some ⟨b,off,none⟩∧w.cell? ⟨b,off+i*2,none⟩=some (.string ss[i])∧w.cell? ⟨b,off+i*2+1,none⟩=some u∧Nds w u xs[i]
theorem ElL.keeps {w w':World} {v:Value} {ss:List ByteArray} {xs:List (List Nd)} (h:ElL w v ss xs) (k:aa w w'):ElL w' v ss xs:=by
 obtain⟨p,cap,h1,h2,h3,h4,h5,h6⟩:=h;refine⟨p,cap,h1,h2,h3,h4,h5,fun i a b=>?_⟩;obtain⟨bb,off,u,e1,e2,e3,e4⟩:=h6 i a b;exact⟨bb,off,u,e1,k.cell e2,k.cell e3,e4.keeps k⟩
theorem iC.elL {w:World} {B:Nat} {v:Value} {ss:List ByteArray} {xs:List (List Nd)} (h:iC w B v ss xs) (hl:ss.length≤2147483648) (hx:∀ x∈xs,x.length≤2147483648):ElL w v ss xs:=by
 obtain⟨us,h1,h2,h3⟩:=h
 have h9:us.length=ss.length:=by rw[h2.1,h3]
 obtain⟨p,cap,e,hn,hm,eE⟩:=At.of_own h1;refine⟨p,cap,e,hn,hm,h3,hl,fun i a b=>?_⟩;obtain⟨g1,g2⟩:=pE ss us i a qB;have l2:=pG ss us h9.symm;obtain⟨bb,off,hp,hc⟩:=eE (i*2) qB;obtain⟨bb',off',hp',hc'⟩:=eE (i*2+1) qB;rw[hp] at hp'
 cases hp'
 rw[zn qB] at g1 g2;rw[Option.some.inj g1] at hc;rw[Option.some.inj g2] at hc';exact⟨bb,off,us[i]'qB,hp,hc,by rw[Nat.add_assoc];exact hc',(h2.2 i qB b).nds (hx _ (zo b))⟩
theorem Jr {w:World} {o:Oper} {a:Act} {K:Act→World→Prop} {Q:Exit→Act→World→Prop} (s x:Operand)
  (ho:o.op=.call { callee:=.builtin .append,args:=#[s,x],argTypes:=#[111,111] }) (base:Nat) (v:Value) (ss:List ByteArray) (xs:List (List Nd)) (hs:a.eval s=v)
  (w0:World) (x8:iC w0 base v ss xs) (k:aa w0 w) (t:ByteArray) (u:Value) (y:List Nd) (hu:aU w w0.heap.size u y) (h9:base≤w0.heap.size)
  (p:Option Addr) (c:Nat) (hx:a.eval x=.slice p 1 c) (H9:At w p [.string t,u]) (KP:ss.length≤1000000)
  (h:∀ v' w',iC w' base v' (ss++[t]) (xs++[y])→w.grownBy w' v.ownBlock→(∀ k,v.ownBlock=some k→base≤k)→K (a.put o.dst v') w'):o.wp Tryz.prog a w K Q:=by
 obtain⟨i0,hi,KR,KS,KT⟩:=info_parts JH;obtain⟨us,x9,hr,H8⟩:=x8
 have x7:∀ z∈[Value.string t,u],z.oneCell'=true:=by
  intro z hz
  simp at hz
  rcases hz with rfl | rfl
  ·rfl
  ·obtain⟨p,c,e,_⟩:=At.of_own hu
   rw[e];rfl
 have eE:=bw x9 k;refine bI s x _ ho _ i0 _ 2 40 Tryz.underlying111 hi KR KS KT rfl qC base v _ _ hs eE p 1 c [.string t,u] hx qD H9 x7 (by unfold maxLen;omega) qB (by have:=k.size;omega) ?_;intro v' w' h1 h2 h3;refine h v' w' ⟨us++[u],?_,?_,by simp[H8]⟩ h2 h3
 ·rw[mA _ _ _ _ (by rw[hr.1,H8]),ze]
  exact h1
 ·have H7:=hr.keeps k
  have x6:∀ i,v.ownBlock=some i→¬blk us i:=fun i hv ⟨j,hj,e⟩=>cE eE (H7.2 j hj (by have:=H7.1;omega)) Ig hv e
  refine dA.snoc ?_ (H7.touch (al.grown h2) (fun i hb e=>x6 i e.symm hb));exact(hu.touch (al.grown h2) (fun i hi e=>cE eE hu Ig e.symm hi)).mono h9
theorem Io {w:World} {ops:Array Oper} {rest:List Oper} {o:Oper} {a:Act} {Q:Exit→Act→World→Prop} (x8:o.guard=none) (s x:Operand)
  (ho:o.op=.call { callee:=.builtin .append,args:=#[s,x],argTypes:=#[111,111] }) (base:Nat) (v:Value) (ss:List ByteArray) (xs:List (List Nd)) (hs:a.eval s=v)
  (w0:World) (x6:iC w0 base v ss xs) (k:aa w0 w) (t:ByteArray) (u:Value) (y:List Nd) (hu:aU w w0.heap.size u y) (eE:base≤w0.heap.size)
  (p:Option Addr) (c:Nat) (hx:a.eval x=.slice p 1 c) (x7:At w p [.string t,u]) (h9:ss.length≤1000000)
  (h:∀ v' w',iC w' base v' (ss++[t]) (xs++[y])→w.grownBy w' v.ownBlock→(∀ k,v.ownBlock=some k→base≤k)→wpList Tryz.prog ops Q rest (a.put o.dst v') w'):wpList Tryz.prog ops Q (o::rest) a w:=
 wpList_plain x8 fun _ hK=>Jr s x ho base v ss xs hs w0 x6 k t u y hu eE p c hx x7 h9 fun v' w' h1 h2 h3=>hK _ _ (h v' w' h1 h2 h3)
theorem At.lit2 (w:World) (t:ByteArray) (u:Value) (E:TypeId):At (w.alloc (.cells #[.string t,u] E)) (some ⟨w.heap.size,0,none⟩) [.string t,u]:=by
 intro j hj
 match j,hj with
 | 0,_=>exact⟨_,_,rfl,qD⟩
 | 1,_=>exact⟨_,_,rfl,qD⟩
theorem gw (ss tt:List ByteArray) (v u:Value) (w:World) (hv:au w v ss) (hu:au w u tt) (hs:aW ss) (ht:aW tt) (Lq:ss.length≤16) (Lm:tt.length≤16):
  Calls Tryz.prog 75 #[.agg #[v,u]] w fun e w'=>∃ r,e=.returned r∧iC w' w.heap.size r (elT (fmL (ss++tt))) ((elF (fmL (ss++tt))).map Fm.enc)∧aa w w':=by
 have kA:=(aa.refl w).alloc (.cells #[v,u] 29);obtain⟨c0,c1⟩:=BoxQ.made w v u 29;have HF:=hid (vq ss tt v u _ (hv.keeps kA) (hu.keeps kA) qB)
 have Lc:∀ s∈ss++tt,∃ t,ck s t:=fun s h=>(List.mem_append.1 h).elim (hs.1 s) (ht.1 s)
 have Lg:=hid (fun v' wz (hz:au wz v' (ss++tt))=>dZ (ss++tt) Lc v' wz hz)
 have hG:ff (fmL (ss++tt)):=by rw[eN];exact(cZ hs).append (cZ ht)
 have Ls:(fmL (ss++tt)).length≤32:=by rw[ll,ze];omega
 have Lp:=rG hG;have Lj:=hid (fun v' wz (hz:bW wz v' ((fmL (ss++tt)).map Fm.enc))=>qG (fmL (ss++tt)) hG qB v' wz hz);have Lt:=yT hG
 have Lk:Hid (∀ i (h:i<(dX (fmL (ss++tt))).length),ck (dX (fmL (ss++tt)))[i] (txF (dX (fmL (ss++tt)))[i])):=hid (fun i h=>by
  obtain⟨t,_,h2⟩:=wT hG (zo h)
  exact gq ⟨t,h2⟩)
 have K0:Hid ((elF (fmL (ss++tt))).map Fm.enc=(elT (fmL (ss++tt))).map (fun s=>(txF s).enc)):=hid (by unfold elF;rw[List.map_map];rfl);rw[K0.out]
 have Lu:(ss++tt).length≤32:=by rw[ze];omega
 obtain⟨p,c,rfl,_⟩:=hv.shape;obtain⟨q,c2,rfl,_⟩:=hu.shape;clear hv hu hs ht Lc hG K0;generalize fmL (ss++tt)=G at*;generalize ss++tt=st at*;have HZ:=hid (B6 G);have Lf:=hid (Dt G);have Lh:=hid (Du G);have HY:=hid (fun i (h:i<(dX G).length)=>Dv h);have Li:=hid (fun i (h:i<(dX G).length)=>FV h);go_enter Tryz.func75,Tryz.ntmps75;go_wp2_with fail;refine HF.out.mono ?_;rintro e w2 ⟨v2,rfl,Ld,k2⟩;have H7:=hid (Lg.out v2 w2 (Ld.strs qB));go_wp2_with fail;refine H7.out.mono ?_;rintro e w3 ⟨v3,rfl,Le,k3⟩;have H8:=hid (Lj.out v3 w3 (Le.ndsL (by rw[List.length_map];omega) qB));go_wp2_with fail;refine H8.out.mono ?_;rintro e w4 ⟨v4,rfl,KV,k4⟩;have kk:=((kA.trans k2).trans k3).trans k4;have Ll:=hid (KV.strs qB);obtain⟨p4,c4,e4,Ln,KS,_⟩:=(KV.strs qB).shape;subst e4;unfold maxLen at KS;clear Ld Le KV;go_wp2
 go_loopw [3,12] (fun o i' wr=>∃ i:Nat,i≤(dX G).length∧i'=.int .i64 i∧iC wr w4.heap.size o (iH G i) ((iH G i).map (fun s=>(txF s).enc))∧aa w4 wr) (fun _ i' _=>(dX G).length-(intOf i').toNat)
 case atStart=>exact⟨0,qB,rfl,by rw[HZ.out];exact iC.nil _ _,aa.refl _⟩
 case round=>
  obtain⟨i,hi,rfl,eE,kw⟩:=hrel
  by_cases x9:i<(dX G).length
  ·have KR:(i:Int)<(dX G).length:=qB
   obtain⟨b1,o1,rfl,h1⟩:=(Ll.out.keeps kw).get i x9;have KU:=Lk.out i x9;have HP:=hid (lA _ _ wr KU);have Lr:=KU.2.2;have hy:=HY.out i x9;have Lb:=Li.out i x9;have H9:=hid hy;clear hy;have x8:=hid Lb;clear Lb;have Lw:=Lh.out i;have KT:=kw.size;clear KU;generalize (dX G)[i]=x at*;generalize hT:txF x=t at*;have HT:=hid hT;clear hT;go_wp2_with fail;refine HP.out.mono ?_;rintro e w5 ⟨v5,rfl,KY,k5⟩;have La:=KY.nds qB;obtain⟨b5,o5,n5,c5,rfl,Lx,Ly,Lo,Lz,hc,_⟩:=La.root;have KZ:=KY.keeps ((aa.refl w5).alloc (.cells #[.string x,.slice (some ⟨b5,o5,none⟩) n5 c5] 147));have k6:=k5.alloc (.cells #[.string x,.slice (some ⟨b5,o5,none⟩) n5 c5] 147);have KP:=At.lit2 w5 x (.slice (some ⟨b5,o5,none⟩) n5 c5) 147;unfold maxLen at Lo;clear La KY
   rcases FX t with ⟨he,hk⟩ | ⟨he,hk⟩
   ·rcases hk with hk | hk | hk
    ·rw[hk] at hc
     go_wp2_with (at_builtin;refine Io rfl _ _ rfl w4.heap.size _ (iH G i) ((iH G i).map (fun s=>(txF s).enc)) rfl wr eE k6 x _ t.enc KZ KT _ _ rfl KP qB ?_;intro v7 w7 x7 h9 x6;have k7:=(kw.trans k6).grown h9 x6)
     go_roundw
     case rel=>exact⟨i+1,qB,by go_num,by rw[H9.out he,List.map_append];simpa only[List.map_cons,List.map_nil,HT.out] using x7,k7⟩
     case measure=>simp[intOf];omega
    ·rw[hk] at hc
     go_wp2_with fail;refine(dG _ _).mono ?_;rintro e w' ⟨rfl,rfl⟩;rw[show ir 5=true from rfl]
     go_wp2_with (at_builtin;refine Io rfl _ _ rfl w4.heap.size _ (iH G i) ((iH G i).map (fun s=>(txF s).enc)) rfl wr eE k6 x _ t.enc KZ KT _ _ rfl KP qB ?_;intro v7 w7 x7 h9 x6;have k7:=(kw.trans k6).grown h9 x6)
     go_roundw
     case rel=>exact⟨i+1,qB,by go_num,by rw[H9.out he,List.map_append];simpa only[List.map_cons,List.map_nil,HT.out] using x7,k7⟩
     case measure=>simp[intOf];omega
    ·rw[hk] at hc
     go_wp2_with fail;refine(dG _ _).mono ?_;rintro e w' ⟨rfl,rfl⟩;rw[show ir 6=true from rfl]
     go_wp2_with (at_builtin;refine Io rfl _ _ rfl w4.heap.size _ (iH G i) ((iH G i).map (fun s=>(txF s).enc)) rfl wr eE k6 x _ t.enc KZ KT _ _ rfl KP qB ?_;intro v7 w7 x7 h9 x6;have k7:=(kw.trans k6).grown h9 x6)
     go_roundw
     case rel=>exact⟨i+1,qB,by go_num,by rw[H9.out he,List.map_append];simpa only[List.map_cons,List.map_nil,HT.out] using x7,k7⟩
     case measure=>simp[intOf];omega
   ·rcases hk with hk | hk | hk | hk
    ·rw[hk] at hc
     go_wp2_with fail;refine(dG _ _).mono ?_;rintro e w' ⟨rfl,rfl⟩;rw[show ir 1=false from rfl];go_wp2_with fail;go_roundw
     case rel=>exact⟨i+1,qB,by go_num,by rw[x8.out he];exact eE.keeps k5,kw.trans k5⟩
     case measure=>simp[intOf];omega
    ·rw[hk] at hc
     go_wp2_with fail;refine(dG _ _).mono ?_;rintro e w' ⟨rfl,rfl⟩;rw[show ir 2=false from rfl];go_wp2_with fail;go_roundw
     case rel=>exact⟨i+1,qB,by go_num,by rw[x8.out he];exact eE.keeps k5,kw.trans k5⟩
     case measure=>simp[intOf];omega
    ·rw[hk] at hc
     go_wp2_with fail;refine(dG _ _).mono ?_;rintro e w' ⟨rfl,rfl⟩;rw[show ir 3=false from rfl];go_wp2_with fail;go_roundw
     case rel=>exact⟨i+1,qB,by go_num,by rw[x8.out he];exact eE.keeps k5,kw.trans k5⟩
     case measure=>simp[intOf];omega
    ·rw[hk] at hc
     go_wp2_with fail;refine(dG _ _).mono ?_;rintro e w' ⟨rfl,rfl⟩;rw[show ir 4=false from rfl];go_wp2_with fail;go_roundw
     case rel=>exact⟨i+1,qB,by go_num,by rw[x8.out he];exact eE.keeps k5,kw.trans k5⟩
     case measure=>simp[intOf];omega
  ·obtain rfl:i=(dX G).length:=qB
   have KR:¬(((dX G).length:Int)<(dX G).length):=qB;rw[Lf.out] at eE;go_wp2;go_ret;exact⟨_,rfl,eE.mono kk.size,kk.trans kw⟩
theorem Hz (k i k' i':Int) (w:World):(binOp .neq 82 (.agg #[.int .i64 k,.int .i64 i]) (.agg #[.int .i64 k',.int .i64 i'])).run Tryz.prog w=.ok (.bool (!(k==k'&&i==i'))) w:=by
 by_cases h1:k=k'<;>by_cases h2:i=i'<;>simp[go_sem,h1,h2]
theorem zQ (a b:List Nd) (va vb:Value) (w:World) (KU:Nds w va a) (KV:Nds w vb b):
  Calls Tryz.prog 203 #[va,vb] w fun e w'=>e=.returned (.bool (decide (a=b)))∧aa w w':=by
 have x7:=KU;have x8:=KV;obtain⟨pa,ca,rfl,KY,H7,_,H9⟩:=KU;obtain⟨pb,cb,rfl,KZ,H8,_,KP⟩:=KV;unfold maxLen at H7 H8
 by_cases hl:a.length=b.length
 ·have hl':((a.length:Int) != (b.length:Int))=false:=by simp[hl]
  have HL:=hid hl;clear hl;go_enter Tryz.func203,Tryz.ntmps203;go_wp2
  go_loopw [4,13] (fun r i' wr=>∃ k:Nat,k≤a.length∧a.take k=b.take k∧aa w wr∧i'=.int .i64 k∧r=.bool false) (fun _ i _=>a.length-(intOf i).toNat)
  case atStart=>exact⟨0,qB,rfl,aa.refl w,rfl,rfl⟩
  case round=>
   obtain⟨k,hk,KT,kw,rfl,rfl⟩:=hrel;have HT:=hid KT;clear KT;clear hl'
   by_cases KR:k<a.length
   ·have x6:k<b.length:=by have:=HL.out;omega
    obtain⟨_,_,e1,_,_,eE,_⟩:=x7.keeps kw;obtain⟨_,_,e2,_,_,h9,_⟩:=x8.keeps kw
    cases e1;cases e2
    obtain⟨b1,o1,rfl,h1,h2⟩:=eE.nd k KR;obtain⟨b2,o2,rfl,h3,h4⟩:=h9.nd k x6;clear eE h9 x7 x8;have x9:(k:Int)<a.length:=qB;have KS:(k:Int)<b.length:=qB
    by_cases he:a[k]=b[k]
    ·have HE:=hid he
     rw[he] at h1 h2
     have hd:=fun wz=>Hz b[k].k b[k].s b[k].k b[k].s wz
     simp only[beq_self_eq_true,Bool.and_self,Bool.not_true] at hd;go_wp2_with fail
     go_quiet (fail)
     go_wp2;go_roundw
     case rel=>exact⟨k+1,qB,by rw[zq KR,zq x6,HT.out,HE.out],kw.drewN _,by go_num,rfl⟩
     case measure=>simp[intOf];omega
    ·have HE:=hid he
     have hd:=fun wz=>Hz a[k].k a[k].s b[k].k b[k].s wz
     rw[show(a[k].k==b[k].k&&a[k].s==b[k].s)=false by
      rw[Bool.eq_false_iff];intro h;rw[zk,beq_iff_eq,beq_iff_eq] at h
      exact he (by cases hx:a[k];cases hy:b[k];rw[hx,hy] at h;simp at h;rw[h.1,h.2]),Bool.not_false] at hd
     clear he;go_wp2_with fail
     go_quiet (fail)
     go_wp2;go_ret;refine⟨ab ?_,kw.drewN _⟩
     symm;rw[decide_eq_false_iff_not]
     rintro rfl;exact HE.out rfl
   ·have x9:¬(k:Int)<a.length:=qB
    go_wp2;go_ret;refine⟨ab ?_,kw⟩
    symm;rw[decide_eq_true_eq]
    have h1:=HL.out;have h2:=HT.out;rw[List.take_of_length_le qB,List.take_of_length_le qB] at h2;exact h2
 ·have hl':((a.length:Int) != (b.length:Int))=true:=by simp;omega
  have HL:=hid hl;clear hl;go_enter Tryz.func203,Tryz.ntmps203;go_wp2;go_ret;refine⟨ab ?_,aa.refl _⟩
  symm;rw[decide_eq_false_iff_not]
  rintro rfl;exact HL.out rfl
theorem ET (a b:List Nd) (va vb:Value) (w:World) (eE:Nds w va a) (h9:Nds w vb b):
  Calls Tryz.prog 170 #[va,vb] w fun e w'=>e=.returned (.bool (decide (a=b)))∧aa w w':=by
 have H:=hid (zQ a b va vb w eE h9);clear eE h9;go_enter Tryz.func170,Tryz.ntmps170;go_wp2_with fail;refine H.out.mono ?_;rintro e w2 ⟨rfl,k2⟩;go_wp2_with fail;go_ret;exact⟨rfl,k2⟩
theorem DK (E:List Fm) (t:Fm) (h:t∈E):∀ k,idxOf (fun x=>decide (x=t.enc)) (E.map Fm.enc) k=((k+E.idxOf t:Nat):Int)∧E.idxOf t<E.length:=by
 induction E with
 | nil=>simp at h
 | cons a E ih=>
  intro k
  by_cases ha:a=t
  ·subst ha
   simp[idxOf]
  ·have eE:¬a.enc=t.enc:=fun e=>ha (qR e)
   have hm:t∈E:=by simpa [Ne.symm ha,eq_comm] using h
   obtain⟨h1,h2⟩:=ih hm (k+1)
   have hi:List.idxOf t (a::E)=List.idxOf t E+1:=by rw[List.idxOf_cons,show(a==t)=false by simp[ha]];rfl
   rw[hi];refine⟨?_,by simp;omega⟩;simp only[List.map_cons,idxOf,eE,decide_false];simp only[Bool.false_eq_true,if_false];rw[h1];congr 1;omega
theorem zW (pr:List Nd→Bool) (f:FuncId) (cp:Array Value) (ss:List ByteArray) (xs:List (List Nd)) (v:Value) (w:World) (hv:ElL w v ss xs) (x8:aG f)
  (hf:∀ (i:Nat) (h:i<xs.length) (s:ByteArray) (u:Value) (w1:World),aa w w1→Nds w1 u xs[i]→Calls Tryz.prog f (#[.agg #[.string s,u]]++cp) w1 fun e w2=>e=.returned (.bool (pr xs[i]))∧aa w1 w2):
  Calls Tryz.prog 168 #[v,.func (.func f) #[] cp] w fun e w'=>e=.returned (.int .i64 (idxOf pr xs 0))∧aa w w':=by
 have H7:=hv;obtain⟨p,cap,rfl,KT,KS,H8,KP,_⟩:=hv;unfold maxLen at KS;have x7:=hid H8;clear H8;have HF:=hid hf;clear hf
 have H9:∀ args w,(callFunc f args).run Tryz.prog w=.ok (.enter f args) w:=x8
 clear x8;go_enter Tryz.func168,Tryz.ntmps168;go_wp2
 go_loopw [4,8] (fun r i' wr=>∃ k:Nat,k≤ss.length∧idxOf pr xs 0=idxOf pr (xs.drop k) k∧aa w wr∧i'=.int .i64 k∧r=.int .i64 0) (fun _ i _=>ss.length-(intOf i).toNat)
 case atStart=>exact⟨0,qB,qD,aa.refl w,rfl,rfl⟩
 case round=>
  obtain⟨k,hk,hs,kw,rfl,rfl⟩:=hrel;have Hs:=hid hs;clear hs
  by_cases KR:k<ss.length
  ·have eE:k<xs.length:=by have:=x7.out;omega
   obtain⟨_,_,e0,-,-,-,-,h9⟩:=H7.keeps kw;obtain⟨b1,o1,u1,e1,h1,h2,x9⟩:=h9 k KR eE
   cases e0
   cases e1
   have hd:=hid (ea pr xs k eE);obtain⟨q1,n1,c1',rfl⟩:=x9.shape;clear H7 h9;have x6:(k:Int)<ss.length:=qB
   cases hp:pr xs[k]
   all_goals
    have Hp:=hid hp;clear hp
    go_wp2_with ((with_reducible refine(HF.out k eE ss[k] (.slice q1 n1 c1') wr kw x9).mono ?_);rintro e w2 ⟨rfl,k2⟩;rw[Hp.out])
   ·go_roundw
    case rel=>exact⟨k+1,qB,by rw[Hs.out,hd.out,Hp.out];rfl,kw.trans k2,by go_num,rfl⟩
    case measure=>simp[intOf];omega
   ·go_ret
    exact⟨aK (by rw[Hs.out,hd.out,Hp.out];rfl),kw.trans k2⟩
  ·have x6:¬(k:Int)<ss.length:=qB
   go_wp2;go_ret;exact⟨aK (by rw[Hs.out,eT _ _ _ (by have:=x7.out;omega)]),kw⟩
theorem wZ (s:ByteArray) (x y:List Nd) (u vf:Value) (g:Nat) (w:World) (hc:w.cell? ⟨g,0,none⟩=some vf) (hf:Nds w vf y) (hu:Nds w u x):
  Calls Tryz.prog 169 #[.agg #[.string s,u],.pointer (some ⟨g,0,none⟩)] w fun e w'=>e=.returned (.bool (decide (x=y)))∧aa w w':=by
 obtain⟨p,c,rfl,-⟩:=id hf;obtain⟨q,c2,rfl,-⟩:=id hu;have kA:=(aa.refl w).alloc (.cells #[.string s,.slice q x.length c2] 147);have cA:=kA.cell hc;have H:=hid (ET x y _ _ _ (hu.keeps kA) (hf.keeps kA));clear hf hu hc;go_enter Tryz.func169,Tryz.ntmps169;go_wp2_with fail;refine H.out.mono ?_;rintro e w2 ⟨rfl,k2⟩;go_wp2_with fail;go_ret;exact⟨rfl,kA.trans k2⟩
theorem qc:aG 169:=fun _ _=>by kernel_rfl
theorem mq (E:List Fm) (ss:List ByteArray) (h8:E.length≤8) (m:Nat) (hm:m<256) (t:Fm) (hk:t.kind=0∨t.kind=5∨t.kind=6) (ht:t∈E) (v:Value) (w:World) (r:Nat) (pv:Value)
  (hv:Nds w v t.enc) (h9:w.cell? ⟨r,1,none⟩=some pv) (hp:ElL w pv ss (E.map Fm.enc)):
  Calls Tryz.prog 119 #[.pointer (some ⟨r,0,none⟩),v,.int .i64 m] w fun e w'=>e=.returned (.bool (m.testBit (E.idxOf t)))∧aa w w':=by
 have x6:=hv;obtain⟨b,off,n,cap,rfl,h0,h1,h2,h3,hc,-⟩:=hv.root;have kA:=(aa.refl w).alloc (.cells #[.slice (some ⟨b,off,none⟩) n cap] 50)
 have c0:(w.alloc (.cells #[.slice (some ⟨b,off,none⟩) n cap] 50)).cell? ⟨w.heap.size,0,none⟩=some (.slice (some ⟨b,off,none⟩) n cap):=by simp
 have x8:=kA.cell hc;have x7:=kA.cell h9;obtain⟨eE,x9⟩:=DK E t ht 0;rw[Nat.zero_add] at eE
 have HI:=hid (zW (fun x=>decide (x=t.enc)) 169 #[.pointer (some ⟨w.heap.size,0,none⟩)] ss (E.map Fm.enc) pv _ (hp.keeps kA) qc
  (fun i h s u w1 k1 hu=>wZ s _ _ u _ _ w1 (k1.cell c0) ((x6.keeps kA).keeps k1) hu))
 rw[eE] at HI;have HB:=hid (fun wz=>xR m (E.idxOf t) wz hm qB);unfold maxLen at h2;obtain⟨pp,pc,rfl,-⟩:=hp;clear hv x6 h9 hc;generalize hJ:E.idxOf t=j;rw[hJ] at HI HB;clear hJ eE x9
 rcases hk with hk | hk | hk
 all_goals
  rw[hk] at x8;go_enter Tryz.func119,Tryz.ntmps119;go_wp2_with fail;refine HI.out.mono ?_;rintro e w2 ⟨rfl,k2⟩;go_wp2_with fail;refine(HB.out _).mono ?_;rintro e w3 ⟨rfl,rfl⟩;go_wp2_with fail;go_ret;exact⟨rfl,kA.trans k2⟩
structure Nee where
 ix:Nat
 bx:Bool
 inn:List Bool
def Nee.kd (n:Nee):Int:=if n.bx then 5 else 6
def Nee.dem (n:Nee) (m:Nat):Bool:=m.testBit n.ix==n.bx
def Nee.mee (n:Nee) (m:Nat):Bool:=n.inn.getD m false==n.bx
def xf (w:World) (v:Value) (ns:List Nee):Prop:=
 ∃ p cap,v=.slice p ns.length cap∧ns.length≤cap∧cap≤maxLen∧ns.length≤8∧
  ∀ i (h:i<ns.length),∃ b off u,p=some ⟨b,off,none⟩∧w.cell? ⟨b,off+i*3,none⟩=some (.int .i64 ns[i].ix)∧w.cell? ⟨b,off+i*3+1,none⟩=some (.int .i64 ns[i].kd)∧w.cell? ⟨b,off+i*3+2,none⟩=some u∧cN w u ns[i].inn
theorem xf.keeps {w w':World} {v:Value} {ns:List Nee} (h:xf w v ns) (k:aa w w'):xf w' v ns:=by
 obtain⟨p,cap,h1,h2,h3,h4,h5⟩:=h;exact⟨p,cap,h1,h2,h3,h4,fun i a=>by obtain⟨b,off,u,e1,e2,e3,e4,e5⟩:=h5 i a;exact⟨b,off,u,e1,k.cell e2,k.cell e3,k.cell e4,e5.keeps k⟩⟩
theorem cN.shape {w:World} {v:Value} {a:List Bool} (h:cN w v a):∃ p c,v=.slice p a.length c∧a.length≤c∧c≤maxLen:=by
 obtain⟨p,c,e,h1,h2,_⟩:=h;exact⟨p,c,e,h1,h2⟩
theorem uU (w:World) (a b c:Value) (ty:TypeId):(w.alloc (.cells #[a,b,c] ty)).cell? ⟨w.heap.size,0,none⟩=some a∧(w.alloc (.cells #[a,b,c] ty)).cell? ⟨w.heap.size,1,none⟩=some b∧(w.alloc (.cells #[a,b,c] ty)).cell? ⟨w.heap.size,2,none⟩=some c:=by
 refine⟨?_,?_,?_⟩<;>simp
theorem dc (n:Nee) (hi:n.ix≤8) (m:Nat) (hm:m<256) (q:Option Addr) (l c:Nat) (w:World):
  Calls Tryz.prog 175 #[.agg #[.int .i64 n.ix,.int .i64 n.kd,.slice q l c],.int .i64 m] w fun e w'=>e=.returned (.bool (n.dem m))∧aa w w':=by
 obtain⟨ix,bx,inn⟩:=n;have kA:=(aa.refl w).alloc (.cells #[.int .i64 ix,.int .i64 (Nee.kd ⟨ix,bx,inn⟩),.slice q l c] 153);obtain⟨c0,c1,c2⟩:=uU w (.int .i64 ix) (.int .i64 (Nee.kd ⟨ix,bx,inn⟩)) (.slice q l c) 153;have HB:=hid (fun wz=>xR m ix wz hm hi);have HD:Hid (Nee.dem ⟨ix,bx,inn⟩ m=(m.testBit ix==bx)):=hid rfl;rw[HD.out]
 cases bx
 ·rw[show Nee.kd ⟨ix,false,inn⟩=6 from rfl] at*
  go_enter Tryz.func175,Tryz.ntmps175;go_wp2_with fail
  go_quiet (first | (go_at_call 167;refine mi (HB.out _)))
  go_wp2_with fail;go_ret;exact⟨ab (by cases m.testBit ix<;>rfl),kA.drewN _⟩
 ·rw[show Nee.kd ⟨ix,true,inn⟩=5 from rfl] at*
  go_enter Tryz.func175,Tryz.ntmps175;go_wp2_with fail
  go_quiet (first | (go_at_call 167;refine mi (HB.out _)))
  go_wp2_with fail;go_ret;exact⟨ab (by cases m.testBit ix<;>rfl),kA.drewN _⟩
theorem oD (n:Nee) (m:Nat) (hm:m<n.inn.length) (eE:n.inn.length≤256) (u:Value) (w:World) (hu:cN w u n.inn):
  Calls Tryz.prog 176 #[.agg #[.int .i64 n.ix,.int .i64 n.kd,u],.int .i64 m] w fun e w'=>e=.returned (.bool (n.mee m))∧aa w w':=by
 obtain⟨ix,bx,inn⟩:=n
 simp only at hm eE hu
 have x6:=hu;obtain⟨q,c,rfl,hl,hx⟩:=hu.shape;unfold maxLen at hx;have kA:=(aa.refl w).alloc (.cells #[.int .i64 ix,.int .i64 (Nee.kd ⟨ix,bx,inn⟩),.slice q inn.length c] 153);obtain⟨c0,c1,c2⟩:=uU w (.int .i64 ix) (.int .i64 (Nee.kd ⟨ix,bx,inn⟩)) (.slice q inn.length c) 153;obtain⟨_,_,e0,-,-,h9,-⟩:=x6.keeps kA
 cases e0
 obtain⟨b,off,rfl,h1⟩:=h9.bool m hm;have hm':(m:Int)<inn.length:=qB;have HD:Hid (Nee.mee ⟨ix,bx,inn⟩ m=(inn[m]==bx)):=hid (by unfold Nee.mee;rw[zi,zn hm];rfl);rw[HD.out];clear hu x6 h9;generalize inn[m]=y at*
 cases bx
 ·rw[show Nee.kd ⟨ix,false,inn⟩=6 from rfl] at*
  go_enter Tryz.func176,Tryz.ntmps176;go_wp2_with fail
  go_quiet (fail)
  go_wp2_with fail;go_ret;exact⟨ab (by cases y<;>rfl),kA.drewN _⟩
 ·rw[show Nee.kd ⟨ix,true,inn⟩=5 from rfl] at*
  go_enter Tryz.func176,Tryz.ntmps176;go_wp2_with fail
  go_quiet (fail)
  go_wp2_with fail;go_ret;exact⟨ab (by cases y<;>rfl),kA.drewN _⟩
theorem xT (pr:Nee→Bool) (f:FuncId) (cp:Array Value) (ns:List Nee) (v:Value) (w:World) (hv:xf w v ns) (x7:aG f)
  (hf:∀ (n:Nee) (q:Option Addr) (c:Nat) (w1:World),n∈ns→aa w w1→cN w1 (.slice q n.inn.length c) n.inn→Calls Tryz.prog f (#[.agg #[.int .i64 n.ix,.int .i64 n.kd,.slice q n.inn.length c]]++cp) w1 fun e w2=>e=.returned (.bool (pr n))∧aa w1 w2):
  Calls Tryz.prog 204 #[v,.func (.func f) #[] cp] w fun e w'=>e=.returned (.int .i64 (idxOf pr ns 0))∧aa w w':=by
 have x9:=hv;obtain⟨p,cap,rfl,KP,H9,H8,-⟩:=hv;unfold maxLen at H9;have HF:=hid hf;clear hf
 have H7:∀ args w,(callFunc f args).run Tryz.prog w=.ok (.enter f args) w:=x7
 clear x7;go_enter Tryz.func204,Tryz.ntmps204;go_wp2
 go_loopw [4,8] (fun r i' wr=>∃ k:Nat,k≤ns.length∧idxOf pr ns 0=idxOf pr (ns.drop k) k∧aa w wr∧i'=.int .i64 k∧r=.int .i64 0) (fun _ i _=>ns.length-(intOf i).toNat)
 case atStart=>exact⟨0,qB,qD,aa.refl w,rfl,rfl⟩
 case round=>
  obtain⟨k,hk,hs,kw,rfl,rfl⟩:=hrel;have Hs:=hid hs;clear hs
  by_cases h9:k<ns.length
  ·obtain⟨_,_,e0,-,-,-,eE⟩:=x9.keeps kw
   obtain⟨b1,o1,u1,e1,h1,h2,h3,x8⟩:=eE k h9
   cases e0
   cases e1
   have hd:=hid (ea pr ns k h9);obtain⟨q1,c1',rfl,-,-⟩:=x8.shape;clear x9 eE;have x6:(k:Int)<ns.length:=qB
   cases hp:pr ns[k]
   all_goals
    have Hp:=hid hp;clear hp
    go_wp2_with ((with_reducible refine(HF.out ns[k] q1 c1' wr (zo h9) kw x8).mono ?_);rintro e w2 ⟨rfl,k2⟩;rw[Hp.out])
   ·go_roundw
    case rel=>exact⟨k+1,qB,by rw[Hs.out,hd.out,Hp.out];rfl,kw.trans k2,by go_num,rfl⟩
    case measure=>simp[intOf];omega
   ·go_ret
    exact⟨aK (by rw[Hs.out,hd.out,Hp.out];rfl),kw.trans k2⟩
  ·have x6:¬(k:Int)<ns.length:=qB
   go_wp2;go_ret;exact⟨aK (by rw[Hs.out,eT _ _ _ qB]),kw⟩
theorem dY (pr:Nee→Bool) (f:FuncId) (cp:Array Value) (ns:List Nee) (v:Value) (w:World) (hv:xf w v ns) (eE:aG f)
  (hf:∀ (n:Nee) (q:Option Addr) (c:Nat) (w1:World),n∈ns→aa w w1→cN w1 (.slice q n.inn.length c) n.inn→Calls Tryz.prog f (#[.agg #[.int .i64 n.ix,.int .i64 n.kd,.slice q n.inn.length c]]++cp) w1 fun e w2=>e=.returned (.bool (pr n))∧aa w1 w2):
  Calls Tryz.prog 173 #[v,.func (.func f) #[] cp] w fun e w'=>e=.returned (.bool (ns.any pr))∧aa w w':=by
 have H:=hid (xT pr f cp ns v w hv eE hf);clear hv hf eE;have he:=hid (fI pr ns 0);go_enter Tryz.func173,Tryz.ntmps173
 go_wp2_with (go_at_call 204;refine H.out.mono ?_;rintro e w2 ⟨rfl,k2⟩)
 go_ret;exact⟨ab he.out,k2⟩
def lgS:Nat→ByteArray
 | 0=>⟨#[75]⟩
 | 1=>⟨#[68]⟩
 | 2=>⟨#[84]⟩
 | 3=>⟨#[75,52]⟩
 | 4=>⟨#[83,52]⟩
 | 5=>⟨#[71,76]⟩
 | 6=>⟨#[83,53]⟩
 | _=>⟨#[75,66]⟩
def yw (L:Nat) (f t:Nat) (n:Nee):Bool:=!n.dem f||(if L=3∨L=5 then n.mee t&&n.dem t else if L=4 then n.dem t else n.mee t)
def hU (L:Nat) (ns:List Nee) (f t:Nat):Bool:=ns.all (yw L f t)
def jw (L:Nat) (ns:List Nee) (f t:Nat):Bool:=
 if L=6 then ns.all fun n=>n.dem f==n.dem t
 else if L=7 then hU L ns f t&&hU L ns t f
 else if L=5 then hU L ns f t&&ns.any fun n=>n.dem t&&!n.dem f
 else hU L ns f t
def Ej (L:Nat) (ns:List Nee) (m:Nat):Bool:=!(decide (L=2∨L=4∨L=6))||ns.all fun n=>!n.dem m||n.mee m
structure TyN (w:World) (r L N:Nat) (ns:List Nee):Prop where
 c0:w.cell? ⟨r,0,none⟩=some (.string (lgS L))
 c2:∃ v,w.cell? ⟨r,2,none⟩=some v∧xf w v ns
 hL:L<8
 hi:∀ n∈ns,n.ix≤8
 hl:∀ n∈ns,n.inn.length=N
 hN:N≤256
theorem TyN.keeps {w w':World} {r L N:Nat} {ns:List Nee} (h:TyN w r L N ns) (k:aa w w'):TyN w' r L N ns:=by
 obtain⟨v,h1,h2⟩:=h.c2;exact⟨k.cell h.c0,⟨v,k.cell h1,h2.keeps k⟩,h.hL,h.hi,h.hl,h.hN⟩
theorem mr {α:Type} (l:List α) (p:α→Bool):(l.any fun x=>!p x)=!l.all p:=by
 induction l with
 | nil=>rfl
 | cons a l ih=>rw[List.any_cons,List.all_cons,ih,Bool.not_and]
theorem xt (w:World) (a:Value) (ty:TypeId):(w.alloc (.cells #[a] ty)).cell? ⟨w.heap.size,0,none⟩=some a:=by simp
theorem sW (w:World) (o:Obj):(w.alloc o).heap.size=w.heap.size+1:=by simp
theorem two (w:World) (a b:Value) (ta tb:TypeId):aa w ((w.alloc (.cells #[a] ta)).alloc (.cells #[b] tb))∧((w.alloc (.cells #[a] ta)).alloc (.cells #[b] tb)).cell? ⟨w.heap.size,0,none⟩=some a∧
  ((w.alloc (.cells #[a] ta)).alloc (.cells #[b] tb)).cell? ⟨w.heap.size+1,0,none⟩=some b:=by
 have h2:=xt (w.alloc (.cells #[a] ta)) b tb;rw[sW] at h2;exact⟨((aa.refl w).alloc _).alloc _,((aa.refl _).alloc _).cell (xt w a ta),h2⟩
theorem J4 (w:World) (a b c:Value) (ta tb tc:TypeId):aa w (((w.alloc (.cells #[a] ta)).alloc (.cells #[b] tb)).alloc (.cells #[c] tc))∧(((w.alloc (.cells #[a] ta)).alloc (.cells #[b] tb)).alloc (.cells #[c] tc)).cell? ⟨w.heap.size,0,none⟩=some a∧
  (((w.alloc (.cells #[a] ta)).alloc (.cells #[b] tb)).alloc (.cells #[c] tc)).cell? ⟨w.heap.size+1,0,none⟩=some b∧(((w.alloc (.cells #[a] ta)).alloc (.cells #[b] tb)).alloc (.cells #[c] tc)).cell? ⟨w.heap.size+2,0,none⟩=some c:=by
 obtain⟨k,h1,h2⟩:=two w a b ta tb;have h3:=xt ((w.alloc (.cells #[a] ta)).alloc (.cells #[b] tb)) c tc;rw[sW,sW] at h3;exact⟨k.alloc _,((aa.refl _).alloc _).cell h1,((aa.refl _).alloc _).cell h2,h3⟩
theorem fY (L:Nat) (hL:L<8) (w:World):Calls Tryz.prog 172 #[.string (lgS L)] w fun e w'=>e=.returned (.bool (decide (L=2∨L=4∨L=6)))∧w=w':=by
 have h8:L=0∨L=1∨L=2∨L=3∨L=4∨L=5∨L=6∨L=7:=qB;clear hL
 rcases h8 with rfl | rfl | rfl | rfl | rfl | rfl | rfl | rfl
 all_goals
  simp only[lgS];go_enter Tryz.func172,Tryz.ntmps172;go_wp2;go_ret;exact⟨ab qC,rfl⟩
theorem rU (n:Nee) (hi:n.ix≤8) (m:Nat) (hm:m<n.inn.length) (hN:n.inn.length≤256) (q:Option Addr) (c g:Nat) (w:World) (hq:cN w (.slice q n.inn.length c) n.inn) (c1:w.cell? ⟨g,0,none⟩=some (.int .i64 m)):
  Calls Tryz.prog 174 #[.agg #[.int .i64 n.ix,.int .i64 n.kd,.slice q n.inn.length c],.pointer (some ⟨g,0,none⟩)] w fun e w'=>e=.returned (.bool (!(!n.dem m||n.mee m)))∧aa w w':=by
 have kA:=(aa.refl w).alloc (.cells #[.int .i64 n.ix,.int .i64 n.kd,.slice q n.inn.length c] 153);obtain⟨d0,d1,d2⟩:=uU w (.int .i64 n.ix) (.int .i64 n.kd) (.slice q n.inn.length c) 153;have c1A:=kA.cell c1;have HD:=hid (fun wz=>dc n hi m qB q n.inn.length c wz);have HM:=hid (fun wz (kz:aa w wz)=>oD n m hm hN (.slice q n.inn.length c) wz (hq.keeps kz));clear hq c1;generalize n.inn.length=l at*;generalize n.kd=k at*;generalize n.ix=i at*;generalize n.dem m=y at*;generalize n.mee m=z at*;go_enter Tryz.func174,Tryz.ntmps174;go_wp2_with fail;refine(HD.out _).mono ?_;rintro e w2 ⟨rfl,k2⟩;have e0:=k2.cell d0;have e1:=k2.cell d1;have e2:=k2.cell d2;have e3:=k2.cell c1A
 cases y
 ·go_wp2_with fail
  go_ret;exact⟨rfl,kA.trans k2⟩
 ·go_wp2_with fail
  refine(HM.out _ (kA.trans k2)).mono ?_;rintro e w3 ⟨rfl,k3⟩;go_wp2_with fail;go_ret;exact⟨ab (by cases z<;>rfl),(kA.trans k2).trans k3⟩
theorem mD:aG 174:=fun _ _=>by kernel_rfl
theorem lW (r L N:Nat) (ns:List Nee) (m:Nat) (hm:m<N) (w:World) (h:TyN w r L N ns):
  Calls Tryz.prog 124 #[.pointer (some ⟨r,0,none⟩),.int .i64 m] w fun e w'=>e=.returned (.bool (Ej L ns m))∧aa w w':=by
 have kA:=(aa.refl w).alloc (.cells #[.int .i64 m] 2)
 have cm:(w.alloc (.cells #[.int .i64 m] 2)).cell? ⟨w.heap.size,0,none⟩=some (.int .i64 m):=by simp
 have hA:=h.keeps kA;have d0:=hA.c0;have HR:=hid (fun wz=>fY L h.hL wz);obtain⟨v,d2,eE⟩:=hA.c2
 have HC:=hid (dY (fun n=>!(!n.dem m||n.mee m)) 174 #[.pointer (some ⟨w.heap.size,0,none⟩)] ns v _ eE mD
  (fun n q c w1 hn k1 hb=>rU n (h.hi n hn) m (by rw[h.hl n hn];exact hm) (by rw[h.hl n hn];exact h.hN) q c _ w1 hb (k1.cell cm)))
 rw[mr] at HC;have hD:Ej L ns m=(!(decide (L=2∨L=4∨L=6))||ns.all fun n=>!n.dem m||n.mee m):=rfl;obtain⟨p,c,rfl,-⟩:=eE;clear h hA;generalize lgS L=s at*;generalize Ej L ns m=y at*;subst hD;generalize decide (L=2∨L=4∨L=6)=z at*;go_enter Tryz.func124,Tryz.ntmps124;go_wp2_with fail;refine(HR.out _).mono ?_;rintro e w' ⟨rfl,rfl⟩;clear HR
 cases z
 ·go_wp2_with fail
  go_ret;exact⟨rfl,kA⟩
 ·go_wp2_with fail
  refine HC.out.mono ?_;rintro e w2 ⟨rfl,k2⟩;go_wp2_with fail;go_ret;exact⟨ab qD,kA.trans k2⟩
theorem yG (L:Nat) (hL:L<8) (n:Nee) (hi:n.ix≤8) (f t:Nat) (hf:f<256) (ht:t<n.inn.length) (hN:n.inn.length≤256) (q:Option Addr) (c gf gy gt r:Nat) (w:World)
  (hq:cN w (.slice q n.inn.length c) n.inn) (c1:w.cell? ⟨gf,0,none⟩=some (.int .i64 f)) (c2:w.cell? ⟨gy,0,none⟩=some (.pointer (some ⟨r,0,none⟩))) (c3:w.cell? ⟨gt,0,none⟩=some (.int .i64 t)) (c0:w.cell? ⟨r,0,none⟩=some (.string (lgS L))):
  Calls Tryz.prog 259 #[.agg #[.int .i64 n.ix,.int .i64 n.kd,.slice q n.inn.length c],.pointer (some ⟨gf,0,none⟩),.pointer (some ⟨gy,0,none⟩),.pointer (some ⟨gt,0,none⟩)] w
   fun e w'=>e=.returned (.bool (!yw L f t n))∧aa w w':=by
 have kA:=(aa.refl w).alloc (.cells #[.int .i64 n.ix,.int .i64 n.kd,.slice q n.inn.length c] 153);obtain⟨d0,d1,d2⟩:=uU w (.int .i64 n.ix) (.int .i64 n.kd) (.slice q n.inn.length c) 153;have h9:=hid (fun wz=>dc n hi f qB q n.inn.length c wz);have eE:=hid (fun wz=>dc n hi t qB q n.inn.length c wz);have HM:=hid (fun wz (kz:aa w wz)=>oD n t ht hN (.slice q n.inn.length c) wz (hq.keeps kz))
 replace c0:=kA.cell c0
 replace c1:=kA.cell c1
 replace c2:=kA.cell c2
 replace c3:=kA.cell c3
 have hP:yw L f t n=(!n.dem f||(if L=3∨L=5 then n.mee t&&n.dem t else if L=4 then n.dem t else n.mee t)):=rfl;have HP:=hid hP;clear hq hP hi ht hN;generalize yw L f t n=P at*;generalize n.inn.length=l at*;generalize n.kd=k at*;generalize n.ix=i at*;generalize n.dem f=x at*;generalize n.dem t=y at*;generalize n.mee t=z at*;go_enter Tryz.func259,Tryz.ntmps259;go_wp2_with fail;refine(h9.out _).mono ?_;rintro e w2 ⟨rfl,k2⟩
 replace d0:=k2.cell d0
 replace d1:=k2.cell d1
 replace d2:=k2.cell d2
 replace c0:=k2.cell c0
 replace c2:=k2.cell c2
 replace c3:=k2.cell c3
 clear c1;have kk:=kA.trans k2
 cases x
 ·go_wp2_with fail
  go_ret;exact⟨ab (by rw[HP.out];rfl),kk⟩
 ·have h8:(L=3∨L=5)∨L=4∨(L=0∨L=1∨L=2∨L=6∨L=7):=qB
  clear hL
  rcases h8 with (rfl | rfl) | rfl | (rfl | rfl | rfl | rfl | rfl)
  iterate 2
   ·simp only[lgS] at c0
    go_wp2_with fail;refine(HM.out _ kk).mono ?_;rintro e w3 ⟨rfl,k3⟩
    replace d0:=k3.cell d0
    replace d1:=k3.cell d1
    replace d2:=k3.cell d2
    replace c3:=k3.cell c3
    cases z
    ·go_wp2_with fail
     go_ret;exact⟨ab (by rw[HP.out];rfl),kk.trans k3⟩
    ·go_wp2_with fail
     refine(eE.out _).mono ?_;rintro e w4 ⟨rfl,k4⟩;go_wp2_with fail;go_ret;exact⟨ab (by rw[HP.out];cases y<;>rfl),(kk.trans k3).trans k4⟩
  ·simp only[lgS] at c0
   go_wp2_with fail;refine(eE.out _).mono ?_;rintro e w4 ⟨rfl,k4⟩;go_wp2_with fail;go_ret;exact⟨ab (by rw[HP.out];cases y<;>rfl),kk.trans k4⟩
  all_goals
   simp only[lgS] at c0;go_wp2_with fail;refine(HM.out _ kk).mono ?_;rintro e w3 ⟨rfl,k3⟩;go_wp2_with fail;go_ret;exact⟨ab (by rw[HP.out];cases z<;>rfl),kk.trans k3⟩
theorem rH:aG 259:=fun _ _=>by kernel_rfl
theorem sN (r L N:Nat) (ns:List Nee) (f t:Nat) (hf:f<N) (ht:t<N) (w:World) (h:TyN w r L N ns):
  Calls Tryz.prog 254 #[.pointer (some ⟨r,0,none⟩),.int .i64 f,.int .i64 t] w fun e w'=>e=.returned (.bool (hU L ns f t))∧aa w w':=by
 have hN:=h.hN;obtain⟨kA,cy,cf,ct⟩:=J4 w (.pointer (some ⟨r,0,none⟩)) (.int .i64 f) (.int .i64 t) 113 2 2;have hA:=h.keeps kA;have d0:=hA.c0;obtain⟨v,d2,eE⟩:=hA.c2
 have HC:=hid (dY (fun n=>!yw L f t n) 259 #[.pointer (some ⟨w.heap.size+1,0,none⟩),.pointer (some ⟨w.heap.size,0,none⟩),.pointer (some ⟨w.heap.size+2,0,none⟩)] ns v _ eE rH
  (fun n q c w1 hn k1 hb=>yG L h.hL n (h.hi n hn) f t qB (by rw[h.hl n hn];exact ht) (by rw[h.hl n hn];exact h.hN) q c _ _ _ r w1 hb (k1.cell cf) (k1.cell cy) (k1.cell ct) (k1.cell d0)))
 rw[mr] at HC;have hD:hU L ns f t=ns.all (yw L f t):=rfl;rw[←hD] at HC;obtain⟨p,c,rfl,-⟩:=eE;clear h hA hD;generalize lgS L=s at*;generalize hU L ns f t=y at*;go_enter Tryz.func254,Tryz.ntmps254;go_wp2_with fail;refine HC.out.mono ?_;rintro e w2 ⟨rfl,k2⟩;go_wp2_with fail;go_ret;exact⟨ab qD,kA.trans k2⟩
def iT (L:Nat) (ns:List Nee) (f t:Nat) (n:Nee):Bool:=jw L ns f t&&!n.mee t&&(!decide (L=5)||n.dem t)
theorem Kv (L:Nat) (hL:L<8):((lgS L).toList==[71,76])=decide (L=5):=by
 have h8:L=0∨L=1∨L=2∨L=3∨L=4∨L=5∨L=6∨L=7:=qB
 rcases h8 with rfl | rfl | rfl | rfl | rfl | rfl | rfl | rfl<;>simp[go_sem,lgS]
theorem isD (L:Nat) (hL:L<8):((lgS L).toList==[68])=decide (L=1):=by
 have h8:L=0∨L=1∨L=2∨L=3∨L=4∨L=5∨L=6∨L=7:=qB
 rcases h8 with rfl | rfl | rfl | rfl | rfl | rfl | rfl | rfl<;>simp[go_sem,lgS]
theorem Hv {w w':World} {g gf gt:Nat} {a b c d e:Value} (k:aa w w') (h:w.cell? ⟨g,0,none⟩=some a∧w.cell? ⟨g,1,none⟩=some b∧w.cell? ⟨g,2,none⟩=some c∧w.cell? ⟨gf,0,none⟩=some d∧w.cell? ⟨gt,0,none⟩=some e):
  w'.cell? ⟨g,0,none⟩=some a∧w'.cell? ⟨g,1,none⟩=some b∧w'.cell? ⟨g,2,none⟩=some c∧w'.cell? ⟨gf,0,none⟩=some d∧w'.cell? ⟨gt,0,none⟩=some e:=⟨k.cell h.1,k.cell h.2.1,k.cell h.2.2.1,k.cell h.2.2.2.1,k.cell h.2.2.2.2⟩
theorem CM (n:Nee) (hi:n.ix≤8) (f t:Nat) (hf:f<256) (ht:t<256) (q:Option Addr) (l c gf gt:Nat) (w:World) (c1:w.cell? ⟨gf,0,none⟩=some (.int .i64 f)) (c2:w.cell? ⟨gt,0,none⟩=some (.int .i64 t)):
  Calls Tryz.prog 253 #[.agg #[.int .i64 n.ix,.int .i64 n.kd,.slice q l c],.pointer (some ⟨gf,0,none⟩),.pointer (some ⟨gt,0,none⟩)] w fun e w'=>e=.returned (.bool (!(n.dem f==n.dem t)))∧aa w w':=by
 have kA:=(aa.refl w).alloc (.cells #[.int .i64 n.ix,.int .i64 n.kd,.slice q l c] 153);obtain⟨d0,d1,d2⟩:=uU w (.int .i64 n.ix) (.int .i64 n.kd) (.slice q l c) 153;have HH:=hid (⟨d0,d1,d2,kA.cell c1,kA.cell c2⟩:(w.alloc (.cells #[.int .i64 n.ix,.int .i64 n.kd,.slice q l c] 153)).cell? ⟨w.heap.size,0,none⟩=some (.int .i64 n.ix)∧(w.alloc (.cells #[.int .i64 n.ix,.int .i64 n.kd,.slice q l c] 153)).cell? ⟨w.heap.size,1,none⟩=some (.int .i64 n.kd)∧(w.alloc (.cells #[.int .i64 n.ix,.int .i64 n.kd,.slice q l c] 153)).cell? ⟨w.heap.size,2,none⟩=some (.slice q l c)∧(w.alloc (.cells #[.int .i64 n.ix,.int .i64 n.kd,.slice q l c] 153)).cell? ⟨gf,0,none⟩=some (.int .i64 f)∧(w.alloc (.cells #[.int .i64 n.ix,.int .i64 n.kd,.slice q l c] 153)).cell? ⟨gt,0,none⟩=some (.int .i64 t));have eE:=hid (fun wz=>dc n hi f hf q l c wz);have h9:=hid (fun wz=>dc n hi t ht q l c wz);clear c1 c2 d0 d1 d2;generalize n.kd=k at*;generalize n.ix=i at*;generalize n.dem f=x at*;generalize n.dem t=y at*;go_enter Tryz.func253,Tryz.ntmps253;go_wp2_with fail
 go_region_held3 (fun w'=>w'.cell? ⟨w.heap.size,0,none⟩=some (.int .i64 i)∧w'.cell? ⟨w.heap.size,1,none⟩=some (.int .i64 k)∧w'.cell? ⟨w.heap.size,2,none⟩=some (.slice q l c)∧w'.cell? ⟨gf,0,none⟩=some (.int .i64 f)∧w'.cell? ⟨gt,0,none⟩=some (.int .i64 t)) (first | exact HH.out | exact F2 | exact F4) (first
  | (go_at_call 175;first
    | ((with_reducible refine(eE.out _).mono ?_);rintro e w2 ⟨rfl,k2⟩;have F2:=Hv ((aa.refl _).drew.trans k2) HH.out)
    | ((with_reducible refine(h9.out _).mono ?_);rintro e w4 ⟨rfl,k4⟩;have F4:=Hv k4 F2)))
 go_wp2_with fail;go_ret;exact⟨ab (by cases x<;>cases y<;>rfl),(kA.drew.trans k2).trans k4⟩
theorem CN (n:Nee) (hi:n.ix≤8) (f t:Nat) (hf:f<256) (ht:t<256) (q:Option Addr) (l c gf gt:Nat) (w:World) (c1:w.cell? ⟨gt,0,none⟩=some (.int .i64 t)) (c2:w.cell? ⟨gf,0,none⟩=some (.int .i64 f)):
  Calls Tryz.prog 255 #[.agg #[.int .i64 n.ix,.int .i64 n.kd,.slice q l c],.pointer (some ⟨gt,0,none⟩),.pointer (some ⟨gf,0,none⟩)] w fun e w'=>e=.returned (.bool (n.dem t&&!n.dem f))∧aa w w':=by
 have kA:=(aa.refl w).alloc (.cells #[.int .i64 n.ix,.int .i64 n.kd,.slice q l c] 153);obtain⟨d0,d1,d2⟩:=uU w (.int .i64 n.ix) (.int .i64 n.kd) (.slice q l c) 153
 replace c1:=kA.cell c1
 replace c2:=kA.cell c2
 have eE:=hid (fun wz=>dc n hi f hf q l c wz);have h9:=hid (fun wz=>dc n hi t ht q l c wz);generalize n.kd=k at*;generalize n.ix=i at*;generalize n.dem f=x at*;generalize n.dem t=y at*;go_enter Tryz.func255,Tryz.ntmps255;go_wp2_with fail;refine(h9.out _).mono ?_;rintro e w2 ⟨rfl,k2⟩;have e0:=k2.cell d0;have e1:=k2.cell d1;have e2:=k2.cell d2;have e3:=k2.cell c2
 cases y
 ·go_wp2_with fail
  go_ret;exact⟨rfl,kA.trans k2⟩
 ·go_wp2_with fail
  refine(eE.out _).mono ?_;rintro e w3 ⟨rfl,k3⟩;go_wp2_with fail;go_ret;exact⟨ab (by cases x<;>rfl),(kA.trans k2).trans k3⟩
theorem vh:aG 253:=fun _ _=>by kernel_rfl
theorem vi:aG 255:=fun _ _=>by kernel_rfl
theorem yO (r L N:Nat) (ns:List Nee) (f t:Nat) (hf:f<N) (ht:t<N) (w:World) (h:TyN w r L N ns):
  Calls Tryz.prog 237 #[.pointer (some ⟨r,0,none⟩),.int .i64 f,.int .i64 t] w fun e w'=>e=.returned (.bool (jw L ns f t))∧aa w w':=by
 have hN:=h.hN;obtain⟨kA,cf,ct⟩:=two w (.int .i64 f) (.int .i64 t) 2 2;have hA:=h.keeps kA;have d0:=hA.c0;have hL:=h.hL;obtain⟨v,d2,eE⟩:=hA.c2
 have H1:=hid (dY (fun n=>!(n.dem f==n.dem t)) 253 #[.pointer (some ⟨w.heap.size,0,none⟩),.pointer (some ⟨w.heap.size+1,0,none⟩)] ns v _ eE vh
  (fun n q c w1 hn k1 hb=>CM n (h.hi n hn) f t qB qB q _ c _ _ w1 (k1.cell cf) (k1.cell ct)))
 rw[mr] at H1
 have H2:=hid (fun wz (kz:aa ((w.alloc (.cells #[.int .i64 f] 2)).alloc (.cells #[.int .i64 t] 2)) wz)=>dY (fun n=>n.dem t&&!n.dem f) 255 #[.pointer (some ⟨w.heap.size+1,0,none⟩),.pointer (some ⟨w.heap.size,0,none⟩)] ns v wz (eE.keeps kz) vi
  (fun n q c w1 hn k1 hb=>CN n (h.hi n hn) f t qB qB q _ c _ _ w1 ((kz.trans k1).cell ct) ((kz.trans k1).cell cf)))
 have HP:=hid (fun wz (kz:aa w wz)=>sN r L N ns f t hf ht wz (h.keeps kz));have HQ:=hid (fun wz (kz:aa w wz)=>sN r L N ns t f ht hf wz (h.keeps kz))
 have HS:Hid (jw L ns f t=if L=6 then ns.all fun n=>n.dem f==n.dem t
 else if L=7 then hU L ns f t&&hU L ns t f
 else if L=5 then hU L ns f t&&ns.any fun n=>n.dem t&&!n.dem f
 else hU L ns f t):=hid rfl
 obtain⟨p,c,rfl,-⟩:=eE;clear h hA hf ht hN;generalize jw L ns f t=P at*;generalize hU L ns f t=x at*;generalize hU L ns t f=y at*;generalize (ns.all fun n=>n.dem f==n.dem t)=z at*;generalize (ns.any fun n=>n.dem t&&!n.dem f)=u at*;have h8:L=6∨L=7∨L=5∨(L=0∨L=1∨L=2∨L=3∨L=4):=qB;clear hL
 rcases h8 with rfl | rfl | rfl | (rfl | rfl | rfl | rfl | rfl)
 ·simp only[lgS] at d0
  go_enter Tryz.func237,Tryz.ntmps237;go_wp2_with fail;refine H1.out.mono ?_;rintro e w2 ⟨rfl,k2⟩;go_wp2_with fail;go_ret;exact⟨ab (by rw[HS.out];simp),kA.trans k2⟩
 ·simp only[lgS] at d0
  go_enter Tryz.func237,Tryz.ntmps237;go_wp2_with fail;refine(HP.out _ kA).mono ?_;rintro e w2 ⟨rfl,k2⟩;have ef:=k2.cell cf;have et:=k2.cell ct
  cases x
  ·go_wp2_with fail
   go_ret;exact⟨ab (by rw[HS.out];rfl),kA.trans k2⟩
  ·go_wp2_with fail
   refine(HQ.out _ (kA.trans k2)).mono ?_;rintro e w3 ⟨rfl,k3⟩;go_wp2_with fail;go_ret;exact⟨ab (by rw[HS.out];cases y<;>rfl),(kA.trans k2).trans k3⟩
 ·simp only[lgS] at d0
  go_enter Tryz.func237,Tryz.ntmps237;go_wp2_with fail;refine(HP.out _ kA).mono ?_;rintro e w2 ⟨rfl,k2⟩;have ed:=k2.cell d2
  cases x
  ·go_wp2_with fail
   go_ret;exact⟨ab (by rw[HS.out];rfl),kA.trans k2⟩
  ·go_wp2_with fail
   refine(H2.out _ k2).mono ?_;rintro e w3 ⟨rfl,k3⟩;go_wp2_with fail;go_ret;exact⟨ab (by rw[HS.out];cases u<;>rfl),(kA.trans k2).trans k3⟩
 all_goals
  simp only[lgS] at d0;go_enter Tryz.func237,Tryz.ntmps237;go_wp2_with fail;refine(HP.out _ kA).mono ?_;rintro e w2 ⟨rfl,k2⟩;go_wp2_with fail;go_ret;exact⟨ab (by rw[HS.out];rfl),kA.trans k2⟩
theorem tR (r L N:Nat) (ns:List Nee) (n:Nee) (hn:n∈ns) (q:Option Addr) (c:Nat) (f t:Nat) (hf:f<N) (ht:t<N) (w:World) (h:TyN w r L N ns) (hq:cN w (.slice q n.inn.length c) n.inn):
  Calls Tryz.prog 238 #[.pointer (some ⟨r,0,none⟩),.agg #[.int .i64 n.ix,.int .i64 n.kd,.slice q n.inn.length c],.int .i64 f,.int .i64 t] w fun e w'=>e=.returned (.bool (iT L ns f t n))∧aa w w':=by
 have hN:=h.hN;have hl:=h.hl n hn;have kA:=(aa.refl w).alloc (.cells #[.int .i64 n.ix,.int .i64 n.kd,.slice q n.inn.length c] 153);obtain⟨d0,d1,d2⟩:=uU w (.int .i64 n.ix) (.int .i64 n.kd) (.slice q n.inn.length c) 153;have HS:=hid (yO r L N ns f t hf ht _ (h.keeps kA));have HD:=hid (fun wz=>dc n (h.hi n hn) t qB q n.inn.length c wz);have HM:=hid (fun wz (kz:aa w wz)=>oD n t qB qB (.slice q n.inn.length c) wz (hq.keeps kz));have cL:=kA.cell h.c0;have hG:=Kv L h.hL;have HW:Hid (iT L ns f t n=(jw L ns f t&&!n.mee t&&(!decide (L=5)||n.dem t))):=hid rfl;clear h hq hl hN hf ht hn;generalize iT L ns f t n=P at*;generalize jw L ns f t=x at*;generalize n.inn.length=l at*;generalize n.kd=k at*;generalize n.ix=i at*;generalize n.dem t=y at*;generalize n.mee t=z at*;generalize lgS L=s at*;generalize decide (L=5)=u at*;go_enter Tryz.func238,Tryz.ntmps238;go_wp2_with fail;refine HS.out.mono ?_;rintro e w2 ⟨rfl,k2⟩
 replace d0:=k2.cell d0
 replace d1:=k2.cell d1
 replace d2:=k2.cell d2
 replace cL:=k2.cell cL
 cases x
 ·go_wp2_with fail
  go_ret;exact⟨ab (by rw[HW.out];rfl),kA.trans k2⟩
 ·go_wp2_with fail
  refine(HM.out _ (kA.trans k2)).mono ?_;rintro e w3 ⟨rfl,k3⟩
  replace d0:=k3.cell d0
  replace d1:=k3.cell d1
  replace d2:=k3.cell d2
  replace cL:=k3.cell cL
  cases z
  ·cases u
   ·go_wp2_with fail
    go_ret;exact⟨ab (by rw[HW.out];rfl),(kA.trans k2).trans k3⟩
   ·go_wp2_with fail
    refine(HD.out _).mono ?_;rintro e w4 ⟨rfl,k4⟩;go_wp2_with fail;go_ret;exact⟨ab (by rw[HW.out];cases y<;>rfl),((kA.trans k2).trans k3).trans k4⟩
  ·go_wp2_with fail
   go_ret;exact⟨ab (by rw[HW.out];rfl),(kA.trans k2).trans k3⟩
def mh (L:Nat) (ns:List Nee) (N:Nat) (S:List Bool) (m:Nat):Bool:=
 (decide (L≠1)||(List.range N).any fun t=>S.getD t false&&jw L ns m t)&&ns.all fun n=>n.dem m||(List.range N).any fun t=>S.getD t false&&iT L ns m t n
structure TyA (w:World) (r L N:Nat) (ns:List Nee) (S:List Bool):Prop where
 ty:TyN w r L N ns
 c3:w.cell? ⟨r,3,none⟩=some (.int .i64 N)
 c5:∃ v,w.cell? ⟨r,5,none⟩=some v∧cN w v S
 hS:S.length=N
theorem TyA.keeps {w w':World} {r L N:Nat} {ns:List Nee} {S:List Bool} (h:TyA w r L N ns S) (k:aa w w'):TyA w' r L N ns S:=by
 obtain⟨v,h1,h2⟩:=h.c5;exact⟨h.ty.keeps k,k.cell h.c3,⟨v,k.cell h1,h2.keeps k⟩,h.hS⟩
theorem iV (pr:Nat→Bool) (N k:Nat) (h:k<N):idxOf pr ((List.range N).drop k) k=if pr k then (k:Int) else idxOf pr ((List.range N).drop (k+1)) (k+1):=by
 rw[ea pr (List.range N) k (by simpa using h)]
 simp
theorem lE (pr:Nat→Bool) (N:Nat):idxOf pr ((List.range N).drop N) N = -1:=eT _ _ _ qD
theorem oA (r L N:Nat) (ns:List Nee) (S:List Bool) (n:Nee) (hn:n∈ns) (q:Option Addr) (c:Nat) (m:Nat) (hm:m<N) (w:World) (h:TyA w r L N ns S) (hq:cN w (.slice q n.inn.length c) n.inn):
  Calls Tryz.prog 207 #[.pointer (some ⟨r,0,none⟩),.agg #[.int .i64 n.ix,.int .i64 n.kd,.slice q n.inn.length c],.int .i64 m] w
   fun e w'=>e=.returned (.int .i64 (idxOf (fun t=>S.getD t false&&iT L ns m t n) (List.range N) 0))∧aa w w':=by
 have hN:=h.ty.hN;have kA:=(aa.refl w).alloc (.cells #[.int .i64 n.ix,.int .i64 n.kd,.slice q n.inn.length c] 153);obtain⟨d0,d1,d2⟩:=uU w (.int .i64 n.ix) (.int .i64 n.kd) (.slice q n.inn.length c) 153;have HA:=hid (h.keeps kA);have HW:=hid (fun t (ht:t<N) wz (kz:aa w wz)=>tR r L N ns n hn q c m t hm ht wz (h.ty.keeps kz) (hq.keeps kz));have c3:=kA.cell h.c3;have HE:=hid (lE (fun t=>S.getD t false&&iT L ns m t n) N);have HR:=hid (fun k hk=>iV (fun t=>S.getD t false&&iT L ns m t n) N k hk);have hS:=h.hS;clear h hq hm hn;generalize n.inn.length=l at*;generalize n.kd=kd at*;generalize n.ix=ix at*;generalize H9:(fun t=>S.getD t false&&iT L ns m t n)=pr at*;have KR:Hid (∀ t,pr t=(S.getD t false&&iT L ns m t n)):=hid (fun t=>by rw[←H9]);clear H9;generalize KP:(fun t=>iT L ns m t n)=wt at*;have x8:Hid (∀ t,iT L ns m t n=wt t):=hid (fun t=>by rw[←KP]);clear KP;go_enter Tryz.func207,Tryz.ntmps207;go_wp2_with fail
 go_loopw [6,12] (fun o i' wr=>∃ k:Nat,k≤N∧idxOf pr (List.range N) 0=idxOf pr ((List.range N).drop k) k∧aa (w.alloc (.cells #[.int .i64 ix,.int .i64 kd,.slice q l c] 153)) wr∧i'=.int .i64 k∧o=.int .i64 0) (fun _ i _=>N-(intOf i).toNat)
 case atStart=>exact⟨0,qB,qD,aa.refl _,rfl,rfl⟩
 case round=>
  obtain⟨k,hk,hs,kw,rfl,rfl⟩:=hrel;have Hs:=hid hs;clear hs
  by_cases H8:k<N
  ·have h9:(k:Int)<N:=qB
   have hA:=HA.out.keeps kw;obtain⟨v,c5,hb⟩:=hA.c5;obtain⟨p5,cap5,rfl,KU,KY,x9,-⟩:=hb;unfold maxLen at KY;obtain⟨b5,o5,rfl,h5⟩:=x9.bool k qB;have KT:(k:Int)<S.length:=qB;have e0:=kw.cell d0;have e1:=kw.cell d1;have e2:=kw.cell d2
   have H7:S.getD k false=S[k]:=by rw[zi,zn qB];rfl
   have KV:=KR.out k;have x6:=HR.out k H8;rw[H7,x8.out k] at x6;have eE:=hid x6;have x7:=HW.out k H8 wr (kA.trans kw);rw[x8.out k] at x7;have KS:=hid x7;clear hA x9 KV H7 x6 x7 d0 d1 d2 c3;generalize S[k]=y at*;rw[hS] at KU KT c5;clear hS;generalize wt k=z at*
   cases y
   ·go_wp2_with fail
    go_roundw
    case rel=>exact⟨k+1,qB,by rw[Hs.out,eE.out];rfl,kw,by go_num,rfl⟩
    case measure=>simp[intOf];omega
   ·go_wp2_with fail
    refine KS.out.mono ?_;rintro e w3 ⟨rfl,k3⟩
    cases z
    ·go_wp2_with fail
     go_roundw
     case rel=>exact⟨k+1,qB,by rw[Hs.out,eE.out];rfl,kw.trans k3,by go_num,rfl⟩
     case measure=>simp[intOf];omega
    ·go_wp2_with fail
     go_ret;exact⟨aK (by rw[Hs.out,eE.out];rfl),(kA.trans kw).trans k3⟩
  ·have h9:¬(k:Int)<N:=qB
   obtain rfl:k=N:=qB;go_wp2;go_ret;exact⟨aK (by rw[Hs.out,HE.out]),kA.trans kw⟩
theorem tY (r L N:Nat) (ns:List Nee) (S:List Bool) (m:Nat) (hm:m<N) (w:World) (h:TyA w r L N ns S):
  Calls Tryz.prog 205 #[.pointer (some ⟨r,0,none⟩),.int .i64 m] w
   fun e w'=>e=.returned (.int .i64 (idxOf (fun t=>S.getD t false&&jw L ns m t) (List.range N) 0))∧aa w w':=by
 have hN:=h.ty.hN;have HA:=hid h;have HW:=hid (fun t (ht:t<N) wz (kz:aa w wz)=>yO r L N ns m t hm ht wz (h.ty.keeps kz));have c3:=h.c3;have HE:=hid (lE (fun t=>S.getD t false&&jw L ns m t) N);have HR:=hid (fun k hk=>iV (fun t=>S.getD t false&&jw L ns m t) N k hk);have hS:=h.hS;clear h hm;generalize H7:(fun t=>S.getD t false&&jw L ns m t)=pr at*;have H9:Hid (∀ t,pr t=(S.getD t false&&jw L ns m t)):=hid (fun t=>by rw[←H7]);clear H7;go_enter Tryz.func205,Tryz.ntmps205;go_wp2_with fail
 go_loopw [4,10] (fun o i' wr=>∃ k:Nat,k≤N∧idxOf pr (List.range N) 0=idxOf pr ((List.range N).drop k) k∧aa w wr∧i'=.int .i64 k∧o=.int .i64 0) (fun _ i _=>N-(intOf i).toNat)
 case atStart=>exact⟨0,qB,qD,aa.refl _,rfl,rfl⟩
 case round=>
  obtain⟨k,hk,hs,kw,rfl,rfl⟩:=hrel;have Hs:=hid hs;clear hs
  by_cases x9:k<N
  ·have h9:(k:Int)<N:=qB
   have hA:=HA.out.keeps kw;obtain⟨v,c5,hb⟩:=hA.c5;obtain⟨p5,cap5,rfl,KS,KU,x7,-⟩:=hb;unfold maxLen at KU;obtain⟨b5,o5,rfl,h5⟩:=x7.bool k qB;have KR:(k:Int)<S.length:=qB
   have x8:S.getD k false=S[k]:=by rw[zi,zn qB];rfl
   have KT:=H9.out k;have x6:=HR.out k x9;rw[x8] at x6;have eE:=hid x6;have H8:=HW.out k x9 wr kw;have KP:=hid H8;clear hA x7 KT x8 x6 H8 c3;generalize S[k]=y at*;rw[hS] at KS KR c5;clear hS;generalize jw L ns m k=z at*
   cases y
   ·go_wp2_with fail
    go_roundw
    case rel=>exact⟨k+1,qB,by rw[Hs.out,eE.out];rfl,kw,by go_num,rfl⟩
    case measure=>simp[intOf];omega
   ·go_wp2_with fail
    refine KP.out.mono ?_;rintro e w3 ⟨rfl,k3⟩
    cases z
    ·go_wp2_with fail
     go_roundw
     case rel=>exact⟨k+1,qB,by rw[Hs.out,eE.out];rfl,kw.trans k3,by go_num,rfl⟩
     case measure=>simp[intOf];omega
    ·go_wp2_with fail
     go_ret;exact⟨aK (by rw[Hs.out,eE.out];rfl),kw.trans k3⟩
  ·have h9:¬(k:Int)<N:=qB
   obtain rfl:k=N:=qB;go_wp2;go_ret;exact⟨aK (by rw[Hs.out,HE.out]),kw⟩
theorem Bf {α:Type} (pr:α→Bool) (l:List α) (b:Bool) (h:l.any pr=b):(b=true→0≤idxOf pr l 0)∧(b=false→idxOf pr l 0<0):=by
 have:=fI pr l 0;rw[h] at this;constructor
 ·rintro rfl;exact of_decide_eq_true this
 ·rintro rfl
  have:=of_decide_eq_false this;omega
theorem uj (r L N:Nat) (ns:List Nee) (S:List Bool) (n:Nee) (hn:n∈ns) (q:Option Addr) (c:Nat) (m:Nat) (hm:m<N) (gm gy:Nat) (w:World) (h:TyA w r L N ns S) (hq:cN w (.slice q n.inn.length c) n.inn)
  (c1:w.cell? ⟨gm,0,none⟩=some (.int .i64 m)) (c2:w.cell? ⟨gy,0,none⟩=some (.pointer (some ⟨r,0,none⟩))):
  Calls Tryz.prog 206 #[.agg #[.int .i64 n.ix,.int .i64 n.kd,.slice q n.inn.length c],.pointer (some ⟨gm,0,none⟩),.pointer (some ⟨gy,0,none⟩)] w
   fun e w'=>e=.returned (.bool (!(n.dem m||(List.range N).any fun t=>S.getD t false&&iT L ns m t n)))∧aa w w':=by
 have hN:=h.ty.hN;have kA:=(aa.refl w).alloc (.cells #[.int .i64 n.ix,.int .i64 n.kd,.slice q n.inn.length c] 153);obtain⟨d0,d1,d2⟩:=uU w (.int .i64 n.ix) (.int .i64 n.kd) (.slice q n.inn.length c) 153
 replace c1:=kA.cell c1
 replace c2:=kA.cell c2
 have HD:=hid (fun wz=>dc n (h.ty.hi n hn) m qB q n.inn.length c wz);have HL:=hid (fun wz (kz:aa w wz)=>oA r L N ns S n hn q c m hm wz (h.keeps kz) (hq.keeps kz));obtain⟨hp,eE⟩:=Bf (fun t=>S.getD t false&&iT L ns m t n) (List.range N) _ rfl;clear h hq hm hn;generalize n.inn.length=l at*;generalize n.kd=kd at*;generalize n.ix=ix at*;generalize n.dem m=x at*;generalize ((List.range N).any fun t=>S.getD t false&&iT L ns m t n)=y at*;generalize idxOf (fun t=>S.getD t false&&iT L ns m t n) (List.range N) 0=j at*;go_enter Tryz.func206,Tryz.ntmps206;go_wp2_with fail;refine(HD.out _).mono ?_;rintro e w2 ⟨rfl,k2⟩
 replace d0:=k2.cell d0
 replace d1:=k2.cell d1
 replace d2:=k2.cell d2
 replace c1:=k2.cell c1
 replace c2:=k2.cell c2
 cases x
 ·go_wp2_with fail
  refine(HL.out _ (kA.trans k2)).mono ?_;rintro e w3 ⟨rfl,k3⟩
  cases y
  ·have hj:=eE rfl
   clear hp eE;go_wp2_with fail;go_ret;exact⟨ab qD,(kA.trans k2).trans k3⟩
  ·have hj:=hp rfl
   have hj':¬j<0:=qB;clear hp eE;go_wp2_with fail;go_ret;exact⟨ab (by simpa using hj),(kA.trans k2).trans k3⟩
 ·clear hp eE
  go_wp2_with fail;go_ret;exact⟨rfl,kA.trans k2⟩
theorem nZ:aG 206:=fun _ _=>by kernel_rfl
theorem wV (r L N:Nat) (ns:List Nee) (S:List Bool) (m:Nat) (hm:m<N) (w:World) (h:TyA w r L N ns S):
  Calls Tryz.prog 177 #[.pointer (some ⟨r,0,none⟩),.int .i64 m] w fun e w'=>e=.returned (.bool (mh L ns N S m))∧aa w w':=by
 obtain⟨kA,cy,cm⟩:=two w (.pointer (some ⟨r,0,none⟩)) (.int .i64 m) 113 2;have hA:=h.keeps kA;have d0:=hA.ty.c0;have hD:=isD L h.ty.hL;obtain⟨v,d2,h9⟩:=hA.ty.c2;have HL:=hid (tY r L N ns S m hm _ hA)
 have HC:=hid (fun wz (kz:aa ((w.alloc (.cells #[.pointer (some ⟨r,0,none⟩)] 113)).alloc (.cells #[.int .i64 m] 2)) wz)=>dY (fun n=>!(n.dem m||(List.range N).any fun t=>S.getD t false&&iT L ns m t n)) 206 #[.pointer (some ⟨w.heap.size+1,0,none⟩),.pointer (some ⟨w.heap.size,0,none⟩)] ns v wz (h9.keeps kz) nZ
  (fun n q c w1 hn k1 hb=>uj r L N ns S n hn q c m hm _ _ w1 (hA.keeps (kz.trans k1)) hb ((kz.trans k1).cell cm) ((kz.trans k1).cell cy)))
 rw[mr] at HC;obtain⟨hp,eE⟩:=Bf (fun t=>S.getD t false&&jw L ns m t) (List.range N) _ rfl;have HS:Hid (mh L ns N S m=((!decide (L=1)||(List.range N).any fun t=>S.getD t false&&jw L ns m t)&&ns.all fun n=>n.dem m||(List.range N).any fun t=>S.getD t false&&iT L ns m t n)):=hid (by unfold mh;rw[decide_not]);obtain⟨p,c,rfl,-⟩:=h9;clear h hA;generalize mh L ns N S m=P at*;generalize ((List.range N).any fun t=>S.getD t false&&jw L ns m t)=y at*;generalize idxOf (fun t=>S.getD t false&&jw L ns m t) (List.range N) 0=j at*;generalize (ns.all fun n=>n.dem m||(List.range N).any fun t=>S.getD t false&&iT L ns m t n)=z at*;generalize lgS L=s at*;generalize decide (L=1)=u at*;go_enter Tryz.func177,Tryz.ntmps177
 cases u
 ·clear hp eE
  go_wp2_with fail;refine(HC.out _ (aa.refl _)).mono ?_;rintro e w2 ⟨rfl,k2⟩;go_wp2_with fail;go_ret;exact⟨ab (by rw[HS.out];cases z<;>rfl),kA.trans k2⟩
 ·go_wp2_with fail
  refine HL.out.mono ?_;rintro e w2 ⟨rfl,k2⟩;have ey:=k2.cell cy;have ed:=k2.cell d2
  cases y
  ·have hj:=eE rfl
   clear hp eE;go_wp2_with fail;go_ret;exact⟨ab (by rw[HS.out];rfl),kA.trans k2⟩
  ·have hj:=hp rfl
   have hj':¬j<0:=qB;clear hp eE;go_wp2_with fail;refine(HC.out _ k2).mono ?_;rintro e w3 ⟨rfl,k3⟩;go_wp2_with fail;go_ret;exact⟨ab (by rw[HS.out];cases z<;>rfl),(kA.trans k2).trans k3⟩
theorem wM (r N:Nat) (hN:N≤256) (S R:List Bool) (hS:S.length=N) (hR:R.length=N) (v4 v5:Value) (w:World) (c3:w.cell? ⟨r,3,none⟩=some (.int .i64 N)) (c4:w.cell? ⟨r,4,none⟩=some v4) (c5:w.cell? ⟨r,5,none⟩=some v5) (h4:cN w v4 R) (h5:cN w v5 S):
  Calls Tryz.prog 77 #[.pointer (some ⟨r,0,none⟩)] w
   fun e w'=>e=.returned (.int .i64 (idxOf (fun t=>S.getD t false&&R.getD t false) (List.range N) 0))∧w=w':=by
 have HE:=hid (lE (fun t=>S.getD t false&&R.getD t false) N);have HR:=hid (fun k hk=>iV (fun t=>S.getD t false&&R.getD t false) N k hk);generalize H9:(fun t=>S.getD t false&&R.getD t false)=pr at*;obtain⟨p4,cap4,rfl,KV,KZ,eE,-⟩:=h4;obtain⟨p5,cap5,rfl,KY,K0,h9,-⟩:=h5;unfold maxLen at KZ K0;have KP:=hid (fun i (h:i<R.length)=>eE.bool i h);have KR:=hid (fun i (h:i<S.length)=>h9.bool i h);have KT:Hid (∀ i (h:i<S.length),S.getD i false=S[i]):=hid (fun i h=>by rw[zi,zn h];rfl);have KS:Hid (∀ i (h:i<R.length),R.getD i false=R[i]):=hid (fun i h=>by rw[zi,zn h];rfl);have HS:=hid hS;have KU:=hid hR;rw[hS] at KY c5;rw[hR] at KV c4;clear eE h9 hS hR;have La:Hid (∀ t,pr t=(S.getD t false&&R.getD t false)):=hid (fun t=>by rw[←H9]);clear H9;go_enter Tryz.func77,Tryz.ntmps77;go_wp2_with fail
 go_loopw [2,8] (fun o i' wr=>∃ k:Nat,k≤N∧idxOf pr (List.range N) 0=idxOf pr ((List.range N).drop k) k∧w=wr∧i'=.int .i64 k∧o=.int .i64 0) (fun _ i _=>N-(intOf i).toNat)
 case atStart=>exact⟨0,qB,qD,rfl,rfl,rfl⟩
 case round=>
  obtain⟨k,hk,hs,rfl,rfl,rfl⟩:=hrel;have Hs:=hid hs;clear hs
  by_cases x9:k<N
  ·have H7:(k:Int)<N:=qB
   have x8:k<S.length:=by rw[HS.out];exact x9
   have x7:k<R.length:=by rw[KU.out];exact x9
   obtain⟨b5,o5,rfl,e5⟩:=KR.out k x8;obtain⟨b4,o4,rfl,e4⟩:=KP.out k x7;have H8:=HR.out k x9;rw[KT.out k x8,KS.out k x7] at H8;have x6:=hid H8;clear H8;generalize S[k]=y at*;generalize R[k]=z at*;clear x8 x7
   cases y
   ·go_wp2_with fail
    go_roundw
    case rel=>exact⟨k+1,qB,by rw[Hs.out,x6.out];rfl,by trivial,by go_num,rfl⟩
    case measure=>simp[intOf];omega
   ·cases z
    ·go_wp2_with fail
     go_roundw
     case rel=>exact⟨k+1,qB,by rw[Hs.out,x6.out];rfl,by trivial,by go_num,rfl⟩
     case measure=>simp[intOf];omega
    ·go_wp2_with fail
     go_ret;exact⟨aK (by rw[Hs.out,x6.out];rfl),rfl⟩
  ·have H7:¬(k:Int)<N:=qB
   obtain rfl:k=N:=qB;go_wp2;go_ret;exact⟨aK (by rw[Hs.out,HE.out]),rfl⟩
theorem kZ (E:List Fm) (ss:List ByteArray) (h8:E.length≤8) (m:Nat) (hm:m<256) (r:Nat) (pv:Value) (t:Fm):
  ∀ (v:Value) (w:World),(∀ x∈aC t,fk x=true→x∈E)→Nds w v t.enc→w.cell? ⟨r,1,none⟩=some pv→ElL w pv ss (E.map Fm.enc)→
  Calls Tryz.prog 119 #[.pointer (some ⟨r,0,none⟩),v,.int .i64 m] w fun e w'=>e=.returned (.bool (bV E m t))∧aa w w':=by
 induction t with
 | var i=>intro v w hs hv hc hp;exact mq E ss h8 m hm (.var i) (.inl rfl) (hs _ (aF _) rfl) v w r pv hv hc hp
 | box a _=>intro v w hs hv hc hp;exact mq E ss h8 m hm (.box a) (.inr (.inl rfl)) (hs _ (aF _) rfl) v w r pv hv hc hp
 | dia a _=>intro v w hs hv hc hp;exact mq E ss h8 m hm (.dia a) (.inr (.inr rfl)) (hs _ (aF _) rfl) v w r pv hv hc hp
 | fls=>
  intro v w hs hv eE hp;obtain⟨b,off,n,cap,rfl,h0,h1,h2,h3,hc,-⟩:=hv.root;have kA:=(aa.refl w).alloc (.cells #[.slice (some ⟨b,off,none⟩) n cap] 50);have x8:=kA.cell hc;rw[show Fm.fls.kind=1 from rfl] at x8;unfold maxLen at h2;clear hs hp hv eE hc;go_enter Tryz.func119,Tryz.ntmps119;go_wp2_with fail;go_ret;exact⟨rfl,kA⟩
 | and x y ihx ihy=>
  intro v w hs hv eE hp;have HX:=hid (fun vz wz (kz:aa w wz) (hz:Nds wz vz x.enc)=>ihx vz wz (fun a ha=>hs a (by simp[aC,ha])) hz (kz.cell eE) (hp.keeps kz));have HY:=hid (fun vz wz (kz:aa w wz) (hz:Nds wz vz y.enc)=>ihy vz wz (fun a ha=>hs a (by simp[aC,ha])) hz (kz.cell eE) (hp.keeps kz));have x6:=hv;obtain⟨b,off,n,cap,rfl,h0,h1,h2,h3,hc,-⟩:=hv.root;have kA:=(aa.refl w).alloc (.cells #[.slice (some ⟨b,off,none⟩) n cap] 50)
  have c0:(w.alloc (.cells #[.slice (some ⟨b,off,none⟩) n cap] 50)).cell? ⟨w.heap.size,0,none⟩=some (.slice (some ⟨b,off,none⟩) n cap):=by simp
  have x8:=kA.cell hc;rw[show(Fm.and x y).kind=2 from rfl] at x8;have x7:=x6.keeps kA;unfold maxLen at h2;clear hs hp hv eE hc x6 ihx ihy;go_enter Tryz.func119,Tryz.ntmps119;go_wp2_with fail;refine(bu _ _ x y.enc _ _ x7 rfl).mono ?_;rintro e w' ⟨v1,rfl,x9,rfl⟩;go_wp2_with fail;refine(HX.out v1 _ kA x9).mono ?_;rintro e w2 ⟨rfl,k2⟩;have c2:=k2.cell c0
  cases h9:bV E m x
  ·go_wp2_with fail
   go_ret;exact⟨ab (by simp[bV,h9]),kA.trans k2⟩
  ·go_wp2_with fail
   refine(dt _ _ x y _ _ (x7.keeps k2) rfl).mono ?_;rintro e w' ⟨v3,rfl,H7,rfl⟩;go_wp2_with fail;refine(HY.out v3 _ (kA.trans k2) H7).mono ?_;rintro e w4 ⟨rfl,k4⟩;go_wp2_with fail;go_ret;exact⟨ab (by simp[bV,h9]),(kA.trans k2).trans k4⟩
 | or x y ihx ihy=>
  intro v w hs hv eE hp;have HX:=hid (fun vz wz (kz:aa w wz) (hz:Nds wz vz x.enc)=>ihx vz wz (fun a ha=>hs a (by simp[aC,ha])) hz (kz.cell eE) (hp.keeps kz));have HY:=hid (fun vz wz (kz:aa w wz) (hz:Nds wz vz y.enc)=>ihy vz wz (fun a ha=>hs a (by simp[aC,ha])) hz (kz.cell eE) (hp.keeps kz));have x6:=hv;obtain⟨b,off,n,cap,rfl,h0,h1,h2,h3,hc,-⟩:=hv.root;have kA:=(aa.refl w).alloc (.cells #[.slice (some ⟨b,off,none⟩) n cap] 50)
  have c0:(w.alloc (.cells #[.slice (some ⟨b,off,none⟩) n cap] 50)).cell? ⟨w.heap.size,0,none⟩=some (.slice (some ⟨b,off,none⟩) n cap):=by simp
  have x8:=kA.cell hc;rw[show(Fm.or x y).kind=3 from rfl] at x8;have x7:=x6.keeps kA;unfold maxLen at h2;clear hs hp hv eE hc x6 ihx ihy;go_enter Tryz.func119,Tryz.ntmps119;go_wp2_with fail;refine(bu _ _ x y.enc _ _ x7 rfl).mono ?_;rintro e w' ⟨v1,rfl,x9,rfl⟩;go_wp2_with fail;refine(HX.out v1 _ kA x9).mono ?_;rintro e w2 ⟨rfl,k2⟩;have c2:=k2.cell c0
  cases h9:bV E m x
  ·go_wp2_with fail
   refine(dt _ _ x y _ _ (x7.keeps k2) rfl).mono ?_;rintro e w' ⟨v3,rfl,H7,rfl⟩;go_wp2_with fail;refine(HY.out v3 _ (kA.trans k2) H7).mono ?_;rintro e w4 ⟨rfl,k4⟩;go_wp2_with fail;go_ret;exact⟨ab (by simp[bV,h9]),(kA.trans k2).trans k4⟩
  ·go_wp2_with fail
   go_ret;exact⟨ab (by simp[bV,h9]),kA.trans k2⟩
 | imp x y ihx ihy=>
  intro v w hs hv eE hp;have HX:=hid (fun vz wz (kz:aa w wz) (hz:Nds wz vz x.enc)=>ihx vz wz (fun a ha=>hs a (by simp[aC,ha])) hz (kz.cell eE) (hp.keeps kz));have HY:=hid (fun vz wz (kz:aa w wz) (hz:Nds wz vz y.enc)=>ihy vz wz (fun a ha=>hs a (by simp[aC,ha])) hz (kz.cell eE) (hp.keeps kz));have x6:=hv;obtain⟨b,off,n,cap,rfl,h0,h1,h2,h3,hc,-⟩:=hv.root;have kA:=(aa.refl w).alloc (.cells #[.slice (some ⟨b,off,none⟩) n cap] 50)
  have c0:(w.alloc (.cells #[.slice (some ⟨b,off,none⟩) n cap] 50)).cell? ⟨w.heap.size,0,none⟩=some (.slice (some ⟨b,off,none⟩) n cap):=by simp
  have x8:=kA.cell hc;rw[show(Fm.imp x y).kind=4 from rfl] at x8;have x7:=x6.keeps kA;unfold maxLen at h2;clear hs hp hv eE hc x6 ihx ihy;go_enter Tryz.func119,Tryz.ntmps119;go_wp2_with fail;refine(bu _ _ x y.enc _ _ x7 rfl).mono ?_;rintro e w' ⟨v1,rfl,x9,rfl⟩;go_wp2_with fail;refine(HX.out v1 _ kA x9).mono ?_;rintro e w2 ⟨rfl,k2⟩;have c2:=k2.cell c0
  cases h9:bV E m x
  ·go_wp2_with fail
   go_ret;exact⟨ab (by simp[bV,h9]),kA.trans k2⟩
  ·go_wp2_with fail
   refine(dt _ _ x y _ _ (x7.keeps k2) rfl).mono ?_;rintro e w' ⟨v3,rfl,H7,rfl⟩;go_wp2_with fail;refine(HY.out v3 _ (kA.trans k2) H7).mono ?_;rintro e w4 ⟨rfl,k4⟩;go_wp2_with fail;go_ret;exact⟨ab (by simp[bV,h9]),(kA.trans k2).trans k4⟩
end Go.Proofs.YtagoboblkadelaaGreat
