import Derived.Test.YtagoboblkadelaaGreatZD40
import Derived.Test.YtagoboblkadelaaGreatZD32
/- own -/
namespace Go.Proofs.YtagoboblkadelaaGreat
set_option maxRecDepth 20000
set_option maxHeartbeats 4000000
open Go.RowKit
theorem aI.sh0 {w:World} {B:Nat} {v:Value} {a:List Int} (h:aI w B v a):∃ p n c,v=.slice p n c:=by
 obtain⟨p,c,e,_⟩:=At.of_own h;exact⟨p,_,c,e⟩
theorem cw.ownB {w:World} {B:Nat} {T:TypeId} {sz:Nat} {v:Value} {n:Nat} {xs:List Value} (h:w.ownsRow B T sz v n xs) {i:Nat} (hi:v.ownBlock=some i):cw w i T:=by
 rcases h.2 with ⟨rfl,_⟩ | ⟨g,cap,cur,rfl,_,hg,_⟩
 ·simp[Value.ownBlock] at hi
 ·have:g=i:=by simpa [Value.ownBlock] using hi
  subst this;exact⟨cur,_,hg⟩
theorem aj.touch {S:Nat→Prop} {w w':World} {v:Value} {l:List ByteArray} (h:aj w v l) (k:al w w' S) (hS:∀ i,cw w i 9→¬S i):aj w' v l:=by
 obtain⟨⟨p,cap,hv,h1,h2,h3,h4⟩,hp⟩:=h;refine⟨⟨p,cap,hv,h1,h2,h3,fun j hj=>?_⟩,fun a n c e=>⟨(hp a n c e).1,(hp a n c e).2.touch k (hS _ (hp a n c e).2)⟩⟩;obtain⟨b,off,f,eE,hc,hr⟩:=h4 j hj;refine⟨b,off,f,eE,fun c hc'=>?_,hr⟩;have ht:=(hp _ _ _ (by rw[hv,eE])).2;rw[(k.cell ht.lt (hS _ ht)).1];exact hc c hc'
theorem aI.touchT {S:Nat→Prop} {w w':World} {B:Nat} {v:Value} {l:List Int} (h:aI w B v l) (k:al w w' S) (hS:∀ i,cw w i 2→¬S i):aI w' B v l:=
 aZ h k (fun i hi e=>hS i (cw.ownB h hi) e)
theorem iZ {w:World} {B:Nat} (h:Src w B):(∀ i,cw w i 9→¬i=B)∧(∀ i,cw w i 2→¬i=B)∧(∀ i,cw w i 29→¬i=B):=by
 obtain⟨_,_,_,_,_,_,_,_,_,⟨T,ht,n1,n2,n3⟩,_⟩:=h;exact⟨fun i hi e=>by subst e;exact n1 (ht.inj hi),fun i hi e=>by subst e;exact n2 (ht.inj hi),fun i hi e=>by subst e;exact n3 (ht.inj hi)⟩
theorem aj.drT {w w':World} {B:Nat} {v:Value} {l:List ByteArray} (h:aj w v l) (k:Dr B w w') (hs:Src w B):aj w' v l:=h.touch k.1 (iZ hs).1
theorem aI.drT {w w':World} {B b:Nat} {v:Value} {l:List Int} (h:aI w b v l) (k:Dr B w w') (hs:Src w B):aI w' b v l:=h.touchT k.1 (iZ hs).2.1
theorem At.lit5 (w:World) (a b c d u:Value) (E:TypeId):At (w.alloc (.cells #[a,b,c,d,u] E)) (some ⟨w.heap.size,0,none⟩) [a,b,c,d,u]:=by
 intro j hj
 match j,hj with
 | 0,_=>exact⟨_,_,rfl,qD⟩
 | 1,_=>exact⟨_,_,rfl,qD⟩
 | 2,_=>exact⟨_,_,rfl,qD⟩
 | 3,_=>exact⟨_,_,rfl,qD⟩
 | 4,_=>exact⟨_,_,rfl,qD⟩
theorem At.lit5s (w:World) (o:Obj) (a b c d u:Value) (E:TypeId) (n:Nat) (hn:n=w.heap.size+1):At ((w.alloc o).alloc (.cells #[a,b,c,d,u] E)) (some ⟨n,0,none⟩) [a,b,c,d,u]:=by
 subst hn;have h:=At.lit5 (w.alloc o) a b c d u E;rw[World.size_alloc] at h;exact h
theorem aR.touchT {S:Nat→Prop} {w w':World} {r:Nat} {T:TypeId} {cs:List Value} (h:aR w r T cs) (k:al w w' S) (hS:cw w r T→¬S r):aR w' r T cs:=
 aZ h k (fun i hi e=>by
  have e1:r=i:=by simpa [Value.ownBlock] using hi
  subst e1
  exact hS (cw.ownB h hi) e)
theorem Src.above {w w':World} {B:Nat} {S:Nat→Prop} (h:Src w B) (k:al w w' S) (hS:∀ i,S i→B<i):Src w' B:=by
 obtain⟨v,n,x,hh,c0,c1,c2,f1,f2,ty,hx,p,cap,e,q1,q2,q3⟩:=h;have eE:B<w.heap.size:=World.block_lt_of_cell? _ _ c0;have kc:=k.cell eE (fun e=>by have:=hS _ e;omega);refine⟨v,n,x,hh,by rw[kc.1];exact c0,by rw[kc.1];exact c1,by rw[kc.1];exact c2,by rw[kc.2];exact f1,by rw[kc.2];exact f2,ty.touch k (fun e=>by have:=hS _ e;omega),hx,p,cap,e,q1,q2,fun j hj=>?_⟩;obtain⟨b',off,y,e2,hc,hy,hb⟩:=q3 j hj;exact⟨b',off,y,e2,by rw[(k.cell (b:=b') (World.block_lt_of_cell? _ _ hc) (fun e=>absurd (hS _ e) qB)).1];exact hc,hy,hb⟩
def aQ (B b0:Nat) (w w':World):Prop:=al w w' (fun i=>i=B∨(b0≤i∧cw w i 47))
theorem aQ.trans {B b0:Nat} {a b c:World} (h:aQ B b0 a b) (k:aQ B b0 b c):aQ B b0 a c:=
 ⟨k.os.trans h.os,k.tape.trans h.tape,k.output.trans h.output,zx h.size k.size,fun i hi hs=>by
  have e1:=h.block i hi hs;refine(k.block i (zv hi h.size) (fun e=>hs ?_)).trans e1
  rcases e with e | ⟨e,cs,fr,ht⟩
  ·exact .inl e
  ·exact .inr ⟨e,cs,fr,e1.symm.trans ht⟩⟩
theorem aQ.of_keeps {B b0:Nat} {a b:World} (h:aa a b):aQ B b0 a b:=al.of_keeps h _
theorem aQ.of_dr {B b0:Nat} {a b:World} (h:Dr B a b):aQ B b0 a b:=h.1.mono (fun _ e=>.inl e)
theorem aQ.keeps {B b0:Nat} {a b c:World} (h:aQ B b0 a b) (k:aa b c):aQ B b0 a c:=h.trans (.of_keeps k)
theorem SqL.touch {S:Nat→Prop} {w w':World} {v:Value} {ps:List SqT} (h:SqL w v ps) (k:al w w' S) (hS:∀ i,cw w i 9→¬S i) (hQ:∀ i,cw w i 29→¬S i):SqL w' v ps:=by
 obtain⟨⟨p,cap,hv,h1,h2,h3,h4⟩,ht⟩:=h;refine⟨⟨p,cap,hv,h1,h2,h3,fun i hi=>?_⟩,fun h0 a n c e=>(ht h0 a n c e).touch k (hQ _ (ht h0 a n c e))⟩;obtain⟨b,off,f,hp,hc,⟨h9,g1⟩,⟨x6,g2⟩⟩:=h4 i hi;have eE:=ht qB _ _ _ (by rw[hv,hp]);exact⟨b,off,f,hp,fun c hc'=>by rw[(k.cell eE.lt (hQ _ eE)).1];exact hc c hc',⟨h9.touch k hS,g1⟩,⟨x6.touch k hS,g2⟩⟩
theorem nL {B b0:Nat} {w:World} (h:Src w B):(∀ i,cw w i 9→¬(i=B∨(b0≤i∧cw w i 47)))∧(∀ i,cw w i 2→¬(i=B∨(b0≤i∧cw w i 47))):=
 ⟨fun i hi e=>by
  rcases e with e | e
  ·exact(iZ h).1 i hi e
  ·exact absurd (hi.inj e.2) qC,fun i hi e=>by
  rcases e with e | e
  ·exact(iZ h).2.1 i hi e
  ·exact absurd (hi.inj e.2) qC⟩
theorem SqL.st {w w':World} {B b0:Nat} {v:Value} {ps:List SqT} (h:SqL w v ps) (k:aQ B b0 w w') (hs:Src w B):SqL w' v ps:=
 h.touch k (nL hs).1 (fun i hi e=>by
  rcases e with e | e
  ·exact(iZ hs).2.2 i hi e
  ·exact absurd (hi.inj e.2) qC)
theorem aj.st {w w':World} {B b0:Nat} {v:Value} {l:List ByteArray} (h:aj w v l) (k:aQ B b0 w w') (hs:Src w B):aj w' v l:=h.touch k (nL hs).1
theorem aI.st {w w':World} {B b0 b:Nat} {v:Value} {l:List Int} (h:aI w b v l) (k:aQ B b0 w w') (hs:Src w B):aI w' b v l:=h.touchT k (nL hs).2
theorem aR.st {w w':World} {B b0 r:Nat} {T:TypeId} {cs:List Value} (h:aR w r T cs) (k:aQ B b0 w w') (hB:r≠B) (hT:T≠47):aR w' r T cs:=
 h.touchT k (fun ht e=>by
  rcases e with e | e
  ·exact hB e
  ·exact hT (ht.inj e.2))
theorem aj.cellSt {w w':World} {B b0 b o n c i:Nat} {l:List ByteArray} {x:Value} (h:aj w (.slice (some ⟨b,o,none⟩) n c) l) (k:aQ B b0 w w') (hs:Src w B) (hc:w.cell? ⟨b,o+i,none⟩=some x) (_hi:i<l.length):w'.cell? ⟨b,o+i,none⟩=some x:=by
 have ht:=(h.2 _ _ _ rfl).2;rw[(al.cell k ht.lt ((nL hs).1 b ht)).1];exact hc
theorem Src.stp {w w':World} {B b0:Nat} (h:Src w B) (k:∀ A,aQ A b0 w w') (hB:B<b0):Src w' B:=Src.above h (k b0) (fun i hi=>by rcases hi with e | e;omega;omega)
theorem aQ.push {B b0:Nat} {a b c:World} {row:Option Nat} (h:aQ B b0 a b) (g:b.grownBy c row) (hr:∀ k,row=some k→a.heap.size≤k):aQ B b0 a c:=al.push h g (fun k e=>.inl (hr k e))
theorem aQ.keepsOf {B b0:Nat} {a b c:World} (k:aa a b) (h:aQ B b0 b c) (hB:a.heap.size≤B) (hb:a.heap.size≤b0):aa a c:=k.touch h (fun i hi=>by rcases hi with e | e;omega;exact zx hb e.1)
def jV (w:World) (X:Nat→Prop) (cs:List Value) (i:Nat) (x:StT):Prop:=∃ p l q,cs[i*5]? = some (.int .i64 x.rule)∧cs[i*5+1]? = some p∧cs[i*5+2]? = some l∧cs[i*5+3]? = some q∧cs[i*5+4]? = some (.string x.main)∧aI w 0 p x.pr∧aj w l x.l∧aj w q x.r∧∀ k,p.ownBlock=some k→¬X k
def StO (w:World) (B:Nat) (X:Nat→Prop) (v:Value) (xs:List StT):Prop:=∃ cs,w.ownsRow B 47 5 v xs.length cs∧∀ i (h:i<xs.length),jV w X cs i xs[i]
theorem StO.sh {w:World} {B:Nat} {X:Nat→Prop} {v:Value} {xs:List StT} (h:StO w B X v xs):∃ p c,v=.slice p xs.length c∧xs.length≤c∧c≤maxLen:=by
 obtain⟨cs,h1,_⟩:=h;obtain⟨p,c,e,h2,h3,_⟩:=At.of_own h1;exact⟨p,c,e,h2,h3⟩
theorem StO.mono {w:World} {B B':Nat} {X:Nat→Prop} {v:Value} {xs:List StT} (h:StO w B X v xs) (k:B'≤B):StO w B' X v xs:=by
 obtain⟨cs,h1,h2⟩:=h;exact⟨cs,fU h1 k,h2⟩
theorem StO.off {w:World} {B:Nat} {X Y:Nat→Prop} {v:Value} {xs:List StT} (h:StO w B X v xs) (k:∀ i,i<w.heap.size→Y i→X i):StO w B Y v xs:=by
 obtain⟨cs,h1,h2⟩:=h;refine⟨cs,h1,fun i hi=>?_⟩;obtain⟨p,l,q,a0,a1,a2,a3,a4,b1,b2,b3,b4⟩:=h2 i hi;exact⟨p,l,q,a0,a1,a2,a3,a4,b1,b2,b3,fun j hj hy=>b4 j hj (k j (b1.len j hj).2 hy)⟩
theorem StO.keeps {w w':World} {B:Nat} {X:Nat→Prop} {v:Value} {xs:List StT} (h:StO w B X v xs) (k:aa w w'):StO w' B X v xs:=by
 obtain⟨cs,h1,h2⟩:=h;refine⟨cs,bw h1 k,fun i hi=>?_⟩;obtain⟨p,l,q,a0,a1,a2,a3,a4,b1,b2,b3,b4⟩:=h2 i hi;exact⟨p,l,q,a0,a1,a2,a3,a4,b1.keeps k,b2.keeps k,b3.keeps k,b4⟩
theorem StO.dr {w w':World} {B b0:Nat} {X:Nat→Prop} {v:Value} {xs:List StT} (h:StO w b0 X v xs) (k:Dr B w w') (hs:Src w B) (hB:B<b0):StO w' b0 X v xs:=by
 obtain⟨cs,h1,h2⟩:=h;refine⟨cs,aZ h1 k.1 (fun i hi e=>by have:=(h1.lt i hi).1;omega),fun i hi=>?_⟩;obtain⟨p,l,q,a0,a1,a2,a3,a4,b1,b2,b3,b4⟩:=h2 i hi;exact⟨p,l,q,a0,a1,a2,a3,a4,b1.drT k hs,b2.drT k hs,b3.drT k hs,b4⟩
theorem StO.row {w w':World} {b0:Nat} {X S:Nat→Prop} {v:Value} {xs:List StT} (h:StO w b0 X v xs) (k:al w w' S) (hS:∀ i,S i→cw w i 2∧X i):StO w' b0 X v xs:=by
 obtain⟨cs,h1,h2⟩:=h;refine⟨cs,aZ h1 k (fun i hi e=>absurd ((hS i e).1.inj (cw.ownB h1 hi)) qC),fun i hi=>?_⟩;obtain⟨p,l,q,a0,a1,a2,a3,a4,b1,b2,b3,b4⟩:=h2 i hi;exact⟨p,l,q,a0,a1,a2,a3,a4,aZ b1 k (fun j hj e=>b4 j hj (hS j e).2),b2.touch k (fun j hj e=>absurd ((hS j e).1.inj hj) qC),b3.touch k (fun j hj e=>absurd ((hS j e).1.inj hj) qC),b4⟩
theorem StO.ints {w w':World} {b0 g:Nat} {X:Nat→Prop} {v pv pv':Value} {xs:List StT} {a:List Int} (h:StO w b0 (fun j=>X j∨pv.ownBlock=some j) v xs) (ho:aI w g pv a) (hg:w.grownBy w' pv.ownBlock) (hn:∀ k,pv'.ownBlock=some k→pv.ownBlock=some k∨w.heap.size≤k):
  StO w' b0 (fun j=>X j∨pv'.ownBlock=some j) v xs:=by
 have h1:StO w b0 (fun j=>(X j∨pv.ownBlock=some j)∨pv'.ownBlock=some j) v xs:=h.off (fun i hi e=>by
  rcases e with e | e
  ·exact e
  ·rcases hn i e with e | e
   ·exact .inr e
   ·omega)
 have h2:=h1.row (al.grown hg) (fun i e=>⟨cw.ownB ho e.symm,.inl (.inr e.symm)⟩)
 exact h2.off (fun i hi e=>by
  rcases e with e | e
  ·exact .inl (.inl e)
  ·exact .inr e)
theorem StO.empty (w:World) (X:Nat→Prop):StO (w.alloc (.cells #[] 47)) w.heap.size X (.slice (some ⟨w.heap.size,0,none⟩) 0 0) []:=
 ⟨[],World.ownsRow_made w #[] 0 (zm _) (by simp[maxLen]) qD,fun i h=>by simp at h⟩
theorem StO.stl {w:World} {B:Nat} {X:Nat→Prop} {v:Value} {xs:List StT} (h:StO w B X v xs) (hl:xs.length≤2147483648) (hI:∀ x∈xs,x.pr.length≤2147483648):StL w v xs:=by
 obtain⟨cs,h1,h2⟩:=h;obtain⟨p,c,rfl,h9,x6,eE⟩:=At.of_own h1;refine⟨p,c,rfl,h9,x6,hl,fun i hi=>?_⟩;obtain⟨u1,u2,u3,a0,a1,a2,a3,a4,b1,b2,b3,-⟩:=h2 i hi;obtain⟨pp,pn,pc,rfl⟩:=b1.sh0;have h5:cs.length=xs.length*5:=h1.1;obtain⟨b,off,hp,-⟩:=eE (i*5) qB;refine⟨b,off,fun c=>if c=0 then .int .i64 xs[i].rule else if c=1 then .slice pp pn pc else if c=2 then u2 else if c=3 then u3 else .string xs[i].main,hp,fun c hc=>?_,rfl,⟨b1.ints (hI _ (zo hi)),pp,pn,pc,rfl⟩,b2,b3,rfl⟩;obtain⟨b',off',hp',x7⟩:=eE (i*5+c) qB;rw[hp] at hp'
 cases hp'
 rw[show off+i*5+c=off+(i*5+c) by omega,x7];refine(zn _).symm.trans ?_;have:c=0∨c=1∨c=2∨c=3∨c=4:=qB
 rcases this with rfl | rfl | rfl | rfl | rfl
 ·exact a0
 ·exact a1
 ·exact a2
 ·exact a3
 ·exact a4
theorem IG:(Tryz.prog.info? 47).map (fun i=>(i.zero,i.size,i.bytes))=some (some (.agg #[.int .i64 0,.slice none 0 0,.slice none 0 0,.slice none 0 0,.string ⟨#[]⟩]),5,96):=qA
theorem Hn {w:World} {o:Oper} {a:Act} {K:Act→World→Prop} {Q:Exit→Act→World→Prop} (s x:Operand)
  (ho:o.op=.call { callee:=.builtin .append,args:=#[s,x],argTypes:=#[24,24] }) (base:Nat) (X:Nat→Prop) (v:Value) (xs:List StT) (hs:a.eval s=v) (x7:StO w base X v xs)
  (p:Option Addr) (cc:Nat) (y:StT) (u1 u2 u3:Value) (hx:a.eval x=.slice p 1 cc) (x9:At w p [.int .i64 y.rule,u1,u2,u3,.string y.main]) (h1:aI w 0 u1 y.pr) (h2:aj w u2 y.l) (h3:aj w u3 y.r) (hX:∀ k,u1.ownBlock=some k→¬X k) (h9:base≤w.heap.size) (H7:xs.length≤1000000)
  (h:∀ v' w',StO w' base X v' (xs++[y])→(∀ B,aQ B base w w')→K (a.put o.dst v') w'):o.wp Tryz.prog a w K Q:=by
 obtain⟨i0,hi,H8,H9,KP⟩:=info_parts IG;obtain⟨cs,eE,he⟩:=x7;obtain⟨p1,n1,c1,e1⟩:=h1.sh0;obtain⟨p2,n2,c2,e2⟩:=h2.sh;obtain⟨p3,n3,c3,e3⟩:=h3.sh
 refine bI s x _ ho _ i0 _ 5 96 Tryz.underlying24 hi H8 H9 KP rfl qC base v _ _ hs eE p 1 cc [.int .i64 y.rule,u1,u2,u3,.string y.main] hx qD x9 (by
  intro u hu
  simp at hu
  rcases hu with rfl | rfl | rfl | rfl | rfl
  ·rfl
  ·rw[e1];rfl
  ·rw[e2];rfl
  ·rw[e3];rfl
  ·rfl) (by unfold maxLen;omega) qB h9 ?_
 intro v' w' g1 g2 g4;have T:=al.grown g2
 have x6:∀ i,some i=v.ownBlock→cw w i 47:=fun i e=>cw.ownB eE e.symm
 have stay:∀ {u:Value} {l:List ByteArray},aj w u l→aj w' u l:=fun hu=>hu.touch T (fun i hi e=>absurd (hi.inj (x6 i e)) qC)
 have stayI:∀ {u:Value} {l:List Int},aI w 0 u l→aI w' 0 u l:=fun hu=>hu.touchT T (fun i hi e=>absurd (hi.inj (x6 i e)) qC)
 have h5:cs.length=xs.length*5:=eE.1;refine h v' w' ⟨cs++[.int .i64 y.rule,u1,u2,u3,.string y.main],by rw[ze];exact g1,fun i hi=>?_⟩ (fun B=>T.mono (fun i e=>.inr ⟨g4 i e.symm,x6 i e⟩))
 by_cases x8:i<xs.length
 ·rw[List.getElem_append_left x8]
  obtain⟨q1,q2,q3,a0,a1,a2,a3,a4,b1,b2,b3,b4⟩:=he i x8;refine⟨q1,q2,q3,?_,?_,?_,?_,?_,stayI b1,stay b2,stay b3,b4⟩
  all_goals rw[List.getElem?_append_left qB]
  all_goals assumption
 ·have:i=xs.length:=by simp at hi;omega
  subst this;rw[List.getElem_append_right (zm _)];simp only[Nat.sub_self,zj];refine⟨u1,u2,u3,?_,?_,?_,?_,?_,stayI h1,stay h2,stay h3,hX⟩
  all_goals rw[List.getElem?_append_right qB,h5]
  ·rw[Nat.sub_self];rfl
  ·rw[Nat.add_sub_cancel_left];rfl
  ·rw[Nat.add_sub_cancel_left];rfl
  ·rw[Nat.add_sub_cancel_left];rfl
  ·rw[Nat.add_sub_cancel_left];rfl
theorem E1 {w:World} {ops:Array Oper} {o:Oper} {a:Act} {K:Act→World→Prop} {Q:Exit→Act→World→Prop} {E:Prop} (x8:o.guard=none) (s x:Operand)
  (ho:o.op=.call { callee:=.builtin .append,args:=#[s,x],argTypes:=#[24,24] }) (base:Nat) (X:Nat→Prop) (v:Value) (xs:List StT) (hs:a.eval s=v) (x6:StO w base X v xs)
  (p:Option Addr) (cc:Nat) (y:StT) (u1 u2 u3:Value) (hx:a.eval x=.slice p 1 cc) (x7:At w p [.int .i64 y.rule,u1,u2,u3,.string y.main]) (h1:aI w 0 u1 y.pr) (h2:aj w u2 y.l) (h3:aj w u3 y.r) (hX:∀ k,u1.ownBlock=some k→¬X k) (eE:base≤w.heap.size) (h9:xs.length≤1000000)
  (h:∀ v' w',StO w' base X v' (xs++[y])→(∀ B,aQ B base w w')→K (a.put o.dst v') w'):if Region.wanted o (yielded ops a.tmps)=true then Oper.wp Tryz.prog o a w K Q else E:=by
 rw[if_pos (by simp[Region.wanted,x8])];exact Hn s x ho base X v xs hs x6 p cc y u1 u2 u3 hx x7 h1 h2 h3 hX eE h9 h
theorem Di {w:World} {ops:Array Oper} {rest:List Oper} {o:Oper} {a:Act} {Q:Exit→Act→World→Prop} (x8:o.guard=none) (s x:Operand)
  (ho:o.op=.call { callee:=.builtin .append,args:=#[s,x],argTypes:=#[24,24] }) (base:Nat) (X:Nat→Prop) (v:Value) (xs:List StT) (hs:a.eval s=v) (x6:StO w base X v xs)
  (p:Option Addr) (cc:Nat) (y:StT) (u1 u2 u3:Value) (hx:a.eval x=.slice p 1 cc) (x7:At w p [.int .i64 y.rule,u1,u2,u3,.string y.main]) (h1:aI w 0 u1 y.pr) (h2:aj w u2 y.l) (h3:aj w u3 y.r) (hX:∀ k,u1.ownBlock=some k→¬X k) (eE:base≤w.heap.size) (h9:xs.length≤1000000)
  (h:∀ v' w',StO w' base X v' (xs++[y])→(∀ B,aQ B base w w')→wpList Tryz.prog ops Q rest (a.put o.dst v') w'):wpList Tryz.prog ops Q (o::rest) a w:=
 wpList_plain x8 fun _ hK=>Hn s x ho base X v xs hs x6 p cc y u1 u2 u3 hx x7 h1 h2 h3 hX eE h9 fun v' w' a1 a2=>hK _ _ (h v' w' a1 a2)
theorem tV (B:Nat) (w:World) (hs:Src w B):Calls Tryz.prog 55 #[.pointer (some ⟨B,0,none⟩),.int .i64 2] w (FC B 2 w):=by
 have hE:aA (w.alloc (.cells #[] 9)) w.heap.size (.slice (some ⟨w.heap.size,0,none⟩) 0 0) []:=aA.empty w;have kA:=(aa.refl w).alloc (.cells #[] 9);have d0:=Dr.of hs kA;have hB:=hs.lt;go_enter Tryz.func55,Tryz.ntmps55;go_wp2_with fail;refine(aE 3 B _ d0.2 qB).mono ?_;rintro e w1 ⟨r1,rfl,Li,d1⟩;have D1:=d0.trans d1;have KZ:jI 0 w1 w.heap.size (.slice (some ⟨w.heap.size,0,none⟩) 0 0):=⟨_,_,_,[],rfl,hE.drX d1 hB,qD,fun s h=>by cases h⟩;have KV:=hid KZ;clear hE kA KZ d0 d1;go_wp2_with fail
 go_loopw [5,6] (fun o k' wr=>∃ k:Nat,k≤r1∧k'=.int .i64 k∧jI (r1-k) wr w.heap.size o∧Dr B w wr) (fun _ k' _=>(intOf k').toNat)
 case atStart=>exact⟨r1,qB,rfl,by rw[Nat.sub_self];exact KV.out,D1⟩
 case round=>
  obtain⟨k,hk,rfl,Lb,D⟩:=hrel;clear KV D1
  by_cases h0:k=0
  ·subst h0
   go_wp2_with fail;go_ret;exact⟨_,rfl,Lb.up qB,D⟩
  ·have h0':(k:Int)>0:=qB
   obtain⟨b,n,c,ss,rfl,ho,hl,hz⟩:=Lb;have HZ:=hid hz;clear hz;go_wp2_with fail;refine(aE 6 B _ D.2 qB).mono ?_;rintro e w2 ⟨r2,rfl,Lj,d2⟩;have D2:=D.trans d2;have HD:=hid (jt B 2 qB true (1+r2) qB w2 D2.2);have K0:((1+r2:Nat):Int)=1+(r2:Int):=qB;rw[K0] at HD;go_wp2_with fail;refine HD.out.mono ?_;rintro e w3 ⟨v3,t,rfl,KS,Lg,Ld,d3⟩;have D3:=D2.trans d3;have La:=(ho.drX d2 hB).drX d3 hB;obtain⟨p3,n3,q3,rfl⟩:=KS.own_shape;have KY:=D2.2.lt;clear ho d2 d3 HD K0;go_wp2_with fail;refine(aE 3 B _ D3.2 qB).mono ?_;rintro e w4 ⟨r4,rfl,Lk,d4⟩;have D4:=D3.trans d4;have x7:=La.drX d4 hB;have x9:=KS.dr d4 KY;clear La KS d4 D3
   have key:∀ (u:Fm) (vu:Value) (wx:World),u.wf→u.enc.length≤7→Nds wx vu u.enc→Dr B w wx→aA wx w.heap.size (.slice (some ⟨b,0,none⟩) n c) ss→
     (∀ wz (kz:aa wx wz),Calls Tryz.prog 102 #[vu] wz (fun e w'=>e=.returned (.bool (qf u.enc))∧wz=w'))∧
     (∀ wz (kz:aa wx wz),Calls Tryz.prog 97 #[vu] wz (fun e w'=>∃ s,e=.returned (.string s)∧s.size≤200∧aa wz w'))∧
     (∀ s wz (kz:aa wx wz),s.size≤200→Calls Tryz.prog 54 #[.slice (some ⟨b,0,none⟩) n c,.string s] wz (fun e w'=>∃ v,e=.returned v∧jI (r1-k+1) w' w.heap.size v∧aa wz w')):=by
    intro u vu wx hw Lh hn D5 x8;refine⟨fun wz kz=>Ck u.enc vu wz (hn.keeps kz),fun wz kz=>(eI u hw qB vu wz (hn.keeps kz)).mono ?_,fun s wz kz Le=>(fu ss b 0 n c s w.heap.size wz (x8.keeps kz) qB (by have:=D5.size;have:=kz.size;omega)).mono ?_⟩
    ·rintro e w' ⟨s,rfl,hb,k2⟩
     exact⟨s,rfl,(show ck s u from⟨hw,hb,qB⟩).small,k2⟩
    ·intro e w' h
     exact jI.insert h hl HZ.out Le
   by_cases Lf:r4=0
   ·subst Lf
    go_wp2_with fail;refine(aE 2 B _ D4.2 qB).mono ?_;rintro e w5 ⟨r5,rfl,Ll,d5⟩;have D5:=D4.trans d5;have x8:=x7.drX d5 hB;have Lc:=x9.dr d5 KY;have KU:=hid (ee (5+(r5:Int)) _ _ w5 (Lc.nds qB) qB);obtain⟨z,hz,Lm,okz⟩:=lC r5 Ld qB;rw[hz] at KU;clear x9 Lc x7 hz;go_wp2_with fail;refine KU.out.mono ?_;rintro e w6 ⟨v6,rfl,KT,k6⟩;obtain⟨p6,n6,q6,rfl⟩:=KT.own_shape;have D6:=D5.keeps k6;obtain⟨K1,K2,K3⟩:=key z _ w6 okz qB (KT.nds qB) D6 (x8.keeps k6);have x6:=hid (K1 w6 (aa.refl _));have H7:=hid (K2 w6 (aa.refl _));have H8:=hid K3;have eE:jI (r1-k) w6 w.heap.size (.slice (some ⟨b,0,none⟩) n c):=⟨b,n,c,ss,rfl,x8.keeps k6,hl,HZ.out⟩;have KP:=hid eE;clear K1 K2 K3 KT eE x8 key;generalize qf z.enc=bf at*
    cases bf
    ·go_wp2_with fail
     refine x6.out.mono ?_;rintro e w7 ⟨rfl,rfl⟩;go_wp2_with fail;go_roundw
     case rel=>exact⟨k-1,qB,by go_num,KP.out.up qB,D6⟩
     case measure=>simp[intOf];omega
    ·go_wp2_with fail
     refine x6.out.mono ?_;rintro e w7 ⟨rfl,rfl⟩;go_wp2_with fail;refine H7.out.mono ?_;rintro e w8 ⟨s8,rfl,KR,k8⟩;have H9:=hid (H8.out s8 w8 k8 KR);go_wp2_with fail;refine H9.out.mono ?_;rintro e w9 ⟨v9,rfl,h9,k9⟩;go_wp2_with fail;go_roundw
     case rel=>exact⟨k-1,qB,by go_num,h9.up qB,D6.keeps (k8.trans k9)⟩
     case measure=>simp[intOf];omega
   ·have hz':((r4:Nat):Int)≠0:=qB
    obtain⟨K1,K2,K3⟩:=key t _ w4 Ld qB (x9.nds qB) D4 x7;have x6:=hid (K1 w4 (aa.refl _));have H7:=hid (K2 w4 (aa.refl _));have H8:=hid K3;have eE:jI (r1-k) w4 w.heap.size (.slice (some ⟨b,0,none⟩) n c):=⟨b,n,c,ss,rfl,x7,hl,HZ.out⟩;have KP:=hid eE;clear K1 K2 K3 x9 eE x7 key;generalize qf t.enc=bf at*
    cases bf
    ·go_wp2_with fail
     refine x6.out.mono ?_;rintro e w7 ⟨rfl,rfl⟩;go_wp2_with fail;go_roundw
     case rel=>exact⟨k-1,qB,by go_num,KP.out.up qB,D4⟩
     case measure=>simp[intOf];omega
    ·go_wp2_with fail
     refine x6.out.mono ?_;rintro e w7 ⟨rfl,rfl⟩;go_wp2_with fail;refine H7.out.mono ?_;rintro e w8 ⟨s8,rfl,KR,k8⟩;have H9:=hid (H8.out s8 w8 k8 KR);go_wp2_with fail;refine H9.out.mono ?_;rintro e w9 ⟨v9,rfl,h9,k9⟩;go_wp2_with fail;go_roundw
     case rel=>exact⟨k-1,qB,by go_num,h9.up qB,D4.keeps (k8.trans k9)⟩
     case measure=>simp[intOf];omega
theorem At.lit5n (W:World) (a b c d u:Value) (E:TypeId) (n:Nat) (hn:n=W.heap.size):At (W.alloc (.cells #[a,b,c,d,u] E)) (some ⟨n,0,none⟩) [a,b,c,d,u]:=by
 subst hn;exact At.lit5 W a b c d u E
theorem Ef (W:World) (s:ByteArray) (n:Nat) (hn:n=W.heap.size):aj (W.alloc (.cells #[.string s] 9)) (.slice (some ⟨n,0,none⟩) 1 1) [s]:=by
 subst hn;exact au.lit1P W s
theorem Ee (W:World) (x:Int) (n:Nat) (hn:n=W.heap.size):aI (W.alloc (.cells #[.int .i64 x] 2)) 0 (.slice (some ⟨n,0,none⟩) 1 1) [x]:=by
 subst hn;exact(aI.lit W [x] (by simp[maxLen])).mono (Nat.zero_le _)
theorem StO.cellSet {w:World} {B g cap i c:Nat} {X:Nat→Prop} {xs:List StT} (h:StO w B X (.slice (some ⟨g,0,none⟩) xs.length cap) xs) (hi:i<xs.length) (hc:c<5) (u:Value) (y:StT)
  (hy:∀ cs,jV w X cs i xs[i]→cs.length=xs.length*5→jV w X (cs.set (i*5+c) u) i y):StO (w.setCell ⟨g,i*5+c,none⟩ u) B X (.slice (some ⟨g,0,none⟩) xs.length cap) (xs.set i y)∧∀ A,aQ A B w (w.setCell ⟨g,i*5+c,none⟩ u):=by
 obtain⟨cs,h1,h2⟩:=h;have hs:=World.ownsRow.stored h1 (i*5+c) u;have T:=al.grown hs.2;have x6:cw w g 47:=cw.ownB h1 rfl
 have eE:∀ j,some j=some g→cw w j 47:=fun j e=>by cases e;exact x6
 have h5:cs.length=xs.length*5:=h1.1;have h9:B≤g:=(h1.lt g rfl).1
 have mv:∀ {ds:List Value} {j:Nat} {x:StT},jV w X ds j x→jV (w.setCell ⟨g,i*5+c,none⟩ u) X ds j x:=fun hh=>by
  obtain⟨p,l,q,a0,a1,a2,a3,a4,b1,b2,b3,b4⟩:=hh;exact⟨p,l,q,a0,a1,a2,a3,a4,b1.touchT T (fun j hj e=>absurd (hj.inj (eE j e)) qC),b2.touch T (fun j hj e=>absurd (hj.inj (eE j e)) qC),b3.touch T (fun j hj e=>absurd (hj.inj (eE j e)) qC),b4⟩
 refine⟨⟨cs.set (i*5+c) u,by rw[List.length_set];exact hs.1,fun j hj=>?_⟩,fun A=>T.mono (fun j e=>.inr ⟨by cases e;exact h9,eE j e⟩)⟩
 have hj':j<xs.length:=by rwa[List.length_set] at hj
 by_cases e:j=i
 ·subst e
  rw[List.getElem_set_self];exact mv (hy cs (h2 j hj') h5)
 ·rw[List.getElem_set_ne (fun e2=>e e2.symm)]
  obtain⟨p,l,q,a0,a1,a2,a3,a4,b⟩:=h2 j hj';refine mv ⟨p,l,q,?_,?_,?_,?_,?_,b⟩
  all_goals rw[List.getElem?_set_ne qB]
  all_goals assumption
theorem jV.rule {w:World} {X:Nat→Prop} {cs:List Value} {i n:Nat} {x:StT} (h:jV w X cs i x) (hl:cs.length=n*5) (hi:i<n) (r:Int):jV w X (cs.set (i*5+0) (.int .i64 r)) i { x with rule:=r }:=by
 obtain⟨p,l,q,a0,a1,a2,a3,a4,b⟩:=h;refine⟨p,l,q,?_,?_,?_,?_,?_,b⟩
 ·rw[Nat.add_zero,List.getElem?_set_self qB]
 all_goals rw[List.getElem?_set_ne qB]
 all_goals assumption
theorem jV.pr {w:World} {X:Nat→Prop} {cs:List Value} {i n:Nat} {x:StT} (h:jV w X cs i x) (hl:cs.length=n*5) (hi:i<n) (u:Value) (a:List Int) (hu:aI w 0 u a) (hX:∀ k,u.ownBlock=some k→¬X k):jV w X (cs.set (i*5+1) u) i { x with pr:=a }:=by
 obtain⟨p,l,q,a0,a1,a2,a3,a4,b1,b2,b3,b4⟩:=h;refine⟨u,l,q,?_,?_,?_,?_,?_,hu,b2,b3,hX⟩
 rotate_left
 ·rw[List.getElem?_set_self qB]
 all_goals rw[List.getElem?_set_ne qB]
 all_goals assumption
theorem jV.lf {w:World} {X:Nat→Prop} {cs:List Value} {i n:Nat} {x:StT} (h:jV w X cs i x) (hl:cs.length=n*5) (hi:i<n) (u:Value) (a:List ByteArray) (hu:aj w u a):jV w X (cs.set (i*5+2) u) i { x with l:=a }:=by
 obtain⟨p,l,q,a0,a1,a2,a3,a4,b1,b2,b3,b4⟩:=h;refine⟨p,u,q,?_,?_,?_,?_,?_,b1,hu,b3,b4⟩
 rotate_left 2
 ·rw[List.getElem?_set_self qB]
 all_goals rw[List.getElem?_set_ne qB]
 all_goals assumption
theorem jV.mn {w:World} {X:Nat→Prop} {cs:List Value} {i n:Nat} {x:StT} (h:jV w X cs i x) (hl:cs.length=n*5) (hi:i<n) (s:ByteArray):jV w X (cs.set (i*5+4) (.string s)) i { x with main:=s }:=by
 obtain⟨p,l,q,a0,a1,a2,a3,a4,b⟩:=h;refine⟨p,l,q,?_,?_,?_,?_,?_,b⟩
 rotate_left 4
 ·rw[List.getElem?_set_self qB]
 all_goals rw[List.getElem?_set_ne qB]
 all_goals assumption
theorem StO.cut {w:World} {B g n cap k:Nat} {X:Nat→Prop} {xs:List StT} (h:StO w B X (.slice (some ⟨g,0,none⟩) n cap) xs) (hk:k≤xs.length):StO w B X (.slice (some ⟨g,0,none⟩) k cap) (xs.take k):=by
 obtain⟨cs,h1,h2⟩:=h
 have eE:(xs.take k).length=k:=by rw[List.length_take];omega
 refine⟨cs.take (k*5),?_,fun i hi=>?_⟩
 ·obtain⟨hl,hh⟩:=h1
  refine⟨by rw[List.length_take,hl,eE];omega,?_⟩
  rcases hh with ⟨e,_⟩ | ⟨g',cap',cur,e,b1,b2,b3,b4,b5,b6⟩
  ·cases e
  ·cases e
   refine .inr ⟨g,cap,cur,by rw[eE],b1,b2,by rw[eE];omega,b4,b5,?_⟩;rw[eE,←b6,List.take_take]
   congr 1
   omega
 ·have hi':i<k:=qB
  rw[List.getElem_take];obtain⟨p,l,q,a0,a1,a2,a3,a4,b⟩:=h2 i qB;refine⟨p,l,q,?_,?_,?_,?_,?_,b⟩
  all_goals rw[List.getElem?_take_of_lt qB]
  all_goals assumption
theorem StO.row5 {w:World} {B g cap:Nat} {X:Nat→Prop} {xs:List StT} (h:StO w B X (.slice (some ⟨g,0,none⟩) xs.length cap) xs) (i:Nat) (hi:i<xs.length):
  (∃ p l q,w.cell? ⟨g,i*5,none⟩=some (.int .i64 xs[i].rule)∧w.cell? ⟨g,i*5+1,none⟩=some p∧w.cell? ⟨g,i*5+2,none⟩=some l∧w.cell? ⟨g,i*5+3,none⟩=some q∧w.cell? ⟨g,i*5+4,none⟩=some (.string xs[i].main)∧aI w 0 p xs[i].pr∧aj w l xs[i].l∧aj w q xs[i].r)∧(∀ c,w.frozen? ⟨g,c,none⟩=false):=by
 obtain⟨cs,h1,h2⟩:=h;have h5:cs.length=xs.length*5:=h1.1;obtain⟨p,l,q,a0,a1,a2,a3,a4,b1,b2,b3,-⟩:=h2 i hi
 have hc:∀ c (_:c<5) (u:Value),cs[i*5+c]? = some u→w.cell? ⟨g,i*5+c,none⟩=some u:=fun c hc u e=>by
  rw[World.ownsRow.cellAt h1 _ qB];exact e
 exact⟨⟨p,l,q,hc 0 qB _ a0,hc 1 qB _ a1,hc 2 qB _ a2,hc 3 qB _ a3,hc 4 qB _ a4,b1,b2,b3⟩,fun c=>World.ownsRow.frozenAt h1 c⟩
def Ij (w:World) (k:Nat) (wr:World):Prop:=∃ u a,aR wr (w.heap.size+1) 37 [.int .i64 2,u]∧aI wr w.heap.size u a∧a.length=k∧aR wr w.heap.size 37 [.int .i64 0,.slice none 0 0]∧aa w wr
theorem nw (tmps:Array Value) (W:World) (r:Nat) (h4:tmps.getD 2 undef=.pointer (some ⟨r,0,none⟩)) {u:Value} (ha:W.cell? ⟨r,0,none⟩=some (.int .i64 2)) (hb:W.cell? ⟨r,1,none⟩=some u) (hu:∃ p m q,u=.slice p m q):
  (results Tryz.f32 tmps).run Tryz.prog W=.ok (.agg #[.int .i64 2,u]) W:=by
 have hr:Tryz.f32.results=#[.cell 2 37]:=rfl;obtain⟨p,m,q,rfl⟩:=hu;unfold results;rw[hr];rw[Array.getD_eq_getD_getElem?] at h4;simp[go_sem,loadVar,h4,ha,hb]
theorem rA (v:Value) (w:World) (hv:aV w v (zs [2,0])):Calls Tryz.prog 32 #[v] w fun e w'=>(∃ u,e=.returned (.agg #[.int .i64 2,u])∧∃ p n c,u=.slice p n c)∧aa w w':=by
 have HB:=hid (fun m (hm:m<256) wz (kz:aa w wz)=>A0 [2,0] m v wz (hv.keeps kz) qD (mQ fun x hx=>by rcases List.mem_cons.1 hx with rfl | hx;decide;rw[List.mem_singleton.1 hx];decide) hm);have HS:=hid (fun wz (kz:aa w wz)=>iX (zs [2,0]) v wz (hv.keeps kz));rw[show(((zs [2,0]).length:Nat):Int)=2 from rfl] at HS;have HF:=hid (fun u wz (hu:∃ p m q,u=Value.slice p m q)=>Ca u wz hu);have k1:=(aa.refl w).alloc (.cells #[.int .i64 0,.slice none 0 0] 37);have KR:=aR.made w 37 [.int .i64 0,.slice none 0 0] qD qD;obtain⟨pq,cq,rfl,-⟩:=hv;rw[show(zs [2,0]).length=2 from rfl] at*;go_enter Tryz.func32,Tryz.ntmps32;go_wp2_with fail;refine(HS.out _ k1).mono ?_;rintro e w' ⟨rfl,rfl⟩
 go_upto_region 2 with fail
 have x9:aR ((w.alloc (.cells #[.int .i64 0,.slice none 0 0] 37)).alloc (.cells #[.int .i64 2,.slice none 0 0] 37)) (w.heap.size+1) 37 [.int .i64 2,.slice none 0 0]:=by
  have h:=aR.made (w.alloc (.cells #[.int .i64 0,.slice none 0 0] 37)) 37 [.int .i64 2,.slice none 0 0] qD qD;rw[World.size_alloc] at h;exact h
 have k2:=(aa.refl (w.alloc (.cells #[.int .i64 0,.slice none 0 0] 37))).alloc (.cells #[.int .i64 2,.slice none 0 0] 37);have x8:=KR.keeps k2;have K2:=k1.trans k2;generalize (w.alloc (.cells #[.int .i64 0,.slice none 0 0] 37)).alloc (.cells #[.int .i64 2,.slice none 0 0] 37)=w2 at*;have x0:=x9.cell 0 qD;have x1:=x9.cell 1 qD;simp only[zj,zl] at x0 x1;clear k1 k2 KR;go_wp2_with fail;refine(HF.out (.slice none 0 0) w2 ⟨_,_,_,rfl⟩).mono ?_;rintro e w3 ⟨rfl,k3⟩;have KP:=hid (show Ij w 0 w3 from⟨_,[],x9.keeps k3,aI.nil _ _,rfl,x8.keeps k3,K2.trans k3⟩);clear x9 x8 K2 k3 x0 x1;go_wp2_with fail
 go_loopw [11] (fun i' wr=>∃ k:Nat,k≤4∧i'=.int .i64 k∧Ij w k wr) (fun i' _=>4-(intOf i').toNat)
 case atStart=>exact⟨0,qB,rfl,KP.out⟩
 case round=>
  obtain⟨k,hk,rfl,u,a,x6,x7,Lb,eE,kr⟩:=hrel;clear KP;have KV:=x7.len;obtain⟨pu,nu,cu,rfl⟩:=x7.sh0
  by_cases Lf:k<4
  ·have H8:(k:Int)<4:=qB
   have KY:=hid (HB.out k qB );have x1:=x6.cell 1 qD;have f1:=x6.froz 1;simp only[zj,zl] at x1;have Lg:w.heap.size+1<wr.heap.size:=World.block_lt_of_cell? _ _ x1;have La:=hid x7;have Le:=hid x6;have Ld:=hid eE;have K0:=hid kr
   have H7:=hid (fun (W W3:World) (v3:Value) (l:List Int) (kW:aa wr W) (h3:aI W3 w.heap.size v3 (a++l)) (hl:l.length=1) (g3:W.grownBy W3 (Value.slice pu nu cu).ownBlock)=>(show aR W3 (w.heap.size+1) 37 [.int .i64 2,.slice pu nu cu]∧Ij w (k+1) (W3.setCell ⟨w.heap.size+1,1,none⟩ v3) from by
    have KU:∀ i,some i=(Value.slice pu nu cu).ownBlock→cw W i 2:=fun i e=>cw.ownB (x7.keeps kW) e.symm
    have h9:=(x6.keeps kW).touchT (al.grown g3) (fun ht e=>absurd (ht.inj (KU _ e)) qC);have Lc:=(eE.keeps kW).touchT (al.grown g3) (fun ht e=>absurd (ht.inj (KU _ e)) qC);have KT:=h9.set 1 v3;simp only[zc,zb] at KT;refine⟨h9,v3,a++l,KT,?_,by rw[ze,Lb,hl],Lc.next h9 qB,(aa.grown (kr.trans kW) g3 (fun q hq=>(KV q hq).1)).setCell (by show w.heap.size≤w.heap.size+1;omega) _⟩
    exact aZ h3 (al.grown (h9.grown 1 v3)) (fun i hi e=>by
     have e2:i=w.heap.size+1:=by simpa using e
     subst e2
     exact absurd ((cw.ownB h3 hi).inj (cw.ownB h9 rfl)) qC)))
   clear x6 x7 eE kr;go_wp2_with fail
   go_region_law (first
    | (go_simp;go_at_call 70;refine(KY.out _ (K0.out.trans (by with_reducible (repeat (first | exact aa.refl _ | refine aa.alloc ?_ _ | refine aa.drew ?_))))).mono ?_;rintro e w' ⟨rfl,rfl⟩)
    | (refine J2 rfl (.tmp 15) (.tmp 19) rfl w.heap.size _ a rfl (by exact La.out.keeps (by with_reducible (repeat (first | exact aa.refl _ | refine aa.alloc ?_ _ | refine aa.drew ?_)))) _ [_] rfl (by exact aV.lit1 _ _) (by simp;omega) (by simp;omega) ?_;intro v3 w3 h3 g3 b3;obtain⟨p3,n3,c3,rfl⟩:=h3.sh0;obtain⟨h9,KS⟩:=H7.out _ w3 _ [_] (by with_reducible (repeat (first | exact aa.refl _ | refine aa.alloc ?_ _ | refine aa.drew ?_))) h3 rfl g3;have e1:=h9.cell 1 qD;have e2:=h9.froz 1;simp only[zj,zl] at e1))
   all_goals
    have KZ:=hid KS;clear KS h9 h3 g3 b3 e1 e2;go_wp2_with fail;go_roundw
    case rel=>exact⟨k+1,qB,by go_num,KZ.out⟩
    case measure=>simp[intOf];omega
  ·have H8:¬(k:Int)<4:=qB
   have x0:=x6.cell 0 qD;have x1:=x6.cell 1 qD;have y0:=eE.cell 0 qD;have y1:=eE.cell 1 qD;have f0:=eE.froz 0;have f1:=eE.froz 1;have H9:=(eE.set 0 (.int .i64 2)).set 1 (.slice pu nu cu);have z0:=H9.cell 0 qD;have z1:=H9.cell 1 qD;simp only[zj,zl,zc,zb] at x0 x1 y0 y1 z0 z1;have HZ:=hid (And.intro z0 z1);have HK:=hid ((kr.setCell (p:=⟨w.heap.size,0,none⟩) (by show w.heap.size≤w.heap.size;omega) (.int .i64 2)).setCell (p:=⟨w.heap.size,1,none⟩) (by show w.heap.size≤w.heap.size;omega) (.slice pu nu cu));clear z0 z1 H9 x7 KV x6 eE;go_wp2_with fail;refine bodyPost_ret (nw _ _ w.heap.size rfl HZ.out.1 HZ.out.2 ⟨_,_,_,rfl⟩) rfl ?_;exact⟨⟨_,rfl,_,_,_,rfl⟩,HK.out⟩
theorem wO (tmps:Array Value) (W:World) (r:Nat) (h4:tmps.getD 2 undef=.pointer (some ⟨r,0,none⟩)) {u:Value} {c:Int} (h5:tmps.getD 3 undef=.int .i64 c)
  (ha:W.cell? ⟨r,0,none⟩=some (.int .i64 2)) (hb:W.cell? ⟨r,1,none⟩=some u) (hu:∃ p m q,u=.slice p m q):
  (results Tryz.f11 tmps).run Tryz.prog W=.ok (.tuple #[.agg #[.int .i64 2,u],.int .i64 c]) W:=by
 have hr:Tryz.f11.results=#[.cell 2 37,.tmp 3]:=rfl;obtain⟨p,m,q,rfl⟩:=hu;unfold results;rw[hr];rw[Array.getD_eq_getD_getElem?] at h4 h5;simp[go_sem,loadVar,h4,h5,ha,hb]
theorem lN (v:Value) (w:World) (hv:aV w v (zs [2,0])):Calls Tryz.prog 11 #[.agg #[.int .i64 2,v]] w fun e w'=>(∃ p m c,e=.returned (.tuple #[.agg #[.int .i64 2,.slice p m c],.int .i64 0]))∧aa w w':=by
 have HI:=hid (fun wz (kz:aa w wz)=>pJ 2 (zs [2,0]) v wz (hv.keeps kz));rw[show Bl 2 (zs [2,0])=true by decide] at HI;have x8:=hid (fun wz (kz:aa w wz)=>rA v wz (hv.keeps kz));obtain⟨pq,cq,rfl,-⟩:=hv;rw[show(zs [2,0]).length=2 from rfl] at*;have k1:=(aa.refl w).alloc (.cells #[.int .i64 2,.slice pq 2 cq] 41);obtain⟨c0,c1⟩:=jf.made w 2 (.slice pq 2 cq) 41
 have x7:aR ((w.alloc (.cells #[.int .i64 2,.slice pq 2 cq] 41)).alloc (.cells #[.int .i64 0,.slice none 0 0] 37)) (w.heap.size+1) 37 [.int .i64 0,.slice none 0 0]:=by
  have h:=aR.made (w.alloc (.cells #[.int .i64 2,.slice pq 2 cq] 41)) 37 [.int .i64 0,.slice none 0 0] qD qD;rw[World.size_alloc] at h;exact h
 have k2:=(aa.refl (w.alloc (.cells #[.int .i64 2,.slice pq 2 cq] 41))).alloc (.cells #[.int .i64 0,.slice none 0 0] 37);have d0:=k2.cell c0;have d1:=k2.cell c1;have K2:=hid (k1.trans k2);have x6:=hid x7;clear c0 c1 k1 k2 x7;go_enter Tryz.func11,Tryz.ntmps11
 go_upto_region 1 with fail
 generalize (w.alloc (.cells #[.int .i64 2,.slice pq 2 cq] 41)).alloc (.cells #[.int .i64 0,.slice none 0 0] 37)=w2 at*;go_wp2_with fail;refine(HI.out _ K2.out).mono ?_;rintro e w3 ⟨rfl,k3⟩;have K3:=hid (K2.out.trans k3);have e0:=k3.cell d0;have e1:=k3.cell d1;have x9:=hid (x6.out.keeps k3);clear d0 d1 x6 K2 k3 HI;go_wp2_with fail;refine(x8.out _ K3.out).mono ?_;rintro e w4 ⟨⟨u,rfl,p4,n4,q4,rfl⟩,k4⟩;have eE:=x9.out.keeps k4;have K4:=K3.out.trans k4;have y0:=eE.cell 0 qD;have y1:=eE.cell 1 qD;have f0:=eE.froz 0;have f1:=eE.froz 1;have h9:=(eE.set 0 (.int .i64 2)).set 1 (.slice p4 n4 q4);have z0:=h9.cell 0 qD;have z1:=h9.cell 1 qD;simp only[zj,zl,zc,zb] at y0 y1 z0 z1;have HZ:=hid (And.intro z0 z1);have HK:=hid ((K4.setCell (p:=⟨w.heap.size+1,0,none⟩) (by show w.heap.size≤w.heap.size+1;omega) (.int .i64 2)).setCell (p:=⟨w.heap.size+1,1,none⟩) (by show w.heap.size≤w.heap.size+1;omega) (.slice p4 n4 q4));clear z0 z1 h9 eE K4;go_wp2_with fail;refine bodyPost_ret (wO _ _ (w.heap.size+1) rfl rfl HZ.out.1 HZ.out.2 ⟨_,_,_,rfl⟩) rfl ?_;exact⟨⟨_,_,_,rfl⟩,HK.out⟩
end Go.Proofs.YtagoboblkadelaaGreat
