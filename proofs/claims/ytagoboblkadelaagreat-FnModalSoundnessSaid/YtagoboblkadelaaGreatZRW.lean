import Derived.Test.YtagoboblkadelaaGreatZQE4
import Derived.Test.YtagoboblkadelaaGreatZRB
/- own -/
namespace Go.Proofs.YtagoboblkadelaaGreat
section
open Go.RowKit
def bT (w:World) (B:Nat) (vs:List Value) (xs:List (List Nat)):Prop:=vs.length=xs.length∧∀ i (h1:i<vs.length) (h2:i<xs.length),aI w B vs[i] (zs xs[i])
theorem bT.nil (w:World) (B:Nat):bT w B [] []:=⟨rfl,fun i h=>by simp at h⟩
theorem bT.snoc {w:World} {B:Nat} {v:Value} {vs:List Value} {x:List Nat} {xs:List (List Nat)} (h:aI w B v (zs x)) (hs:bT w B vs xs):bT w B (vs++[v]) (xs++[x]):=
 ⟨by simp[hs.1],fun i h1 h2=>by
  have hl:=hs.1
  by_cases hi:i<vs.length
  ·rw[List.getElem_append_left hi,List.getElem_append_left qB];exact hs.2 i hi qB
  ·simp at h1
   obtain rfl:i=vs.length:=qB;rw[List.getElem_append_right (zm _),List.getElem_append_right qB]
   simpa [hl] using h⟩
theorem bT.append {w:World} {B:Nat} {vs us:List Value} {xs ys:List (List Nat)} (h:bT w B vs xs) (g:bT w B us ys):bT w B (vs++us) (xs++ys):=
 ⟨by simp[h.1,g.1],fun i h1 h2=>by
  have hl:=h.1;have gl:=g.1
  simp at h1 h2
  by_cases hi:i<vs.length
  ·rw[List.getElem_append_left hi,List.getElem_append_left qB];exact h.2 i hi qB
  ·rw[List.getElem_append_right qB,List.getElem_append_right qB]
   have:=g.2 (i-vs.length) qB qB
   simpa [hl] using this⟩
theorem bT.keeps {w w':World} {B:Nat} {vs:List Value} {xs:List (List Nat)} (h:bT w B vs xs) (k:aa w w'):bT w' B vs xs:=⟨h.1,fun i h1 h2=>(h.2 i h1 h2).keeps k⟩
theorem bT.mono {w:World} {B B':Nat} {vs:List Value} {xs:List (List Nat)} (h:bT w B vs xs) (k:B'≤B):bT w B' vs xs:=⟨h.1,fun i h1 h2=>(h.2 i h1 h2).mono k⟩
def JF (vs:List Value) (k:Nat):Prop:=∃ i,∃ h:i<vs.length,vs[i].ownBlock=some k
theorem bT.touch {w w':World} {S:Nat→Prop} {B:Nat} {vs:List Value} {xs:List (List Nat)} (h:bT w B vs xs) (k:al w w' S) (hS:∀ i,JF vs i→¬S i):bT w' B vs xs:=
 ⟨h.1,fun i h1 h2=>(h.2 i h1 h2).touch k (fun j e=>hS j ⟨i,h1,e⟩)⟩
theorem bT.off {w:World} {B B':Nat} {T:TypeId} {s n:Nat} {v:Value} {hs vs:List Value} {xs:List (List Nat)} (h:bT w B vs xs) (ho:w.ownsRow B' T s v n hs) (hT:T≠2) {k:Nat} (hk:v.ownBlock=some k):¬JF vs k:=fun ⟨i,hi,e⟩=>
 cE ho (h.2 i hi (by have:=h.1;omega)) hT hk e
theorem IE:(Tryz.prog.info? 35).map (fun i=>(i.zero,i.size,i.bytes))=some (some (.slice none 0 0),1,24):=qA
theorem Fg:(35:TypeId)≠2:=qC
def dS (w:World) (B:Nat) (v:Value) (xs:List (List Nat)):Prop:=∃ vs,w.ownsRow B 35 1 v xs.length vs∧bT w B vs xs
theorem dS.empty (w:World):dS (w.alloc (.cells #[] 35)) w.heap.size (.slice (some ⟨w.heap.size,0,none⟩) 0 0) []:=
 ⟨[],World.ownsRow_made w #[] 0 (zm _) (by simp[maxLen]) qD,bT.nil _ _⟩
theorem dS.keeps {w w':World} {B:Nat} {v:Value} {xs:List (List Nat)} (h:dS w B v xs) (k:aa w w'):dS w' B v xs:=by
 obtain⟨vs,ho,hr⟩:=h;exact⟨vs,bw ho k,hr.keeps k⟩
theorem dS.mono {w:World} {B B':Nat} {v:Value} {xs:List (List Nat)} (h:dS w B v xs) (k:B'≤B):dS w B' v xs:=by
 obtain⟨vs,ho,hr⟩:=h;exact⟨vs,fU ho k,hr.mono k⟩
theorem dS.shape {w:World} {B:Nat} {v:Value} {xs:List (List Nat)} (h:dS w B v xs):∃ p cap,v=.slice p xs.length cap∧xs.length≤cap∧cap≤maxLen:=by
 obtain⟨vs,ho,_⟩:=h;obtain⟨p,cap,h1,h2,h3,_⟩:=At.of_own ho;exact⟨p,cap,h1,h2,h3⟩
theorem dS.get {w:World} {B:Nat} {p:Option Addr} {n cap:Nat} {xs:List (List Nat)} (h:dS w B (.slice p n cap) xs) (i:Nat) (hi:i<xs.length):
  ∃ b off u,p=some ⟨b,off,none⟩∧w.cell? ⟨b,off+i,none⟩=some u∧aI w B u (zs xs[i]):=by
 obtain⟨vs,ho,hr⟩:=h;obtain⟨p',cap',e,_,_,eE⟩:=At.of_own ho
 cases e
 obtain⟨b,off,hp,hc⟩:=eE i (by rw[hr.1];exact hi);exact⟨b,off,_,hp,hc,hr.2 i (by rw[hr.1];exact hi) hi⟩
theorem aI.one {w:World} {B:Nat} {u:Value} {x:List Int} (h:aI w B u x):u.oneCell'=true:=by
 obtain⟨p,c,e,_⟩:=At.of_own h;rw[e];rfl
theorem Is {w:World} {o:Oper} {a:Act} {K:Act→World→Prop} {Q:Exit→Act→World→Prop} (s x:Operand)
  (ho:o.op=.call { callee:=.builtin .append,args:=#[s,x],argTypes:=#[187,187] }) (base:Nat) (v:Value) (xs:List (List Nat)) (hs:a.eval s=v)
  (w0:World) (x7:dS w0 base v xs) (k:aa w0 w) (u:Value) (y:List Nat) (hu:aI w base u (zs y)) (h9:base≤w.heap.size)
  (p:Option Addr) (c:Nat) (hx:a.eval x=.slice p 1 c) (x9:At w p [u]) (H7:xs.length≤2147483647)
  (h:∀ v' w',dS w' base v' (xs++[y])→w.grownBy w' v.ownBlock→(∀ k,v.ownBlock=some k→base≤k)→K (a.put o.dst v') w'):o.wp Tryz.prog a w K Q:=by
 obtain⟨i0,hi,H8,H9,KP⟩:=info_parts IE;obtain⟨vs,x8,hr⟩:=x7
 have x6:∀ z∈[u],z.oneCell'=true:=by
  intro z hz
  simp at hz;subst hz
  exact hu.one
 have eE:=bw x8 k;have hr':=hr.keeps k;refine bI s x _ ho _ i0 _ 1 24 Tryz.underlying187 hi H8 H9 KP rfl qC base v _ _ hs eE p 1 c [u] hx qD x9 x6 (by unfold maxLen;omega) qB h9 ?_;intro v' w' h1 h2 h3;refine h v' w' ⟨vs++[u],by rw[ze];exact h1,bT.snoc ?_ ?_⟩ h2 h3
 ·exact hu.touch (al.grown h2) (fun i hi e=>cE eE hu Fg e.symm hi)
 ·exact hr'.touch (al.grown h2) (fun i hb e=>hr'.off eE Fg e.symm hb)
theorem Jw {w:World} {ops:Array Oper} {rest:List Oper} {o:Oper} {a:Act} {Q:Exit→Act→World→Prop} (x8:o.guard=none) (s x:Operand)
  (ho:o.op=.call { callee:=.builtin .append,args:=#[s,x],argTypes:=#[187,187] }) (base:Nat) (v:Value) (xs:List (List Nat)) (hs:a.eval s=v)
  (w0:World) (x6:dS w0 base v xs) (k:aa w0 w) (u:Value) (y:List Nat) (hu:aI w base u (zs y)) (eE:base≤w.heap.size)
  (p:Option Addr) (c:Nat) (hx:a.eval x=.slice p 1 c) (x7:At w p [u]) (h9:xs.length≤2147483647)
  (h:∀ v' w',dS w' base v' (xs++[y])→w.grownBy w' v.ownBlock→(∀ k,v.ownBlock=some k→base≤k)→wpList Tryz.prog ops Q rest (a.put o.dst v') w'):wpList Tryz.prog ops Q (o::rest) a w:=
 wpList_plain x8 fun _ hK=>Is s x ho base v xs hs w0 x6 k u y hu eE p c hx x7 h9 fun v' w' h1 h2 h3=>hK _ _ (h v' w' h1 h2 h3)
theorem bT.one {w:World} {B:Nat} {u:Value} {x:List Nat} (h:aI w B u (zs x)):bT w B [u] [x]:=bT.snoc (vs:=[]) (xs:=[]) h (bT.nil _ _)
def Jj (w:World) (xs:List (List Nat)) (e:Ending) (w':World):Prop:=∃ v,e=.returned v∧dS w' w.heap.size v xs∧aa w w'
def bB:List (List Nat)→List Value→List Value
 | x::xs,u::us=>.int .i64 (x.length:Nat)::u::bB xs us
 | _,_=>[]
theorem fV:∀ (xs:List (List Nat)) (us:List Value),us.length=xs.length→(bB xs us).length=xs.length*2
 | [],[],_=>rfl
 | x::xs,u::us,h=>by
  have:=fV xs us (by simpa using h);simp only[bB,zh,this];omega
 | [],_::_,h=>by simp at h
 | _::_,[],h=>by simp at h
theorem gO:∀ (xs ys:List (List Nat)) (us vs:List Value),us.length=xs.length→bB (xs++ys) (us++vs)=bB xs us++bB ys vs
 | [],_,[],_,_=>rfl
 | x::xs,ys,u::us,vs,h=>by
  have:=gO xs ys us vs (by simpa using h);simp only[List.cons_append,bB,this]
 | [],_,_::_,_,h=>by simp at h
 | _::_,_,[],_,h=>by simp at h
theorem kK:∀ (xs:List (List Nat)) (us:List Value) (i:Nat) (h1:i<xs.length) (h2:i<us.length),(bB xs us)[i*2]? = some (.int .i64 (xs[i].length:Nat))∧(bB xs us)[i*2+1]? = some us[i]
 | x::xs,u::us,0,_,_=>by simp[bB]
 | x::xs,u::us,i+1,h1,h2=>by
  have:=kK xs us i (by simpa using h1) (by simpa using h2)
  simpa [bB,Nat.add_mul] using this
theorem kM:∀ (xs:List (List Nat)) (us:List Value),(∀ u∈us,u.oneCell'=true)→∀ z∈bB xs us,z.oneCell'=true
 | x::xs,u::us,h,z,hz=>by
  simp only[bB,List.mem_cons] at hz
  rcases hz with rfl | rfl | hz
  ·rfl
  ·exact h _ qD
  ·exact kM xs us (fun u hu=>h u (by simp[hu])) z hz
 | [],_,_,z,hz=>by simp[bB] at hz
 | _::_,[],_,z,hz=>by simp[bB] at hz
theorem At.ps1 {w:World} {u:Value} {x:List Nat} {E:TypeId}:At (w.alloc (.cells #[.int .i64 (x.length:Nat),u] E)) (some ⟨w.heap.size,0,none⟩) (bB [x] [u]):=by
 intro j hj
 match j,hj with
 | 0,_=>exact⟨_,_,rfl,by simp[bB]⟩
 | 1,_=>exact⟨_,_,rfl,by simp[bB]⟩
theorem DN:(Tryz.prog.info? 41).map (fun i=>(i.zero,i.size,i.bytes))=some (some (.agg #[.int .i64 0,.slice none 0 0]),2,32):=qA
theorem wX:(41:TypeId)≠2:=qC
def fF (w:World) (B:Nat) (v:Value) (xs:List (List Nat)):Prop:=∃ us,w.ownsRow B 41 2 v xs.length (bB xs us)∧bT w B us xs
theorem fF.empty (w:World):fF (w.alloc (.cells #[] 41)) w.heap.size (.slice (some ⟨w.heap.size,0,none⟩) 0 0) []:=
 ⟨[],World.ownsRow_made w #[] 0 (zm _) (by simp[maxLen]) qD,bT.nil _ _⟩
theorem fF.keeps {w w':World} {B:Nat} {v:Value} {xs:List (List Nat)} (h:fF w B v xs) (k:aa w w'):fF w' B v xs:=by
 obtain⟨vs,ho,hr⟩:=h;exact⟨vs,bw ho k,hr.keeps k⟩
theorem fF.shape {w:World} {B:Nat} {v:Value} {xs:List (List Nat)} (h:fF w B v xs):∃ p cap,v=.slice p xs.length cap∧xs.length≤cap∧cap≤maxLen:=by
 obtain⟨vs,ho,_⟩:=h;obtain⟨p,cap,h1,h2,h3,_⟩:=At.of_own ho;exact⟨p,cap,h1,h2,h3⟩
theorem fF.get {w:World} {B:Nat} {p:Option Addr} {n cap:Nat} {xs:List (List Nat)} (h:fF w B (.slice p n cap) xs) (i:Nat) (hi:i<xs.length):
  ∃ b off u,p=some ⟨b,off,none⟩∧w.cell? ⟨b,off+i*2,none⟩=some (.int .i64 (xs[i].length:Nat))∧w.cell? ⟨b,off+i*2+1,none⟩=some u∧aI w B u (zs xs[i]):=by
 obtain⟨us,ho,hr⟩:=h;have h9:=hr.1;obtain⟨p',cap',e,_,_,eE⟩:=At.of_own ho
 cases e
 have hl:=fV xs us h9;obtain⟨g1,g2⟩:=kK xs us i hi qB;obtain⟨b,off,hp,hc⟩:=eE (i*2) qB;obtain⟨b',off',hp',hc'⟩:=eE (i*2+1) qB;rw[hp] at hp'
 cases hp'
 rw[zn qB] at g1 g2;rw[Option.some.inj g1] at hc;rw[Option.some.inj g2] at hc';exact⟨b,off,us[i]'qB,hp,hc,by rw[Nat.add_assoc];exact hc',hr.2 i qB hi⟩
theorem Iq {w:World} {o:Oper} {a:Act} {K:Act→World→Prop} {Q:Exit→Act→World→Prop} (s x:Operand)
  (ho:o.op=.call { callee:=.builtin .append,args:=#[s,x],argTypes:=#[54,54] }) (base:Nat) (v:Value) (xs:List (List Nat)) (hs:a.eval s=v)
  (w0:World) (x7:fF w0 base v xs) (k:aa w0 w) (us:List Value) (ys:List (List Nat)) (hu:bT w base us ys) (h9:base≤w.heap.size)
  (p:Option Addr) (c:Nat) (hx:a.eval x=.slice p ys.length c) (x9:At w p (bB ys us)) (H7:xs.length+ys.length≤2147483647)
  (h:∀ v' w',fF w' base v' (xs++ys)→w.grownBy w' v.ownBlock→(∀ k,v.ownBlock=some k→base≤k)→K (a.put o.dst v') w'):o.wp Tryz.prog a w K Q:=by
 obtain⟨i0,hi,H8,H9,KP⟩:=info_parts DN;obtain⟨vs,x8,hr⟩:=x7
 have x6:∀ z∈bB ys us,z.oneCell'=true:=kM ys us fun u hu'=>by
  obtain⟨j,hj,rfl⟩:=List.getElem_of_mem hu';exact(hu.2 j hj (by have:=hu.1;omega)).one
 have eE:=bw x8 k;have hr':=hr.keeps k;refine bI s x _ ho _ i0 _ 2 32 Tryz.underlying54 hi H8 H9 KP rfl qC base v _ _ hs eE p ys.length c (bB ys us) hx (fV ys us hu.1) x9 x6 (by unfold maxLen;omega) qB h9 ?_;intro v' w' h1 h2 h3;refine h v' w' ⟨vs++us,?_,bT.append ?_ ?_⟩ h2 h3
 ·rw[ze,gO _ _ _ _ hr.1];exact h1
 ·exact hr'.touch (al.grown h2) (fun i hb e=>hr'.off eE wX e.symm hb)
 ·exact hu.touch (al.grown h2) (fun i hb e=>hu.off eE wX e.symm hb)
theorem Jt {w:World} {ops:Array Oper} {rest:List Oper} {o:Oper} {a:Act} {Q:Exit→Act→World→Prop} (x8:o.guard=none) (s x:Operand)
  (ho:o.op=.call { callee:=.builtin .append,args:=#[s,x],argTypes:=#[54,54] }) (base:Nat) (v:Value) (xs:List (List Nat)) (hs:a.eval s=v)
  (w0:World) (x6:fF w0 base v xs) (k:aa w0 w) (us:List Value) (ys:List (List Nat)) (hu:bT w base us ys) (eE:base≤w.heap.size)
  (p:Option Addr) (c:Nat) (hx:a.eval x=.slice p ys.length c) (x7:At w p (bB ys us)) (h9:xs.length+ys.length≤2147483647)
  (h:∀ v' w',fF w' base v' (xs++ys)→w.grownBy w' v.ownBlock→(∀ k,v.ownBlock=some k→base≤k)→wpList Tryz.prog ops Q rest (a.put o.dst v') w'):wpList Tryz.prog ops Q (o::rest) a w:=
 wpList_plain x8 fun _ hK=>Iq s x ho base v xs hs w0 x6 k us ys hu eE p c hx x7 h9 fun v' w' h1 h2 h3=>hK _ _ (h v' w' h1 h2 h3)
def dI (w:World) (B:Nat) (v:Value) (xs:List (List Nat)):Prop:=∃ us,w.ownsRow B 41 2 v xs.length (bB xs us)∧bT w 0 us xs
theorem dI.empty (w:World):dI (w.alloc (.cells #[] 41)) w.heap.size (.slice (some ⟨w.heap.size,0,none⟩) 0 0) []:=
 ⟨[],World.ownsRow_made w #[] 0 (zm _) (by simp[maxLen]) qD,bT.nil _ _⟩
theorem dI.keeps {w w':World} {B:Nat} {v:Value} {xs:List (List Nat)} (h:dI w B v xs) (k:aa w w'):dI w' B v xs:=by
 obtain⟨vs,ho,hr⟩:=h;exact⟨vs,bw ho k,hr.keeps k⟩
theorem dI.mono {w:World} {B B':Nat} {v:Value} {xs:List (List Nat)} (h:dI w B v xs) (k:B'≤B):dI w B' v xs:=by
 obtain⟨vs,ho,hr⟩:=h;exact⟨vs,fU ho k,hr⟩
theorem dI.shape {w:World} {B:Nat} {v:Value} {xs:List (List Nat)} (h:dI w B v xs):∃ p cap,v=.slice p xs.length cap∧xs.length≤cap∧cap≤maxLen:=by
 obtain⟨vs,ho,_⟩:=h;obtain⟨p,cap,h1,h2,h3,_⟩:=At.of_own ho;exact⟨p,cap,h1,h2,h3⟩
theorem dI.get {w:World} {B:Nat} {p:Option Addr} {n cap:Nat} {xs:List (List Nat)} (h:dI w B (.slice p n cap) xs) (i:Nat) (hi:i<xs.length):
  ∃ b off u,p=some ⟨b,off,none⟩∧w.cell? ⟨b,off+i*2,none⟩=some (.int .i64 (xs[i].length:Nat))∧w.cell? ⟨b,off+i*2+1,none⟩=some u∧aI w 0 u (zs xs[i]):=by
 obtain⟨us,ho,hr⟩:=h;have h9:=hr.1;obtain⟨p',cap',e,_,_,eE⟩:=At.of_own ho
 cases e
 have hl:=fV xs us h9;obtain⟨g1,g2⟩:=kK xs us i hi qB;obtain⟨b,off,hp,hc⟩:=eE (i*2) qB;obtain⟨b',off',hp',hc'⟩:=eE (i*2+1) qB;rw[hp] at hp'
 cases hp'
 rw[zn qB] at g1 g2;rw[Option.some.inj g1] at hc;rw[Option.some.inj g2] at hc';exact⟨b,off,us[i]'qB,hp,hc,by rw[Nat.add_assoc];exact hc',hr.2 i qB hi⟩
theorem Ip {w:World} {o:Oper} {a:Act} {K:Act→World→Prop} {Q:Exit→Act→World→Prop} (s x:Operand)
  (ho:o.op=.call { callee:=.builtin .append,args:=#[s,x],argTypes:=#[54,54] }) (base:Nat) (v:Value) (xs:List (List Nat)) (hs:a.eval s=v)
  (w0:World) (x7:dI w0 base v xs) (k:aa w0 w) (us:List Value) (ys:List (List Nat)) (hu:bT w 0 us ys) (h9:base≤w.heap.size)
  (p:Option Addr) (c:Nat) (hx:a.eval x=.slice p ys.length c) (x9:At w p (bB ys us)) (H7:xs.length+ys.length≤2147483647)
  (h:∀ v' w',dI w' base v' (xs++ys)→w.grownBy w' v.ownBlock→(∀ k,v.ownBlock=some k→base≤k)→K (a.put o.dst v') w'):o.wp Tryz.prog a w K Q:=by
 obtain⟨i0,hi,H8,H9,KP⟩:=info_parts DN;obtain⟨vs,x8,hr⟩:=x7
 have x6:∀ z∈bB ys us,z.oneCell'=true:=kM ys us fun u hu'=>by
  obtain⟨j,hj,rfl⟩:=List.getElem_of_mem hu';exact(hu.2 j hj (by have:=hu.1;omega)).one
 have eE:=bw x8 k;have hr':=hr.keeps k;refine bI s x _ ho _ i0 _ 2 32 Tryz.underlying54 hi H8 H9 KP rfl qC base v _ _ hs eE p ys.length c (bB ys us) hx (fV ys us hu.1) x9 x6 (by unfold maxLen;omega) qB h9 ?_;intro v' w' h1 h2 h3;refine h v' w' ⟨vs++us,?_,bT.append ?_ ?_⟩ h2 h3
 ·rw[ze,gO _ _ _ _ hr.1];exact h1
 ·exact hr'.touch (al.grown h2) (fun i hb e=>hr'.off eE wX e.symm hb)
 ·exact hu.touch (al.grown h2) (fun i hb e=>hu.off eE wX e.symm hb)
theorem Js {w:World} {ops:Array Oper} {rest:List Oper} {o:Oper} {a:Act} {Q:Exit→Act→World→Prop} (x8:o.guard=none) (s x:Operand)
  (ho:o.op=.call { callee:=.builtin .append,args:=#[s,x],argTypes:=#[54,54] }) (base:Nat) (v:Value) (xs:List (List Nat)) (hs:a.eval s=v)
  (w0:World) (x6:dI w0 base v xs) (k:aa w0 w) (us:List Value) (ys:List (List Nat)) (hu:bT w 0 us ys) (eE:base≤w.heap.size)
  (p:Option Addr) (c:Nat) (hx:a.eval x=.slice p ys.length c) (x7:At w p (bB ys us)) (h9:xs.length+ys.length≤2147483647)
  (h:∀ v' w',dI w' base v' (xs++ys)→w.grownBy w' v.ownBlock→(∀ k,v.ownBlock=some k→base≤k)→wpList Tryz.prog ops Q rest (a.put o.dst v') w'):wpList Tryz.prog ops Q (o::rest) a w:=
 wpList_plain x8 fun _ hK=>Ip s x ho base v xs hs w0 x6 k us ys hu eE p c hx x7 h9 fun v' w' h1 h2 h3=>hK _ _ (h v' w' h1 h2 h3)
end
section
open Go.RowKit Go.Sort
structure RowV (w:World) (B:Nat) where
 v:Value
 l:List Nat
 ok:aI w B v (zs l)
 hl:l.length≤100
instance (w:World) (B:Nat):Inhabited (RowV w B):=⟨⟨.slice none 0 0,[],aI.nil w B,qD⟩⟩
end
end Go.Proofs.YtagoboblkadelaaGreat
