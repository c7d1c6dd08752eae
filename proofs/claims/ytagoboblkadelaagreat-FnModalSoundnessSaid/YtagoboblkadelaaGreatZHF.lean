import Derived.Test.YtagoboblkadelaaGreatZZA
import Derived.Deep.RegionHeld3
import Derived.Deep.AppendLies
import Derived.RangeFuncNested
import Derived.RangeFuncBound
import Derived.RangeFuncCalls
import Derived.RangeFuncLeaves
import Derived.Shelf.Abstract
import Derived.Shelf.RegionOpen
import Derived.OwnWalkIn
import Derived.TacticsInMore
import Derived.LoopIn
/- own -/
namespace Go.Proofs.YtagoboblkadelaaGreat
def aC:Fm→List Fm
 | .var v=>[.var v]
 | .fls=>[.fls]
 | .and a b=>.and a b::(aC a++aC b)
 | .or a b=>.or a b::(aC a++aC b)
 | .imp a b=>.imp a b::(aC a++aC b)
 | .box a=>.box a::aC a
 | .dia a=>.dia a::aC a
theorem kY (t:Fm):(aC t).length=t.enc.length:=by
 induction t<;>simp[aC,Fm.enc, *]
theorem aF (t:Fm):t∈aC t:=by cases t<;>simp[aC]
theorem nP {t:Fm} (h:t.wf):∀ x∈aC t,x.wf:=by
 induction t with
 | var v=>intro x hx;simp[aC] at hx;subst hx;exact h
 | fls=>intro x hx;simp[aC] at hx;subst hx;exact h
 | and a b ha hb=>intro x hx;simp[aC] at hx;rcases hx with rfl | hx | hx;exact h;exact ha h.1 x hx;exact hb h.2 x hx
 | or a b ha hb=>intro x hx;simp[aC] at hx;rcases hx with rfl | hx | hx;exact h;exact ha h.1 x hx;exact hb h.2 x hx
 | imp a b ha hb=>intro x hx;simp[aC] at hx;rcases hx with rfl | hx | hx;exact h;exact ha h.1 x hx;exact hb h.2 x hx
 | box a ha=>intro x hx;simp[aC] at hx;rcases hx with rfl | hx;exact h;exact ha h x hx
 | dia a ha=>intro x hx;simp[aC] at hx;rcases hx with rfl | hx;exact h;exact ha h x hx
theorem nO {t:Fm}:∀ x∈aC t,x.enc.length≤t.enc.length:=by
 induction t with
 | var v=>intro x hx;simp[aC] at hx;subst hx;exact zm _
 | fls=>intro x hx;simp[aC] at hx;subst hx;exact zm _
 | and a b ha hb=>intro x hx;simp[aC] at hx;simp only[Fm.enc,zh,ze];rcases hx with rfl | hx | hx;simp only[Fm.enc,zh,ze];omega;have:=ha x hx;omega;have:=hb x hx;omega
 | or a b ha hb=>intro x hx;simp[aC] at hx;simp only[Fm.enc,zh,ze];rcases hx with rfl | hx | hx;simp only[Fm.enc,zh,ze];omega;have:=ha x hx;omega;have:=hb x hx;omega
 | imp a b ha hb=>intro x hx;simp[aC] at hx;simp only[Fm.enc,zh,ze];rcases hx with rfl | hx | hx;simp only[Fm.enc,zh,ze];omega;have:=ha x hx;omega;have:=hb x hx;omega
 | box a ha=>intro x hx;simp[aC] at hx;simp only[Fm.enc,zh];rcases hx with rfl | hx;simp only[Fm.enc,zh];omega;have:=ha x hx;omega
 | dia a ha=>intro x hx;simp[aC] at hx;simp only[Fm.enc,zh];rcases hx with rfl | hx;simp only[Fm.enc,zh];omega;have:=ha x hx;omega
theorem tm {t x:Fm} (h:x∈aC t):∀ y∈aC x,y∈aC t:=by
 induction t with
 | var v=>simp[aC] at h;subst h;exact fun y hy=>hy
 | fls=>simp[aC] at h;subst h;exact fun y hy=>hy
 | and a b ha hb=>
  simp[aC] at h
  rcases h with rfl | h | h
  ·exact fun y hy=>hy
  ·exact fun y hy=>(by simp[aC,ha h y hy])
  ·exact fun y hy=>(by simp[aC,hb h y hy])
 | or a b ha hb=>
  simp[aC] at h
  rcases h with rfl | h | h
  ·exact fun y hy=>hy
  ·exact fun y hy=>(by simp[aC,ha h y hy])
  ·exact fun y hy=>(by simp[aC,hb h y hy])
 | imp a b ha hb=>
  simp[aC] at h
  rcases h with rfl | h | h
  ·exact fun y hy=>hy
  ·exact fun y hy=>(by simp[aC,ha h y hy])
  ·exact fun y hy=>(by simp[aC,hb h y hy])
 | box a ha=>simp[aC] at h;rcases h with rfl | h;exact fun y hy=>hy;exact fun y hy=>by simp[aC,ha h y hy]
 | dia a ha=>simp[aC] at h;rcases h with rfl | h;exact fun y hy=>hy;exact fun y hy=>by simp[aC,ha h y hy]
theorem GL (t:Fm):∀ (i:Nat) (h:i<(aC t).length),∃ l r:List Nd,t.enc=l++((aC t)[i].enc++r)∧l.length=i:=by
 have two:∀ (n:Nd) (c a b:Fm),c.enc=n::(a.enc++b.enc)→aC c=c::(aC a++aC b)→
   (∀ (i:Nat) (h:i<(aC a).length),∃ l r:List Nd,a.enc=l++((aC a)[i].enc++r)∧l.length=i)→
   (∀ (i:Nat) (h:i<(aC b).length),∃ l r:List Nd,b.enc=l++((aC b)[i].enc++r)∧l.length=i)→
   ∀ (i:Nat) (h:i<(aC c).length),∃ l r:List Nd,c.enc=l++((aC c)[i].enc++r)∧l.length=i:=by
  intro n c a b hc hs ha hb i h
  cases i with
  | zero=>exact⟨[],[],by simp[hs],rfl⟩
  | succ i=>
   have hg:(aC c)[i+1]=(aC a++aC b)[i]'(by rw[hs] at h;simpa using h):=by simp[hs]
   rw[hg]
   by_cases hi:i<(aC a).length
   ·obtain⟨l,r,h1,h2⟩:=ha i hi
    refine⟨n::l,r++b.enc,?_,by simp[h2]⟩;rw[hc,List.getElem_append_left hi]
    conv=>lhs;rw[h1]
    simp
   ·have eE:i-(aC a).length<(aC b).length:=by rw[hs] at h;simp at h;omega
    obtain⟨l,r,h1,h2⟩:=hb (i-(aC a).length) eE;refine⟨n::(a.enc++l),r,?_,by simp[h2,←kY a];omega⟩;rw[hc,List.getElem_append_right qB]
    conv=>lhs;rw[h1]
    simp
 have one:∀ (n:Nd) (c a:Fm),c.enc=n::a.enc→aC c=c::aC a→
   (∀ (i:Nat) (h:i<(aC a).length),∃ l r:List Nd,a.enc=l++((aC a)[i].enc++r)∧l.length=i)→
   ∀ (i:Nat) (h:i<(aC c).length),∃ l r:List Nd,c.enc=l++((aC c)[i].enc++r)∧l.length=i:=by
  intro n c a hc hs ha i h
  cases i with
  | zero=>exact⟨[],[],by simp[hs],rfl⟩
  | succ i=>
   have hg:(aC c)[i+1]=(aC a)[i]'(by rw[hs] at h;simpa using h):=by simp[hs]
   rw[hg];obtain⟨l,r,h1,h2⟩:=ha i (by rw[hs] at h;simpa using h);refine⟨n::l,r,?_,by simp[h2]⟩;rw[hc]
   conv=>lhs;rw[h1]
   simp
 induction t with
 | var v=>
  intro i h;obtain rfl:i=0:=by simpa [aC] using h
  exact⟨[],[],by simp[aC],rfl⟩
 | fls=>
  intro i h;obtain rfl:i=0:=by simpa [aC] using h
  exact⟨[],[],by simp[aC],rfl⟩
 | and a b ha hb=>exact two _ _ a b rfl rfl ha hb
 | or a b ha hb=>exact two _ _ a b rfl rfl ha hb
 | imp a b ha hb=>exact two _ _ a b rfl rfl ha hb
 | box a ha=>exact one _ _ a rfl rfl ha
 | dia a ha=>exact one _ _ a rfl rfl ha
def fk:Fm→Bool
 | .var _=>true
 | .box _=>true
 | .dia _=>true
 | _=>false
def gA:Fm→Bool
 | .box _=>true
 | .dia _=>true
 | _=>false
def bg:Fm→Bool
 | .box _=>true
 | _=>false
def bH:Fm→Fm
 | .box a=>a
 | .dia a=>a
 | t=>t
def bV (E:List Fm) (m:Nat):Fm→Bool
 | .fls=>false
 | .and a b=>bV E m a&&bV E m b
 | .or a b=>bV E m a||bV E m b
 | .imp a b=>!bV E m a||bV E m b
 | t=>m.testBit (E.idxOf t)
def dE (E:List Fm):List Nat:=(List.range E.length).filter fun i=>gA (E.getD i .fls)
def bxB (E:List Fm) (i:Nat):Bool:=bg (E.getD i .fls)
def qe (E:List Fm) (i m:Nat):Bool:=bV E m (bH (E.getD i .fls))
def bE (E:List Fm) (i m:Nat):Bool:=m.testBit i==bxB E i
def fL (E:List Fm) (i m:Nat):Bool:=qe E i m==bxB E i
def Ap (L:Nat) (E:List Fm) (f t i:Nat):Bool:=
 !bE E i f||(if L=3∨L=5 then fL E i t&&bE E i t else if L=4 then bE E i t else fL E i t)
def wK (L:Nat) (E:List Fm) (f t:Nat):Bool:=(dE E).all (Ap L E f t)
def iy (L:Nat) (E:List Fm) (f t:Nat):Bool:=
 if L=6 then (dE E).all fun i=>bE E i f==bE E i t
 else if L=7 then wK L E f t&&wK L E t f
 else if L=5 then wK L E f t&&(dE E).any fun i=>bE E i t&&!bE E i f
 else wK L E f t
def C1 (L:Nat) (E:List Fm) (i f t:Nat):Bool:=iy L E f t&&!fL E i t&&(decide (L≠5)||bE E i t)
def jW (L:Nat) (E:List Fm) (m:Nat):Bool:=!(decide (L=2∨L=4∨L=6))||(dE E).all fun i=>!bE E i m||fL E i m
def ui (L:Nat) (E:List Fm) (N:Nat) (S:Nat→Bool) (m:Nat):Bool:=
 (decide (L≠1)||(List.range N).any fun t=>S t&&iy L E m t)&&(dE E).all fun i=>bE E i m||(List.range N).any fun t=>S t&&C1 L E i m t
theorem uP {L:Nat} {E:List Fm} {N:Nat} {S T:Nat→Bool} (h:∀ t,t<N→S t=true→T t=true) {m:Nat} (hs:ui L E N S m=true):ui L E N T m=true:=by
 unfold ui at*
 have up:∀ Q:Nat→Bool,(List.range N).any (fun t=>S t&&Q t)=true→(List.range N).any (fun t=>T t&&Q t)=true:=by
  intro Q hq;rw[List.any_eq_true] at*;obtain⟨t,ht,hb⟩:=hq;rw[zk] at hb;exact⟨t,ht,by rw[zk];exact⟨h t (List.mem_range.1 ht) hb.1,hb.2⟩⟩
 rw[zk] at*;obtain⟨h1,h2⟩:=hs;refine⟨?_,?_⟩
 ·rw[Bool.or_eq_true] at*
  exact h1.imp id (up _)
 ·rw[zt] at*
  intro i hi;have:=h2 i hi;rw[Bool.or_eq_true] at*;exact this.imp id (up _)
def xj (L:Nat) (E:List Fm) (N:Nat) (S:Nat→Bool):Prop:=∀ m,m<N→S m=true→jW L E m=true∧ui L E N S m=true
noncomputable def dM (L:Nat) (E:List Fm) (N m:Nat):Bool:=@decide (m<N∧∃ S,xj L E N S∧S m=true) (Classical.propDecidable _)
theorem sF {L:Nat} {E:List Fm} {N m:Nat}:dM L E N m=true↔m<N∧∃ S,xj L E N S∧S m=true:=by unfold dM;exact @decide_eq_true_iff _ (Classical.propDecidable _)
theorem lz (L:Nat) (E:List Fm) (N:Nat):xj L E N (dM L E N):=by
 intro m hm h;obtain⟨_,S,hS,hs⟩:=sF.1 h;obtain⟨h1,h2⟩:=hS m hm hs;exact⟨h1,uP (fun t ht eE=>sF.2 ⟨ht,S,hS,eE⟩) h2⟩
theorem yq {L:Nat} {E:List Fm} {N:Nat} {S:Nat→Bool} (h:xj L E N S) {m:Nat} (hm:m<N) (hs:S m=true):dM L E N m=true:=sF.2 ⟨hm,S,h,hs⟩
theorem Ai {L:Nat} {E:List Fm} {N:Nat} {S:Nat→Bool} (h:∀ t,t<N→dM L E N t=true→S t=true) {m:Nat} (hm:m<N) (hl:dM L E N m=true):ui L E N S m=true:=
 uP h (lz L E N m hm hl).2
theorem iR {L:Nat} {E:List Fm} {N m:Nat} (hm:m<N) (hl:dM L E N m=true):jW L E m=true:=(lz L E N m hm hl).1
theorem Gi {L:Nat} {E:List Fm} {N:Nat} {S:Nat→Bool} (h:∀ t,t<N→dM L E N t=true→S t=true) (hS:xj L E N S) {m:Nat} (hm:m<N):S m=dM L E N m:=by
 rw[Bool.eq_iff_iff];exact⟨yq hS hm,h m hm⟩
section
open Go.RowKit
structure al (w w':World) (S:Nat→Prop):Prop where
 os:w'.os=w.os
 tape:w'.tape=w.tape
 output:w'.output=w.output
 size:w.heap.size≤w'.heap.size
 block:∀ k,k<w.heap.size→¬S k→w'.heap[k]? = w.heap[k]?
theorem al.refl (w:World) (S:Nat→Prop):al w w S:=⟨rfl,rfl,rfl,zm _,fun _ _ _=>rfl⟩
theorem al.trans {a b c:World} {S:Nat→Prop} (h:al a b S) (k:al b c S):al a c S:=
 ⟨k.os.trans h.os,k.tape.trans h.tape,k.output.trans h.output,zx h.size k.size,fun i hi hs=>(k.block i (zv hi h.size) hs).trans (h.block i hi hs)⟩
theorem al.mono {a b:World} {S S':Nat→Prop} (h:al a b S) (hs:∀ k,S k→S' k):al a b S':=
 ⟨h.os,h.tape,h.output,h.size,fun i hi hn=>h.block i hi (fun e=>hn (hs i e))⟩
theorem al.grown {a b:World} {row:Option Nat} (h:a.grownBy b row):al a b (fun k=>some k=row):=
 ⟨h.os,h.tape,h.output,h.size,fun i hi hn=>h.block i hi hn⟩
theorem al.of_keeps {a b:World} (h:aa a b) (S:Nat→Prop):al a b S:=
 ⟨h.os,h.tape,h.output,h.size,fun _ hi _=>h.block hi⟩
theorem al.cell {w w':World} {S:Nat→Prop} (h:al w w' S) {b:Nat} (hb:b<w.heap.size) (hs:¬S b):
  (∀ o,w'.cell? ⟨b,o,none⟩=w.cell? ⟨b,o,none⟩)∧(∀ o,w'.frozen? ⟨b,o,none⟩=w.frozen? ⟨b,o,none⟩):=
 ⟨fun o=>World.cell?_of_block (a:=⟨b,o,none⟩) (h.block b hb hs),fun o=>World.frozen?_of_block (a:=⟨b,o,none⟩) (h.block b hb hs)⟩
theorem aa.touch {a w w':World} {S:Nat→Prop} (h:aa a w) (k:al w w' S) (hS:∀ i,S i→a.heap.size≤i):aa a w':=
 ⟨k.os.trans h.os,k.tape.trans h.tape,k.output.trans h.output,zx h.size k.size,fun i hi=>(k.block i (zv hi h.size) (fun e=>by have:=hS i e;omega)).trans (h.block hi)⟩
theorem aZ {w w':World} {S:Nat→Prop} {base:Nat} {e:TypeId} {size:Nat} {v:Value} {n:Nat} {xs:List Value} (h:w.ownsRow base e size v n xs) (k:al w w' S) (hS:∀ i,v.ownBlock=some i→¬S i):w'.ownsRow base e size v n xs:=by
 refine⟨h.1,?_⟩
 rcases h.2 with hn | ⟨g,cap,cur,rfl,hb,eE,rest⟩
 ·exact .inl hn
 ·exact .inr ⟨g,cap,cur,rfl,hb,(k.block g (Array.getElem?_eq_some_iff.1 eE).1 (hS g rfl)).trans eE,rest⟩
def cw (w:World) (k:Nat) (T:TypeId):Prop:=∃ cs fr,w.heap[k]? = some (.cells cs T fr)
theorem cw.lt {w:World} {k:Nat} {T:TypeId} (h:cw w k T):k<w.heap.size:=by
 obtain⟨cs,fr,e⟩:=h;exact(Array.getElem?_eq_some_iff.1 e).1
theorem cw.inj {w:World} {k:Nat} {T T':TypeId} (h:cw w k T) (h':cw w k T'):T=T':=by
 obtain⟨cs,fr,e⟩:=h;obtain⟨cs',fr',e'⟩:=h';rw[e] at e'
 cases e'
 rfl
theorem cw.keeps {w w':World} {k:Nat} {T:TypeId} (h:cw w k T) (kk:aa w w'):cw w' k T:=by
 have hl:=h.lt;obtain⟨cs,fr,e⟩:=h;exact⟨cs,fr,(kk.block hl).trans e⟩
theorem cw.alloc (w:World) (cs:Array Value) (T:TypeId):cw (w.alloc (.cells cs T)) w.heap.size T:=⟨cs,(0,0),by show(w.heap.push _)[w.heap.size]? = _;simp⟩
theorem cw.own {w:World} {B:Nat} {T:TypeId} {sz:Nat} {v:Value} {n:Nat} {xs:List Value} (h:w.ownsRow B T sz v n xs):∀ a n c,v=.slice (some a) n c→cw w a.block T:=fun a n c e=>by
 rcases h.2 with ⟨rfl,_⟩ | ⟨g,cap,cur,rfl,_,hg,_⟩
 ·cases e
 ·cases e;exact⟨cur,_,hg⟩
theorem cw.set {w:World} {k:Nat} {T:TypeId} (h:cw w k T) (a:Addr) (u:Value):cw (w.setCell a u) k T:=by
 obtain⟨cs,fr,e⟩:=h
 by_cases hk:a.block=k
 ·subst hk
  refine⟨if a.spot.isSome then cs else cs.setIfInBounds a.off u,fr,?_⟩;simp only[World.setCell,Array.getElem?_modify,e];rfl
 ·refine⟨cs,fr,?_⟩
  simp only[World.setCell,Array.getElem?_modify];rw[if_neg hk];exact e
theorem cw.touch {w w':World} {S:Nat→Prop} {k:Nat} {T:TypeId} (h:cw w k T) (kk:al w w' S) (hk:¬S k):cw w' k T:=by
 have hl:=h.lt;obtain⟨cs,fr,e⟩:=h;exact⟨cs,fr,(kk.block k hl hk).trans e⟩
def TyV (w:World) (v:Value) (T:TypeId):Prop:=∀ a n c,v=.slice (some a) n c→cw w a.block T
theorem TyV.keeps {w w':World} {v:Value} {T:TypeId} (h:TyV w v T) (k:aa w w'):TyV w' v T:=fun a n c e=>(h a n c e).keeps k
def lS (vs:List Value):Prop:=∀ i j (hi:i<vs.length) (hj:j<vs.length),i≠j→∀ k,vs[i].ownBlock=some k→vs[j].ownBlock≠some k
def Off (v:Value) (vs:List Value):Prop:=∀ i (hi:i<vs.length) k,v.ownBlock=some k→vs[i].ownBlock≠some k
def blk (vs:List Value) (k:Nat):Prop:=∃ i,∃ h:i<vs.length,vs[i].ownBlock=some k
def dA (w:World) (B:Nat) (vs:List Value) (xs:List (List Nd)):Prop:=vs.length=xs.length∧∀ i (h1:i<vs.length) (h2:i<xs.length),aU w B vs[i] xs[i]
theorem aU.touch {w w':World} {S:Nat→Prop} {B:Nat} {v:Value} {x:List Nd} (h:aU w B v x) (k:al w w' S) (hS:∀ i,v.ownBlock=some i→¬S i):aU w' B v x:=aZ h k hS
theorem dA.nil (w:World) (B:Nat):dA w B [] []:=⟨rfl,fun i h=>by simp at h⟩
theorem dA.snoc {w:World} {B:Nat} {v:Value} {vs:List Value} {x:List Nd} {xs:List (List Nd)} (h:aU w B v x) (hs:dA w B vs xs):dA w B (vs++[v]) (xs++[x]):=
 ⟨by simp[hs.1],fun i h1 h2=>by
  have hl:=hs.1
  by_cases hi:i<vs.length
  ·rw[List.getElem_append_left hi,List.getElem_append_left qB];exact hs.2 i hi qB
  ·simp at h1
   obtain rfl:i=vs.length:=qB;rw[List.getElem_append_right (zm _),List.getElem_append_right qB]
   simpa [hl] using h⟩
theorem dA.keeps {w w':World} {B:Nat} {vs:List Value} {xs:List (List Nd)} (h:dA w B vs xs) (k:aa w w'):dA w' B vs xs:=⟨h.1,fun i h1 h2=>(h.2 i h1 h2).keeps k⟩
theorem dA.mono {w:World} {B B':Nat} {vs:List Value} {xs:List (List Nd)} (h:dA w B vs xs) (k:B'≤B):dA w B' vs xs:=⟨h.1,fun i h1 h2=>(h.2 i h1 h2).mono k⟩
theorem dA.touch {w w':World} {S:Nat→Prop} {B:Nat} {vs:List Value} {xs:List (List Nd)} (h:dA w B vs xs) (k:al w w' S) (hS:∀ i,blk vs i→¬S i):dA w' B vs xs:=
 ⟨h.1,fun i h1 h2=>(h.2 i h1 h2).touch k (fun j e=>hS j ⟨i,h1,e⟩)⟩
theorem dA.lt {w:World} {B:Nat} {vs:List Value} {xs:List (List Nd)} (h:dA w B vs xs) {k:Nat} (hk:blk vs k):B≤k∧k<w.heap.size:=by
 obtain⟨i,hi,e⟩:=hk;exact(h.2 i hi (by have:=h.1;omega)).len k e
theorem lS.nil:lS []:=fun i j hi=>by simp at hi
theorem Off.nil (v:Value):Off v []:=fun i hi=>by simp at hi
theorem Off.not_blk {v:Value} {vs:List Value} (h:Off v vs) {k:Nat} (hk:v.ownBlock=some k):¬blk vs k:=fun ⟨i,hi,e⟩=>h i hi k hk e
theorem lS.snoc {v:Value} {vs:List Value} (h:∀ k,v.ownBlock=some k→¬blk vs k) (hs:lS vs):lS (vs++[v]):=fun i j hi hj eE k hk=>by
 simp at hi hj
 by_cases h1:i<vs.length
 ·rw[List.getElem_append_left h1] at hk
  by_cases h2:j<vs.length
  ·rw[List.getElem_append_left h2];exact hs i j h1 h2 eE k hk
  ·obtain rfl:j=vs.length:=qB
   rw[List.getElem_append_right (zm _)];intro e;exact h k (by simpa using e) ⟨i,h1,hk⟩
 ·obtain rfl:i=vs.length:=qB
  rw[List.getElem_append_right (zm _)] at hk;have h2:j<vs.length:=qB;rw[List.getElem_append_left h2];intro e;exact h k (by simpa using hk) ⟨j,h2,e⟩
def tot:List (List Nd)→Nat
 | []=>0
 | x::xs=>x.length+tot xs
theorem tn (xs ys:List (List Nd)):tot (xs++ys)=tot xs+tot ys:=by
 induction xs with
 | nil=>simp[tot]
 | cons x xs ih=>simp[tot,ih];omega
theorem E9 (xs:List (List Nd)) (i:Nat) (h:i<xs.length):tot (xs.take (i+1))=tot (xs.take i)+xs[i].length:=by
 rw[zq h,tn];simp[tot]
theorem I4 (xs:List (List Nd)) (i:Nat):tot (xs.take i)≤tot xs:=by
 have:=tn (xs.take i) (xs.drop i);rw[List.take_append_drop] at this;omega
theorem GO (xs:List (List Nd)) (i:Nat) (h:i<xs.length):tot (xs.take i)+xs[i].length≤tot xs:=by
 rw[←E9 xs i h];exact I4 xs _
def fN (w:World) (B:Nat) (v:Value) (xs:List (List Nd)):Prop:=∃ vs,w.ownsRow B 50 1 v xs.length vs∧dA w B vs xs∧lS vs∧Off v vs
theorem CB {w:World} {B:Nat} {p:Option Addr} {cap:Nat} {vs:List Value} {xs:List (List Nd)} (eE:At w p vs) (hr:dA w B vs xs) (h1:xs.length≤cap) (h2:cap≤maxLen) (h3:xs.length≤2147483648) (h4:tot xs≤2147483648):bW w (.slice p xs.length cap) xs:=by
 refine⟨p,cap,rfl,h1,h2,h3,fun i hi=>?_⟩;have hl:=hr.1;obtain⟨b,off,hp,hc⟩:=eE i qB;refine⟨b,off,fun _=>vs[i],hp,fun c hc'=>?_,(hr.2 i qB hi).nds (by have:=GO xs i hi;omega)⟩;obtain rfl:c=0:=qB
 simpa using hc
theorem fN.ndsL {w:World} {B:Nat} {v:Value} {xs:List (List Nd)} (h:fN w B v xs) (h3:xs.length≤2147483648) (h4:tot xs≤2147483648):bW w v xs:=by
 obtain⟨vs,ho,hr,_,_⟩:=h;obtain⟨p,cap,rfl,h1,h2,eE⟩:=At.of_own ho;exact CB eE hr h1 h2 h3 h4
theorem fN.keeps {w w':World} {B:Nat} {v:Value} {xs:List (List Nd)} (h:fN w B v xs) (k:aa w w'):fN w' B v xs:=by
 obtain⟨vs,ho,hr,ha,hf⟩:=h;exact⟨vs,bw ho k,hr.keeps k,ha,hf⟩
end
section
open Go.RowKit
section
variable {P:Program} {ops:Array Oper} {Q:Exit→Act→World→Prop} {md:Region.Mode} {S:World→Prop} {L:Nat}
def o7 (md:Region.Mode) (ops:Array Oper) (L i:Nat):Bool:=
 match ops[L]? with
 | some o=>o.after.any fun e=>Region.binds md e&&e.on==i
 | none=>false
def fB (P:Program) (md:Region.Mode) (ops:Array Oper) (Q:Exit→Act→World→Prop) (S:World→Prop) (L:Nat):Nat→Array Bool→Act→World→Prop
 | 0,listed,a,w=>Region.ready md ops listed=[]∧Q .normal a w
 | fuel+1,listed,a,w=>
  (Region.ready md ops listed=[]→Q .normal a w)∧
  ∀ i∈Region.ready md ops listed,wpOp P ops Q i (fun a' w'=>((listed.setIfInBounds i true).getD L false=true∨S w')∧fB P md ops Q S L fuel (listed.setIfInBounds i true) a' w') a w
theorem tu:∀ (fuel:Nat) (listed:Array Bool) (a:Act) (w:World),fB P md ops Q S L fuel listed a w→wpAny P md ops Q fuel listed a w
 | 0,_,_,_,h=>h
 | fuel+1,_,_,_,h=>⟨h.1,fun i hi=>wpOp_mono (fun a' w' h'=>tu fuel _ a' w' h'.2) (h.2 i hi)⟩
theorem nE {listed:Array Bool} {i L:Nat} (h:i≠L):(listed.setIfInBounds i true).getD L false=listed.getD L false:=by
 rw[Array.getD_eq_getD_getElem?,Array.getD_eq_getD_getElem?,Array.getElem?_setIfInBounds_ne h]
theorem xb {listed:Array Bool} {i:Nat} (hw:o7 md ops L i=true) (hi:listed.getD i false=false):L∉Region.ready md ops listed:=by
 intro h;obtain⟨_,oL,h9,eE⟩:=mem_ready.1 h;unfold o7 at hw;rw[h9] at hw;obtain⟨e,he,hb⟩:=Array.any_eq_true'.1 hw;rw[zk,beq_iff_eq] at hb;have h1:=eE e he hb.1;rw[hb.2] at h1
 rcases Nat.lt_or_ge i listed.size with h' | h'
 ·simp[h'] at hi h1;rw[hi] at h1;cases h1
 ·simp[Array.getElem?_eq_none h'] at h1
theorem nT {i:Nat} {oi:Oper} {v:Value} (hi:ops[i]? = some oi) (H7:∀ (j:Nat) (o:Oper) cs b,ops[j]? = some o→o.op≠.select cs b) (H9:i≠L)
  (hQ:∀ c a w,Q (.panic c) (a.put oi.dst v) w→Q (.panic c) a w) (S':World→Prop) (x9:o7 md ops L i=true∧S'=S∨S'=fun _=>True):
  ∀ (fuel:Nat) (listed:Array Bool) (a:Act) (w:World),
   (∀ j oj,ops[j]? = some oj→j≠i→listed.getD j true=false→(∀ e∈oj.after,Region.binds md e=true→e.on≠i)→oi.apart ops oj=true)→
   i∈Region.ready md ops listed→YieldsIf P ops S' oi v a→(listed.getD L false=true∨S w)→(o7 md ops L i=true∧S'=S→listed.getD L false=false∧S w)→
   fB P md ops Q S L fuel (listed.setIfInBounds i true) (a.put oi.dst v) w→fB P md ops Q S L (fuel+1) listed a w:=by
 intro fuel
 have hS':∀ (listed:Array Bool) (w:World),(o7 md ops L i=true∧S'=S→listed.getD L false=false∧S w)→S' w:=fun listed w h2=>by
  rcases x9 with hm | hm
  ·rw[hm.2];exact(h2 hm).2
  ·rw[hm];exact True.intro
 induction fuel with
 | zero=>
  intro listed a w _ hr hy hS h2 H;refine⟨fun h=>(by rw[h] at hr;cases hr),fun j hj=>?_⟩
  by_cases x6:j=i
  ·subst x6;exact hy.wpOp hi (hS' _ _ h2) ⟨by rw[nE H9];exact hS,H⟩
  ·have:=ready_mono hj x6
   rw[H.1] at this
   cases this
 | succ fuel ih=>
  intro listed a w h9 hr hy hS h2 H;refine⟨fun h=>(by rw[h] at hr;cases hr),fun j hj=>?_⟩
  by_cases x6:j=i
  ·subst x6;exact hy.wpOp hi (hS' _ _ h2) ⟨by rw[nE H9];exact hS,H⟩
  ·have h1:=H.2 j (ready_mono hj x6)
   obtain⟨x8,oj,KR,H8⟩:=mem_ready.1 hj
   have KV:listed.getD i false=false:=by
    have h0:=(mem_ready.1 hr).1
    rcases Nat.lt_or_ge i listed.size with h' | h'
    ·simp[h'] at h0 ⊢;exact h0
    ·simp[Array.getElem?_eq_none h'] at h0 ⊢
   have KP:∀ e∈oj.after,Region.binds md e=true→e.on≠i:=fun e he hb KU=>by
    have h1:=H8 e he hb;have h0:=(mem_ready.1 hr).1;rw[KU] at h1
    rcases Nat.lt_or_ge i listed.size with h' | h'
    ·simp[h'] at h0 h1;rw[h0] at h1;cases h1
    ·simp[Array.getElem?_eq_none h'] at h1
   have h3:=wpOp_putIf KR (h9 j oj KR x6 x8 KP) (fun cs b=>H7 i oi cs b hi) (fun cs b=>H7 j oj cs b KR) hQ hy h1
   have x7:∀ k ok,ops[k]? = some ok→k≠i→(listed.setIfInBounds j true).getD k true=false→
     (∀ e∈ok.after,Region.binds md e=true→e.on≠i)→oi.apart ops ok=true:=fun k ok hk KZ KT K0=>by
    refine h9 k ok hk KZ ?_ K0
    by_cases KS:j=k
    ·subst KS;exact x8
    ·rw[getD_set_ne true KS] at KT;exact KT
   have eE:(listed.setIfInBounds i true).setIfInBounds j true=(listed.setIfInBounds j true).setIfInBounds i true:=Array.setIfInBounds_comm _ _ (Ne.symm x6);refine wpOp_mono (fun a' w' h4=>?_) h3
   have hb:(listed.setIfInBounds j true).getD L false=true∨S w':=by
    have:=h4.2.1;rw[eE,nE H9] at this;exact this
   refine⟨hb,ih (listed.setIfInBounds j true) a' w' x7 (ready_mono hr (Ne.symm x6)) h4.1 hb ?_ ?_⟩
   ·intro hm
    have KY:j≠L:=fun e=>xb hm.1 KV (e▸hj)
    have hl:(listed.setIfInBounds j true).getD L false=false:=by rw[nE KY];exact(h2 hm).1
    refine⟨hl,?_⟩
    rcases hb with hb | hb
    ·rw[hl] at hb;cases hb
    ·exact hb
   ·rw[←eE];exact h4.2.2
theorem aP {i:Nat} {oi:Oper} {v:Value} {fuel:Nat} {listed:Array Bool} {a:Act} {w:World} (hi:ops[i]? = some oi)
  (hs:Region.noSelect ops=true) (hf:Region.free md ops listed i=true) (hr:(Region.ready md ops listed).contains i=true) (eE:(i != L)=true) (hl:listed.getD L false=false) (hw:o7 md ops L i=true)
  (hQ:∀ c a w,Q (.panic c) (a.put oi.dst v) w→Q (.panic c) a w) (hy:YieldsIf P ops S oi v a) (hS:S w)
  (h:fB P md ops Q S L fuel (listed.setIfInBounds i true) (a.put oi.dst v) w):fB P md ops Q S L (fuel+1) listed a w:=
 nT hi (Region.noSelect_spec hs) (by simpa using eE) hQ S (.inl ⟨hw,rfl⟩) fuel listed a w (Region.free_spec hi hf) (by simpa using hr) hy (.inr hS) (fun _=>⟨hl,hS⟩) h
theorem ay {i:Nat} {oi:Oper} {v:Value} {fuel:Nat} {listed:Array Bool} {a:Act} {w:World} (hi:ops[i]? = some oi)
  (hs:Region.noSelect ops=true) (hf:Region.free md ops listed i=true) (hr:(Region.ready md ops listed).contains i=true) (eE:(i != L)=true) (hl:listed.getD L false=false)
  (hQ:∀ c a w,Q (.panic c) (a.put oi.dst v) w→Q (.panic c) a w) (hy:YieldsIf P ops (fun _=>True) oi v a) (hS:S w)
  (h:fB P md ops Q S L fuel (listed.setIfInBounds i true) (a.put oi.dst v) w):fB P md ops Q S L (fuel+1) listed a w:=
 nT hi (Region.noSelect_spec hs) (by simpa using eE) hQ (fun _=>True) (.inr rfl) fuel listed a w (Region.free_spec hi hf) (by simpa using hr) hy (.inr hS) (fun _=>⟨hl,hS⟩) h
theorem ba {i:Nat} {o:Oper} {fuel:Nat} {listed:Array Bool} {a:Act} {w:World} (hr:Region.ready md ops listed=[i]) (ho:ops[i]? = some o)
  (h:∀ K':Act→World→Prop,Shut (∀ a w,S w→(S w→fB P md ops Q S L fuel (listed.setIfInBounds i true) a w)→K' a w)→if Region.wanted o (yielded ops a.tmps)=true then Oper.wp P o a w K' Q else K' (a.put o.dst undef) w):
  fB P md ops Q S L (fuel+1) listed a w:=
by
 refine⟨fun h0=>absurd (hr.symm.trans h0) qD,fun j hj=>?_⟩;rw[hr] at hj
 obtain rfl:j=i:=by simpa using hj
 exact wpOp_step ho (fun K' hK=>h K' (fun a w hS hW=>hK a w ⟨.inr hS,hW hS⟩))
theorem fa {o:Oper} {fuel:Nat} {listed:Array Bool} {a:Act} {w:World} (hr:Region.ready md ops listed=[L]) (ho:ops[L]? = some o) (eE:L<listed.size)
  (h:∀ K':Act→World→Prop,Shut (∀ a w,fB P md ops Q S L fuel (listed.setIfInBounds L true) a w→K' a w)→if Region.wanted o (yielded ops a.tmps)=true then Oper.wp P o a w K' Q else K' (a.put o.dst undef) w):
  fB P md ops Q S L (fuel+1) listed a w:=
by
 refine⟨fun h0=>absurd (hr.symm.trans h0) qD,fun j hj=>?_⟩;rw[hr] at hj
 obtain rfl:j=L:=by simpa using hj
 exact wpOp_step ho (fun K' hK=>h K' (fun a w hW=>hK a w ⟨.inl (by simp[eE]),hW⟩))
theorem eZ {listed:Array Bool} {a:Act} {w:World} (hr:Region.ready md ops listed=[]) (h:Q .normal a w):∀ fuel,fB P md ops Q S L fuel listed a w
 | 0=>⟨hr,h⟩
 | _+1=>⟨fun _=>h,by rw[hr];simp⟩
theorem fc {id:Nat} {a:Act} {w:World} (hm:P.follows .mixedOrders=true) (hS:S w.drew)
  (h:S w.drew→fB P .any ops Q S L ops.size (Array.replicate ops.size false) a w.drew):(Code.region id ops true).wp P Q a w:=
 wp_region_any hm (tu _ _ _ _ (h hS))
end
end
section
open Go.RowKit
theorem Ir {w:World} {o:Oper} {a:Act} {K:Act→World→Prop} {Q:Exit→Act→World→Prop} (s x:Operand)
  (ho:o.op=.call { callee:=.builtin .append,args:=#[s,x],argTypes:=#[35,35] }) (base:Nat) (v:Value) (xs:List Int) (hs:a.eval s=v) (h9:aI w base v xs)
  (u:Value) (y:Int) (hx:a.eval x=u) (hu:aV w u [y]) (eE:base≤w.heap.size) (x7:xs.length≤1000000)
  (h:∀ v' w',aI w' base v' (xs++[y])→w.grownBy w' v.ownBlock→(∀ k,v.ownBlock=some k→base≤k)→(∀ k,v'.ownBlock=some k→v.ownBlock=some k∨w.heap.size≤k)→K (a.put o.dst v') w'):o.wp Tryz.prog a w K Q:=by
 obtain⟨i0,hi,x8,x9,H7⟩:=info_parts DO;obtain⟨p,cap,rfl,_,_,x6,_⟩:=hu;obtain⟨b,off,rfl,hc⟩:=x6 0 (by simp[aO]);refine wp_append_lies w s x _ ho base _ i0 _ 1 8 Tryz.underlying35 hi x8 x9 H7 rfl qC v _ _ hs h9 ⟨b,off,none⟩ 1 cap [.int .i64 y] hx qD ?_ (by simp[Value.oneCell']) qB (by unfold maxLen;omega) qB eE _ rfl ?_
 ·intro j u hj
  cases j with
  | zero=>simp at hj;subst hj;simpa [Addr.add,aO] using hc
  | succ j=>simp at hj
 ·intro g c' w' h2 h3 h4 h5
  refine h _ w' ?_ h3 (fun k e=>(World.ownsRow.lt h9 k e).1) (fun k e=>?_)
  ·unfold aI
   rw[ze,show aO (xs++[y])=aO xs++[.int .i64 y] by simp[aO]];exact h2
  ·have:k=g:=by simpa [Value.ownBlock] using e.symm
   subst this
   rcases h4 with h4 | h4
   ·exact .inl h4
   ·exact .inr qB
theorem Ju {w:World} {ops:Array Oper} {rest:List Oper} {o:Oper} {a:Act} {Q:Exit→Act→World→Prop} (x7:o.guard=none) (s x:Operand)
  (ho:o.op=.call { callee:=.builtin .append,args:=#[s,x],argTypes:=#[35,35] }) (base:Nat) (v:Value) (xs:List Int) (hs:a.eval s=v) (x6:aI w base v xs)
  (u:Value) (y:Int) (hx:a.eval x=u) (hu:aV w u [y]) (eE:base≤w.heap.size) (h9:xs.length≤1000000)
  (h:∀ v' w',aI w' base v' (xs++[y])→w.grownBy w' v.ownBlock→(∀ k,v.ownBlock=some k→base≤k)→(∀ k,v'.ownBlock=some k→v.ownBlock=some k∨w.heap.size≤k)→wpList Tryz.prog ops Q rest (a.put o.dst v') w'):wpList Tryz.prog ops Q (o::rest) a w:=
 wpList_plain x7 fun _ hK=>Ir s x ho base v xs hs x6 u y hx hu eE h9 fun v' w' h1 h2 h3 h4=>hK _ _ (h v' w' h1 h2 h3 h4)
end
def inM (a b:Nat):Prop:=∀ i,a.testBit i=true→b.testBit i=true
theorem inM.refl (a:Nat):inM a a:=fun _ h=>h
theorem inM.trans {a b c:Nat} (h:inM a b) (k:inM b c):inM a c:=fun i hi=>k i (h i hi)
theorem DM (a b:Nat):inM a (a ||| b):=fun i hi=>by simp[hi]
def leR (a b:List Nat):Prop:=a.length=b.length∧∀ i,inM (a.getD i 0) (b.getD i 0)
theorem leR.refl (a:List Nat):leR a a:=⟨rfl,fun _=>inM.refl _⟩
theorem leR.trans {a b c:List Nat} (h:leR a b) (k:leR b c):leR a c:=⟨h.1.trans k.1,fun i=>(h.2 i).trans (k.2 i)⟩
def nS (a:List Nat) (j i:Nat):List Nat:=if (a.getD i 0).testBit j then a.set i (a.getD i 0 ||| a.getD j 0) else a
theorem C0 (a:List Nat) (j i:Nat):(nS a j i).length=a.length:=by unfold nS;split<;>simp
theorem Fw (a:List Nat) (j i:Nat):leR a (nS a j i):=by
 refine⟨(C0 a j i).symm,fun k=>?_⟩;unfold nS
 split
 ·by_cases hk:i=k
  ·subst hk
   by_cases hi:i<a.length
   ·simp only[zi,List.getElem?_set_self hi,Option.getD_some]
    exact DM _ _
   ·simp[List.getD_eq_getElem?_getD,Nat.not_lt.1 hi,inM]
  ·simp only[zi,List.getElem?_set_ne hk]
   exact inM.refl _
 ·exact inM.refl _
def tq (a:List Nat) (j:Nat):Nat→List Nat
 | 0=>a
 | i+1=>nS (tq a j i) j i
def nR (a:List Nat) (n:Nat):Nat→List Nat
 | 0=>a
 | j+1=>tq (nR a n j) j n
theorem xa (a:List Nat) (j:Nat):∀ i,leR a (tq a j i)
 | 0=>leR.refl a
 | i+1=>(xa a j i).trans (Fw _ _ _)
theorem BQ (a:List Nat) (n:Nat):∀ j,leR a (nR a n j)
 | 0=>leR.refl a
 | j+1=>(BQ a n j).trans (xa _ _ _)
section
open Go.RowKit
def Jb (J Jx:World→Prop) (b:Bool) (W:World):Prop:=
 match b with
 | true=>J W
 | false=>Jx W
def Hr (p:Bool) (I Ix:World→Prop) (S:Nat→Prop) (W:World) (e:Exit) (W':World):Prop:=
 match e with
 | .normal=>p=true∧I W'∧al W W' S
 | .ret=>p=false∧Ix W'∧al W W' S
 | _=>False
theorem qM {P:Program} {β:Type} {g:Operand} {ps:Array Tmp} {assign body:Code} {Q:Exit→Act→World→Prop} {a:Act} {w:World} {n:Nat}
  {gf:Nat} {lb:Array Value} (hg:a.eval g=.func (.func gf) #[] lb) (eg:∀ args w,(callFunc gf args).run P w=.ok (.enter gf args) w)
  (arg:β→Value) (Ll:ps.size=1) (Rd:β→World→Prop) (Lg:∀ x A B l,Rd x A→A.grownBy B (some l)→(∃ o:Obj,A.heap[l]? = some o∧o.isCells=false)→Rd x B)
  (Pt:β→Bool) (res:Bool) (S:Nat→Prop) (hS:∀ k,S k→k<w.heap.size)
  (I Ix:World→Prop) (hI:∀ A B,I A→al A B (fun k=>w.heap.size≤k)→I B) (KZ:∀ A B,Ix A→al A B (fun k=>w.heap.size≤k)→Ix B) (h0:I w) (a₁:β→Act)
  (KV:∀ (J Jx:World→Prop) (W1:World),W1.heap.size=w.heap.size+2→aa w W1→(∀ A B,J A→al A B (fun k=>w.heap.size+2≤k)→J B)→(∀ A B,Jx A→al A B (fun k=>w.heap.size+2≤k)→Jx B)→
   (∀ x W,J W→Rd x W→YieldAt Fence.wide (n-1-1) P (w.heap.size+1) #[arg x] W fun e W'=>e=.returned (.bool (Pt x))∧Jb J Jx (Pt x) W'∧al W W' (fun k=>S k∨k=w.heap.size+1))→
   J W1→CallsIn Fence.wide (n-1) P gf (#[.func (.yield (w.heap.size+1)) #[] #[]]++lb) W1 fun e W'=>(∃ v,e=.returned v)∧Jb J Jx res W')
  (x6:∀ (l:Nat) (x:β) (W:World) (K:Act→World→Prop),K (a₁ x) W→
   assign.wpIn (Fence.wide.inRound l) (n-1-1) P (Exit.then K (fun _ _ _=>False)) { tmps:=(ps.zip #[arg x]).foldl (fun t (p,v)=>t.setIfInBounds p v) a.tmps,defers:=[] } W)
  (H8:∀ (l:Nat) (x:β) (W:World),I W→Rd x W→body.wpIn (Fence.wide.inRound l) (n-1-1) P (fun e _ W'=>Hr (Pt x) I Ix S W e W') (a₁ x) W)
  (H9:∀ W,res=true→I W→W.heap[w.heap.size]? = some (.deferred (some []))→Q .normal { a with defers:={ target:=.collected w.heap.size,args:=#[] }::a.defers } W)
  (KR:∀ W,res=false→Ix W→W.heap[w.heap.size]? = some (.deferred (some []))→Code.ret.wpIn Fence.wide n P Q { a with defers:={ target:=.collected w.heap.size,args:=#[] }::a.defers } W):
  (Code.rangeFunc g ps assign body).wpIn Fence.wide n P Q a w:=by
 refine wpIn_rangeFunc ?_;intro fn Li;rw[show Fence.wide.round=none from rfl]
 obtain⟨mk,eE⟩:∃ mk:LoopState→Option Code→Loop,mk=fun st pe=>{ state:=st,pending:=pe,fn,tmps:=a.tmps,params:=ps,assign,body,defers:=w.heap.size }:=⟨_,rfl⟩
 obtain⟨W1,H7⟩:∃ W1,(w.alloc (.deferred (some []))).alloc (.loop (mk .ready none))=W1:=⟨_,rfl⟩
 have Lo:W1.heap.size=w.heap.size+2:=by rw[←H7];simp
 have La:aa w W1:=by rw[←H7];exact((aa.refl w).alloc _).alloc _
 have Lf:W1.heap[w.heap.size+1]? = some (.loop (mk .ready none)):=by
  rw[←H7];have:=World.alloc_heap_new (w.alloc (.deferred (some []))) (.loop (mk .ready none));rwa[World.size_alloc] at this
 have Ld:W1.heap[w.heap.size]? = some (.deferred (some [])):=by
  rw[←H7];exact(Below.heap_alloc _ _ _ qD).trans (World.alloc_heap_new w _)
 have Le:I W1:=hI _ _ h0 (al.of_keeps La _)
 -- a write of the loop's record
 have x7:∀ (A:World) (o:Obj),al A (A.putObj (w.heap.size+1) o) (fun k=>k=w.heap.size+1):=fun A o=>(al.grown (grownBy_putObj' A (w.heap.size+1) o)).mono (fun k e=>by simpa using e)
 have h9:∀ {A:World} (o:Obj),I A→I (A.putObj (w.heap.size+1) o):=fun o h=>hI _ _ h ((x7 _ o).mono (fun k e=>by omega))
 have x8:∀ {A:World} (o:Obj),Ix A→Ix (A.putObj (w.heap.size+1) o):=fun o h=>KZ _ _ h ((x7 _ o).mono (fun k e=>by omega))
 refine⟨w.heap.size+1,[{ target:=.collected w.heap.size,args:=#[] }],W1,{ target:=.fn (.func gf) lb,args:=#[.func (.yield (w.heap.size+1)) #[] #[]] },W1,gf,
  #[.func (.yield (w.heap.size+1)) #[] #[]]++lb,W1,?_,?_,fun _ _=>trivial,?_,(fun h=>by simp[Fence.wide] at h),?_⟩
 ·rw[←H7,eE];exact run_enterLoop_outer _ _ _ _ _
 ·simp only[resolve,hg]
  simp[go_sem]
 ·simp[invoke,go_sem,eg]
 ·refine(KV (fun W=>I W∧W.heap[w.heap.size+1]? = some (.loop (mk .ready none))∧W.heap[w.heap.size]? = some (.deferred (some [])))
   (fun W=>Ix W∧W.heap[w.heap.size+1]? = some (.loop (mk .done (some .ret)))∧W.heap[w.heap.size]? = some (.deferred (some []))) W1 Lo La ?_ ?_ ?_ ⟨Le,Lf,Ld⟩).mono ?_
  ·rintro A B ⟨h1,h2,h3⟩ k
   refine⟨hI A B h1 (k.mono (fun i hi=>by omega)),?_,?_⟩
   ·rw[k.block _ (Array.getElem?_eq_some_iff.1 h2).1 qB];exact h2
   ·rw[k.block _ (Array.getElem?_eq_some_iff.1 h3).1 qB];exact h3
  ·rintro A B ⟨h1,h2,h3⟩ k
   refine⟨KZ A B h1 (k.mono (fun i hi=>by omega)),?_,?_⟩
   ·rw[k.block _ (Array.getElem?_eq_some_iff.1 h2).1 qB];exact h2
   ·rw[k.block _ (Array.getElem?_eq_some_iff.1 h3).1 qB];exact h3
  ·rintro x W ⟨hi,hl,hd⟩ Ln
   have Lk:w.heap.size+1<W.heap.size:=(Array.getElem?_eq_some_iff.1 hl).1;have hy:=run_yield (P:=P) (args:=#[arg x]) hl (by rw[eE,Ll];rfl);rw[eE] at hy;refine⟨fn,_,assign,body,hy,roundIn_of_wpIn Li (x6 _ x W _ ⟨_,run_beginRound hl (by rw[eE]),?_⟩)⟩
   obtain⟨W2,x9⟩:∃ W2,W.putObj (w.heap.size+1) (.loop { mk .ready none with state:=.busy })=W2:=⟨_,rfl⟩
   have Lb:W2.heap[w.heap.size+1]? = some (.loop { mk .ready none with state:=.busy }):=by rw[←x9];exact World.putObj_heap_same Lk
   have K0:W2.heap[w.heap.size]? = some (.deferred (some [])):=by rw[←x9];exact(World.putObj_heap_other qB).trans hd
   have Lj:I W2:=by rw[←x9];exact h9 _ hi
   have Lp:al W W2 (fun k=>k=w.heap.size+1):=by rw[←x9];exact x7 _ _
   have Lm:Rd x W2:=by rw[←x9];exact Lg x _ _ _ Ln (grownBy_putObj' W (w.heap.size+1) _) ⟨_,hl,rfl⟩
   rw[eE] at x9 ⊢;rw[x9];refine wpIn_mono (H8 _ x W2 Lj Lm) ?_;rintro e a3 W3 hp
   have fin:∀ (jump:Option Code),al W2 W3 S→(Instr.endRound (w.heap.size+1) jump).run P W3=.ok (.bool jump.isNone) (W3.putObj (w.heap.size+1) (.loop (mk (if jump.isNone then .ready else .done) jump)))∧
     (W3.putObj (w.heap.size+1) (.loop (mk (if jump.isNone then .ready else .done) jump))).heap[w.heap.size+1]? = some (.loop (mk (if jump.isNone then .ready else .done) jump))∧
     (W3.putObj (w.heap.size+1) (.loop (mk (if jump.isNone then .ready else .done) jump))).heap[w.heap.size]? = some (.deferred (some []))∧
     al W (W3.putObj (w.heap.size+1) (.loop (mk (if jump.isNone then .ready else .done) jump))) (fun k=>S k∨k=w.heap.size+1):=fun jump ht=>by
    have Lc:W3.heap[w.heap.size+1]? = some (.loop { mk .ready none with state:=.busy }):=by
     rw[ht.block _ (Array.getElem?_eq_some_iff.1 Lb).1 (fun e=>by have:=hS _ e;omega)];exact Lb
    have Lh:W3.heap[w.heap.size]? = some (.deferred (some [])):=by
     rw[ht.block _ (Array.getElem?_eq_some_iff.1 K0).1 (fun e=>by have:=hS _ e;omega)];exact K0
    have hr:=run_endRound (P:=P) jump Lc;rw[eE] at hr ⊢
    exact⟨hr,World.putObj_heap_same (Array.getElem?_eq_some_iff.1 Lc).1,(World.putObj_heap_other qB).trans Lh,
     ((Lp.mono (fun k e=>.inr e)).trans (ht.mono (fun k e=>.inl e))).trans ((x7 W3 _).mono (fun k e=>.inr e))⟩
   cases e with
   | normal=>
    obtain⟨KP,KT,ht⟩:=hp;obtain⟨hr,KU,KS,KY⟩:=fin none ht;exact⟨_,_,hr,by rw[KP];rfl,by rw[KP,←eE];exact⟨h9 _ KT,KU,KS⟩,KY⟩
   | ret=>
    obtain⟨KP,KT,ht⟩:=hp;obtain⟨hr,KU,KS,KY⟩:=fin (some .ret) ht;exact⟨_,_,hr,by rw[KP];rfl,by rw[KP,←eE];exact⟨x8 _ KT,KU,KS⟩,KY⟩
   | exit id=>exact hp.elim
   | goto t=>exact hp.elim
   | panic ch=>exact hp.elim
   | outgrown=>exact hp.elim
  ·rintro e W2 ⟨⟨v,rfl⟩,h⟩
   cases hres:res
   ·rw[hres] at h
    obtain⟨hi,hl,hd⟩:=h;exact⟨some .ret,_,by have:=run_endLoop (P:=P) hl (by rw[eE];simp);rw[eE] at this;exact this,KR _ hres (x8 _ hi) ((World.putObj_heap_other qB).trans hd)⟩
   ·rw[hres] at h
    obtain⟨hi,hl,hd⟩:=h;exact⟨none,_,by have:=run_endLoop (P:=P) hl (by rw[eE];simp);rw[eE] at this;exact this,H9 _ hres (h9 _ hi) ((World.putObj_heap_other qB).trans hd)⟩
end
end Go.Proofs.YtagoboblkadelaaGreat
