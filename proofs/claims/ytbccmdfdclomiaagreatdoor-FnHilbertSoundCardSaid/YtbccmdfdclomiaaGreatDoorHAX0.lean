import Derived.Test.YtbccmdfdclomiaaGreatDoorHSB
/- own -/
namespace Go.Proofs.YtbccmdfdclomiaaGreatDoor
open Go.RowKit
theorem sub_sbF (τ:List Fm):∀ t:Fm,t.wf→τ.length=6→sub (τ.map Fm.enc) t.enc=(sbF (fun v=>τ.getD v .fls) t).enc:=by
 intro t
 induction t with
 | var v=>
  intro h h6;have hv:v<6:=h;simp only [Fm.enc,sub,List.append_nil,sbF];unfold subN;rw [if_pos rfl];simp only [Int.toNat_natCast,List.getD_eq_getElem?_getD,List.getElem?_map];rw [List.getElem?_eq_getElem (by omega)];rfl
 | fls=>intro _ _;rfl
 | and a b iha ihb=>intro h h6;simp only [Fm.enc,sub,sub_append,sbF,iha h.1 h6,ihb h.2 h6];rfl
 | or a b iha ihb=>intro h h6;simp only [Fm.enc,sub,sub_append,sbF,iha h.1 h6,ihb h.2 h6];rfl
 | imp a b iha ihb=>intro h h6;simp only [Fm.enc,sub,sub_append,sbF,iha h.1 h6,ihb h.2 h6];rfl
 | box a iha=>intro h h6;simp only [Fm.enc,sub,sbF,iha h h6];rfl
 | dia a iha=>intro h h6;simp only [Fm.enc,sub,sbF,iha h h6];rfl
theorem idL_map:idL 6=((List.range 6).map Fm.var).map Fm.enc:=by simp [idL]
def schX (L:Nat):List Int:=if L≤9 then schS L else []
theorem schX_len (L:Nat):(schX L).length≤20:=by
 unfold schX
 split
 ·have h:=lastS_le L
  have h2:=moreS_len L;unfold schS
  simp
  omega
 ·simp
theorem schX_get (L r:Nat) (h:r<(schX L).length):∃ k:Nat,(schX L)[r]=(k:Int)∧k<19:=by
 have hm:=List.getElem_mem h;unfold schX at hm h ⊢
 split at hm
 ·rename_i hL
  simp only [hL,if_true] at h ⊢;obtain ⟨k,e,hk⟩:=schS_lt (L:=L) (List.contains_iff_mem.2 hm);exact ⟨k,e,hk⟩
 ·cases hm
theorem OwnL.touchA {w w':World} {S:Nat→Prop} {B:Nat} {v:Value} {xs:List (List Nd)} (h:OwnL w B v xs) (k:Touch w w' S) (hS:∀ i,B≤i→¬S i):OwnL w' B v xs:=by
 obtain ⟨vs,ho,hr,ha,hf⟩:=h;exact ⟨vs,own_touch ho k (fun i e=>hS i (World.ownsRow.lt ho i e).1),hr.touch k (fun i e=>hS i (hr.lt e).1),ha,hf⟩
theorem OwnL.drA {w w':World} {B b:Nat} {v:Value} {xs:List (List Nd)} (h:OwnL w b v xs) (k:Dr B w w') (hB:B<b):OwnL w' b v xs:=h.touchA k.1 (fun i hi=>by omega)
theorem OwnL.storeA {w0 w:World} {B B0:Nat} {v u:Value} {xs:List (List Nd)} {x:List Nd} (h:OwnL w0 B v xs) (k:Touch w0 w (fun i=>i=B0)) (hB0:B0<B) (hu:OwnN w w0.heap.size u x) (hB:B≤w0.heap.size) (i:Nat) (hi:i<xs.length):
  ∃ g cap c,v=.slice (some ⟨g,0,none⟩) xs.length cap∧B≤g∧g<w0.heap.size∧w.cell? ⟨g,i,none⟩=some c∧w.frozen? ⟨g,i,none⟩=false∧OwnL (w.setCell ⟨g,i,none⟩ u) B v (xs.set i x)∧w.grownBy (w.setCell ⟨g,i,none⟩ u) (some g):=by
 obtain ⟨vs,ho0,hr0,ha,_⟩:=h;have hl:=hr0.1
 obtain ⟨g,cap,e,hBg,hgl⟩:∃ g cap,v=.slice (some ⟨g,0,none⟩) xs.length cap∧B≤g∧g<w0.heap.size:=by
  rcases ho0.2 with ⟨_,h0⟩ | ⟨g,cap,cur,e,hb,hg,_⟩
  ·omega
  ·exact ⟨g,cap,e,hb,(Array.getElem?_eq_some_iff.1 hg).1⟩
 have ho:=own_touch ho0 k (fun i e h=>by have:=(World.ownsRow.lt ho0 i e).1;omega);have hr:=hr0.touch k (fun i hi e=>by have:=(hr0.lt hi).1;omega);subst e;have hst:=ho.stored i u;have hoff:=off_rows ho hr;have hlu:=hu.len;refine ⟨g,cap,vs[i]'(by omega),rfl,hBg,hgl,?_,ho.frozenAt i,?_,hst.2⟩
 ·rw [ho.cellAt i (by omega)];simp [show i<vs.length by omega]
 have hr':RowsN (w.setCell ⟨g,i,none⟩ u) B vs xs:=hr.touch (Touch.grown hst.2) (fun j hb e=>hoff.not_blk (k:=j) (by cases e;rfl) hb);have hu':OwnN (w.setCell ⟨g,i,none⟩ u) B u x:=(hu.touch (Touch.grown hst.2) (fun j hj e=>type_ne ho hu tyne (k:=j) (by cases e;rfl) hj)).mono hB
 have hrows:RowsN (w.setCell ⟨g,i,none⟩ u) B (vs.set i u) (xs.set i x):=⟨by simp [hl],fun j h1 h2=>by
  by_cases e:i=j
  ·subst e;simpa using hu'
  ·rw [List.getElem_set_ne e,List.getElem_set_ne e]
   exact hr'.2 j (by simpa using h1) (by simpa using h2)⟩
 refine ⟨vs.set i u,by rw [List.length_set];exact hst.1,hrows,?_,off_rows hst.1 hrows⟩;intro j l hj hl' hne q hq
 simp at hj hl'
 by_cases e1:i=j
 ·subst e1
  rw [List.getElem_set_ne hne];simp only [List.getElem_set_self] at hq;intro e;have:=(hlu q hq).1;have:=(hr0.lt ⟨l,hl',e⟩).2;omega
 ·rw [List.getElem_set_ne e1] at hq
  by_cases e2:i=l
  ·subst e2
   simp only [List.getElem_set_self];intro e;have:=(hlu q e).1;have:=(hr0.lt ⟨j,hj,hq⟩).2;omega
  ·rw [List.getElem_set_ne e2]
   exact ha j l hj hl' hne q hq
theorem OwnL.snocA {w0 w w':World} {B B0:Nat} {v v' u:Value} {xs:List (List Nd)} {x:List Nd} {vs:List Value} (hr:RowsN w0 B vs xs) (ha:Apart vs) (ho:w.ownsRow B 34 1 v xs.length vs) (k:Touch w0 w (fun i=>i=B0)) (hB0:B0<B) (hu:OwnN w w0.heap.size u x) (hB:B≤w0.heap.size)
  (ho':w'.ownsRow B 34 1 v' (xs.length+1) (vs++[u])) (hg:w.grownBy w' v.ownBlock):OwnL w' B v' (xs++[x]):=by
 have hrw:=hr.touch k (fun i hi e=>by have:=(hr.lt hi).1;omega);have hoff:=off_rows ho hrw;have hr':RowsN w' B vs xs:=hrw.touch (Touch.grown hg) (fun i hb e=>hoff.not_blk e.symm hb);have hu':OwnN w' B u x:=(hu.touch (Touch.grown hg) (fun i hi e=>type_ne ho hu tyne e.symm hi)).mono hB;have hrows:=RowsN.snoc hu' hr';refine ⟨vs++[u],by simpa using ho',hrows,Apart.snoc (fun i hi hb=>?_) ha,off_rows ho' hrows⟩;have:=(hu.len i hi).1;have:=(hr.lt hb).2;omega
theorem appLA {w:World} {ops:Array Oper} {rest:List Oper} {o:Oper} {a:Act} {Q:Exit→Act→World→Prop} (hgd:o.guard=none) (s x:Operand)
  (ho:o.op=.call { callee:=.builtin .append,args:=#[s,x],argTypes:=#[24,24] }) (base:Nat) (v:Value) (xs:List (List Nd)) (hs:a.eval s=v)
  (w0:World) (B0:Nat) (hown:OwnL w0 base v xs) (k:Touch w0 w (fun i=>i=B0)) (hB0:B0<base) (u:Value) (y:List Nd) (hu:OwnN w w0.heap.size u y) (hbase:base≤w0.heap.size)
  (p:Option Addr) (c:Nat) (hx:a.eval x=.slice p 1 c) (hat:At w p [u]) (hlen:xs.length≤2147483648)
  (h:∀ v' w',OwnL w' base v' (xs++[y])→w.grownBy w' v.ownBlock→(∀ k,v.ownBlock=some k→base≤k)→wpList Tryz.prog ops Q rest (a.put o.dst v') w'):wpList Tryz.prog ops Q (o::rest) a w:=
 wpList_plain hgd fun _ hK=>by
  obtain ⟨i0,hi,hz0,hz1,hz2⟩:=info_parts infoL;obtain ⟨vs,hrow,hr,ha,hf⟩:=hown
  have hone:∀ z∈[u],z.oneCell'=true:=by
   intro z hz
   simp at hz;subst hz
   obtain ⟨p,c,e,_⟩:=At.of_own hu;rw [e];rfl
  have hrow':=own_touch hrow k (fun i e h=>by have:=(World.ownsRow.lt hrow i e).1;omega);refine wp_append_at s x _ ho _ i0 _ 1 24 Tryz.underlying24 hi hz0 hz1 hz2 rfl (by decide) base v _ _ hs hrow' p 1 c [u] hx (by simp) hat hone (by unfold maxLen;omega) (by omega) (by have:=k.size;omega) ?_;intro v' w' h1 h2 h3;exact hK _ _ (h v' w' (OwnL.snocA hr ha hrow' k hB0 hu hbase h1 h2) h2 h3)
theorem At.lit2x (w:World) (u v:Value) (T:TypeId):At (w.alloc (.cells #[u,v] T)) (some ⟨w.heap.size,0,none⟩) [u,v]:=fun j hj=>by
 match j,hj with
 | 0,_=>exact ⟨_,_,rfl,by simp⟩
 | 1,_=>exact ⟨_,_,rfl,by simp⟩
theorem At.lit1x (w:World) (u:Value) (T:TypeId):At (w.alloc (.cells #[u] T)) (some ⟨w.heap.size,0,none⟩) [u]:=fun j hj=>by
 match j,hj with
 | 0,_=>exact ⟨_,_,rfl,by simp⟩
theorem OwnL.lenA {w:World} {B:Nat} {v:Value} {xs:List (List Nd)} (h:OwnL w B v xs):∃ p c,v=.slice p xs.length c∧xs.length≤c∧c≤maxLen:=by
 obtain ⟨vs,ho,_⟩:=h;obtain ⟨p,c,e,h1,h2,_⟩:=At.of_own ho;exact ⟨p,c,e,h1,h2⟩
theorem OwnN.lnt {w w':World} {B b:Nat} {v:Value} {a:List Nd} (h:OwnN w B v a) (k:LnTouch b w w'):OwnN w' B v a:=h.touch k (fun i hi e=>absurd ((TyAt.ownB h hi).inj e.2) (by decide))
theorem OwnI.lnt {w w':World} {B b:Nat} {v:Value} {a:List Int} (h:OwnI w B v a) (k:LnTouch b w w'):OwnI w' B v a:=own_touch h k (fun i hi e=>absurd ((TyAt.ownB h hi).inj e.2) (by decide))
theorem OwnL.lnt {w w':World} {B b:Nat} {v:Value} {xs:List (List Nd)} (h:OwnL w B v xs) (k:LnTouch b w w'):OwnL w' B v xs:=by
 obtain ⟨vs,ho,hr,ha,hf⟩:=h;refine ⟨vs,own_touch ho k (fun i hi e=>absurd ((TyAt.ownB ho hi).inj e.2) (by decide)),hr.touch k (fun i hb e=>?_),ha,hf⟩;obtain ⟨j,hj,e2⟩:=hb;exact absurd ((TyAt.ownB (hr.2 j hj (by have:=hr.1;omega)) e2).inj e.2) (by decide)
def SmLn (x:Ln):Prop:=∃ t:Fm,x.a=t.enc∧t.enc.length≤200
structure DJ (B b0:Nat) (w W:World) (sv av hv lv:Value) (L:Nat) (ta:Fm) (G:List Fm) (ls:List Ln):Prop where
 t:DrL B b0 w W
 sc:OwnI W b0 sv (schX L)
 a:OwnN W b0 av ta.enc
 hy:OwnL W b0 hv (G.map Fm.enc)
 ln:LnO W b0 lv ls
theorem DJ.keeps {B b0:Nat} {w W W':World} {sv av hv lv:Value} {L:Nat} {ta:Fm} {G:List Fm} {ls:List Ln} (h:DJ B b0 w W sv av hv lv L ta G ls) (k:Keeps W W'):DJ B b0 w W' sv av hv lv L ta G ls:=
 ⟨h.t.keeps k,h.sc.keeps k,h.a.keeps k,h.hy.keeps k,h.ln.keeps k⟩
theorem DJ.dr {B b0:Nat} {w W W':World} {sv av hv lv:Value} {L:Nat} {ta:Fm} {G:List Fm} {ls:List Ln} (h:DJ B b0 w W sv av hv lv L ta G ls) (k:Dr B W W') (hB:B<b0):DJ B b0 w W' sv av hv lv L ta G ls:=
 ⟨h.t.dr k,h.sc.dr k hB,h.a.dr k hB,h.hy.drA k hB,h.ln.dr k hB⟩
theorem DJ.put {B b0:Nat} {w W W1 W':World} {sv av hv lv lv':Value} {L:Nat} {ta:Fm} {G:List Fm} {ls ls':List Ln} (h:DJ B b0 w W sv av hv lv L ta G ls) (k1:Keeps W W1) (k:LnTouch b0 W1 W') (hB:B<b0) (hl:LnO W' b0 lv' ls'):DJ B b0 w W' sv av hv lv' L ta G ls':=
 have h:=h.keeps k1
 ⟨h.t.touch k (fun _i e=>e.1) hB,h.sc.lnt k,h.a.lnt k,h.hy.lnt k,hl⟩
def HyTouch (b:Nat) (w w':World):Prop:=Touch w w' (fun i=>b≤i∧TyAt w i 34)
theorem OwnL.hyT {w w':World} {b:Nat} {v:Value} {xs:List (List Nd)} (h:OwnL w b v xs) (g:w.grownBy w' v.ownBlock):HyTouch b w w':=by
 obtain ⟨vs,ho,_⟩:=h;exact (Touch.grown g).mono (fun i e=>⟨(ho.lt i e.symm).1,TyAt.ownB ho e.symm⟩)
theorem OwnN.hy {w w':World} {B b:Nat} {v:Value} {a:List Nd} (h:OwnN w B v a) (k:HyTouch b w w'):OwnN w' B v a:=h.touch k (fun i hi e=>absurd ((TyAt.ownB h hi).inj e.2) (by decide))
theorem OwnI.hy {w w':World} {B b:Nat} {v:Value} {a:List Int} (h:OwnI w B v a) (k:HyTouch b w w'):OwnI w' B v a:=own_touch h k (fun i hi e=>absurd ((TyAt.ownB h hi).inj e.2) (by decide))
theorem LnO.hy {w w':World} {B b:Nat} {v:Value} {xs:List Ln} (h:LnO w B v xs) (k:HyTouch b w w'):LnO w' B v xs:=by
 obtain ⟨cs,h1,h2⟩:=h;refine ⟨cs,own_touch h1 k (fun i hi e=>absurd ((TyAt.ownB h1 hi).inj e.2) (by decide)),fun i hi=>?_⟩;obtain ⟨u,a0,a1,a2,a3,b⟩:=h2 i hi;exact ⟨u,a0,a1,a2,a3,b.hy k⟩
theorem DJ.hyp {B b0:Nat} {w W W':World} {sv av hv hv' lv:Value} {L:Nat} {ta:Fm} {G G':List Fm} {ls:List Ln} (h:DJ B b0 w W sv av hv lv L ta G ls) (k:HyTouch b0 W W') (hB:B<b0) (hl:OwnL W' b0 hv' (G'.map Fm.enc)):DJ B b0 w W' sv av hv' lv L ta G' ls:=
 ⟨h.t.touch k (fun _i e=>e.1) hB,h.sc.hy k,h.a.hy k,hl,h.ln.hy k⟩
theorem WfL.snoc {n:Nat} {ls:List Ln} {x:Ln} (h:WfL n ls) (c3:x.r=3→(0≤x.f∧x.f<ls.length)∧(0≤x.s∧x.s<ls.length)) (c4:x.r=4→0≤x.f∧x.f<ls.length) (c2:x.r=2→0≤x.f∧x.f<n):WfL n (ls++[x]):=by
 intro i hi
 by_cases e:i<ls.length
 ·rw [List.getElem_append_left e]
  exact h i e
 ·have e2:i=ls.length:=by simp at hi;omega
  subst e2;rw [List.getElem_append_right (Nat.le_refl _)];simp only [Nat.sub_self,List.getElem_cons_zero];exact ⟨c3,c4,c2⟩
def RdI (B b0:Nat) (w:World) (sv av hv:Value) (L:Nat) (ta:Fm) (G:List Fm) (k:Nat) (lv:Value) (W:World):Prop:=
 ∃ ls,DJ B b0 w W sv av hv lv L ta G ls∧ls.length+2*k≤16∧(∀ x∈ls,SmLn x)∧WfL G.length ls
theorem sm_snoc {ls:List Ln} {x:Ln} (h:∀ x∈ls,SmLn x) (hx:SmLn x):∀ y∈ls++[x],SmLn y:=fun y hy=>by
 rcases List.mem_append.1 hy with hy | hy
 ·exact h y hy
 ·rw [List.mem_singleton.1 hy]
  exact hx
theorem RdI.put {B b0:Nat} {w W:World} {sv av hv lv:Value} {L:Nat} {ta:Fm} {G:List Fm} {ls:List Ln} {x:Ln} {k:Nat} (h:DJ B b0 w W sv av hv lv L ta G (ls++[x])) (hk:ls.length+2*k≤16) (hk0:0<k) (hsm:∀ x∈ls,SmLn x) (hwf:WfL G.length ls) (hx:SmLn x)
  (c3:x.r=3→(0≤x.f∧x.f<ls.length)∧(0≤x.s∧x.s<ls.length)) (c4:x.r=4→0≤x.f∧x.f<ls.length) (c2:x.r=2→0≤x.f∧x.f<G.length):RdI B b0 w sv av hv L ta G (k-1) lv W:=
 ⟨_,h,by simp;omega,sm_snoc hsm hx,hwf.snoc c3 c4 c2⟩
theorem RdI.same {B b0:Nat} {w W:World} {sv av hv lv:Value} {L:Nat} {ta:Fm} {G:List Fm} {ls:List Ln} {k:Nat} (h:DJ B b0 w W sv av hv lv L ta G ls) (hk:ls.length+2*k≤16) (hsm:∀ x∈ls,SmLn x) (hwf:WfL G.length ls):RdI B b0 w sv av hv L ta G (k-1) lv W:=
 ⟨ls,h,by omega,hsm,hwf⟩
def DtI (B b0:Nat) (w:World) (sv av hv:Value) (L:Nat) (ta:Fm) (G:List Fm) (ls:List Ln) (i:Nat) (lv:Value) (W:World):Prop:=
 ∃ ls',i≤ls'.length∧DJ B b0 w W sv av hv lv L ta G ls'∧(ls'=ls∨∃ x,ls'=ls++[x]∧SmLn x∧x.r=3∧(0≤x.f∧x.f<ls.length)∧(0≤x.s∧x.s<ls.length))
theorem dt_len {ls ls':List Ln} {p:Ln→Prop} (h:ls'=ls∨∃ x,ls'=ls++[x]∧p x):ls'.length=ls.length∨ls'.length=ls.length+1:=by
 rcases h with rfl | ⟨x,rfl,_⟩
 ·exact .inl rfl
 ·exact .inr (by simp)
theorem dt_sm {ls ls':List Ln} {p:Ln→Prop} (h:ls'=ls∨∃ x,ls'=ls++[x]∧SmLn x∧p x) (hs:∀ x∈ls,SmLn x):∀ x∈ls',SmLn x:=by
 rcases h with rfl | ⟨x,rfl,hx,_⟩
 ·exact hs
 ·exact sm_snoc hs hx
theorem DtI.rd {B b0:Nat} {w W:World} {sv av hv lv:Value} {L:Nat} {ta:Fm} {G:List Fm} {ls ls':List Ln} {k:Nat} (h:DJ B b0 w W sv av hv lv L ta G ls') (hc:ls'=ls∨∃ x,ls'=ls++[x]∧SmLn x∧x.r=3∧(0≤x.f∧x.f<ls.length)∧(0≤x.s∧x.s<ls.length)) (hk:ls.length+2*k≤16) (hk0:0<k) (hsm:∀ x∈ls,SmLn x) (hwf:WfL G.length ls):RdI B b0 w sv av hv L ta G (k-1) lv W:=by
 rcases hc with rfl | ⟨x,rfl,hx,h3,hf,hs⟩
 ·exact RdI.same h hk hsm hwf
 ·exact RdI.put h hk hk0 hsm hwf hx (fun _=>⟨hf,hs⟩) (fun e=>by omega) (fun e=>by omega)
theorem enc_imp {t:Fm} {x:Nd} {r:List Nd} (e:t.enc=x::r) (h:x.k=4):∃ a b,t=.imp a b:=by
 cases t<;>simp only [Fm.enc,List.cons.injEq] at e<;>obtain ⟨rfl,_⟩:=e<;>first | exact ⟨_,_,rfl⟩ | (exfalso;simp at h)
theorem LnO.cellSet {w:World} {B g cap i c:Nat} {xs:List Ln} (h:LnO w B (.slice (some ⟨g,0,none⟩) xs.length cap) xs) (hi:i<xs.length) (hc:c<4) (u:Value) (y:Ln)
  (hy:∀ cs,LnIn w B cs i xs[i]→cs.length=xs.length*4→LnIn w B (cs.set (i*4+c) u) i y):LnO (w.setCell ⟨g,i*4+c,none⟩ u) B (.slice (some ⟨g,0,none⟩) xs.length cap) (xs.set i y)∧LnTouch B w (w.setCell ⟨g,i*4+c,none⟩ u):=by
 obtain ⟨cs,h1,h2⟩:=h;have hs:=World.ownsRow.stored h1 (i*4+c) u;have T:=Touch.grown hs.2;have hty:TyAt w g 72:=TyAt.ownB h1 rfl
 have hne:∀ j,some j=some g→TyAt w j 72:=fun j e=>by cases e;exact hty
 have h5:cs.length=xs.length*4:=h1.1;have hgB:B≤g:=(h1.lt g rfl).1;have T2:LnTouch B w (w.setCell ⟨g,i*4+c,none⟩ u):=T.mono (fun j e=>⟨by cases e;exact hgB,hne j e⟩)
 have mv:∀ {ds:List Value} {j:Nat} {x:Ln},LnIn w B ds j x→LnIn (w.setCell ⟨g,i*4+c,none⟩ u) B ds j x:=fun hh=>by
  obtain ⟨p,a0,a1,a2,a3,b1⟩:=hh;exact ⟨p,a0,a1,a2,a3,b1.lnt T2⟩
 refine ⟨⟨cs.set (i*4+c) u,by rw [List.length_set];exact hs.1,fun j hj=>?_⟩,T2⟩
 have hj':j<xs.length:=by rwa [List.length_set] at hj
 by_cases e:j=i
 ·subst e
  rw [List.getElem_set_self];exact mv (hy cs (h2 j hj') h5)
 ·rw [List.getElem_set_ne (fun e2=>e e2.symm)]
  obtain ⟨p,a0,a1,a2,a3,b⟩:=h2 j hj';refine mv ⟨p,?_,?_,?_,?_,b⟩
  all_goals rw [List.getElem?_set_ne (by omega)]
  all_goals assumption
theorem LnIn.cr {w:World} {B:Nat} {cs:List Value} {i n:Nat} {x:Ln} (h:LnIn w B cs i x) (hl:cs.length=n*4) (hi:i<n) (r:Int):LnIn w B (cs.set (i*4+0) (.int .i64 r)) i { x with r:=r }:=by
 obtain ⟨p,a0,a1,a2,a3,b⟩:=h;refine ⟨p,?_,?_,?_,?_,b⟩
 ·rw [Nat.add_zero,List.getElem?_set_self (by omega)]
 all_goals rw [List.getElem?_set_ne (by omega)]
 all_goals assumption
theorem LnIn.cf {w:World} {B:Nat} {cs:List Value} {i n:Nat} {x:Ln} (h:LnIn w B cs i x) (hl:cs.length=n*4) (hi:i<n) (r:Int):LnIn w B (cs.set (i*4+1) (.int .i64 r)) i { x with f:=r }:=by
 obtain ⟨p,a0,a1,a2,a3,b⟩:=h;refine ⟨p,?_,?_,?_,?_,b⟩
 rotate_left
 ·rw [List.getElem?_set_self (by omega)]
 all_goals rw [List.getElem?_set_ne (by omega)]
 all_goals assumption
theorem LnIn.csx {w:World} {B:Nat} {cs:List Value} {i n:Nat} {x:Ln} (h:LnIn w B cs i x) (hl:cs.length=n*4) (hi:i<n) (r:Int):LnIn w B (cs.set (i*4+2) (.int .i64 r)) i { x with s:=r }:=by
 obtain ⟨p,a0,a1,a2,a3,b⟩:=h;refine ⟨p,?_,?_,?_,?_,b⟩
 rotate_left 2
 ·rw [List.getElem?_set_self (by omega)]
 all_goals rw [List.getElem?_set_ne (by omega)]
 all_goals assumption
theorem LnIn.ca {w:World} {B:Nat} {cs:List Value} {i n:Nat} {x:Ln} (h:LnIn w B cs i x) (hl:cs.length=n*4) (hi:i<n) (u:Value) (a:List Nd) (hu:OwnN w B u a):LnIn w B (cs.set (i*4+3) u) i { x with a:=a }:=by
 obtain ⟨p,a0,a1,a2,a3,b⟩:=h;refine ⟨u,?_,?_,?_,?_,hu⟩
 rotate_left 3
 ·rw [List.getElem?_set_self (by omega)]
 all_goals rw [List.getElem?_set_ne (by omega)]
 all_goals assumption
theorem LnO.thaw {w:World} {B g n cap:Nat} {xs:List Ln} (h:LnO w B (.slice (some ⟨g,0,none⟩) n cap) xs) (j:Nat):w.frozen? ⟨g,j,none⟩=false:=by
 obtain ⟨cs,h1,h2⟩:=h;obtain ⟨p,c,e,_⟩:=At.of_own h1
 cases e
 exact h1.frozenAt j
theorem appL2 {w:World} {ops:Array Oper} {rest:List Oper} {o:Oper} {a:Act} {Q:Exit→Act→World→Prop} (hgd:o.guard=none) (s x:Operand)
  (ho:o.op=.call { callee:=.builtin .append,args:=#[s,x],argTypes:=#[24,24] }) (base:Nat) (v:Value) (hs:a.eval s=v)
  (hown:OwnL w base v []) (u1 u2:Value) (y1 y2:List Nd) (h1:OwnN w base u1 y1) (h2:OwnN w base u2 y2) (hne:∀ k,u1.ownBlock=some k→u2.ownBlock≠some k) (hbase:base≤w.heap.size)
  (p:Option Addr) (c:Nat) (hx:a.eval x=.slice p 2 c) (hat:At w p [u1,u2])
  (h:∀ v' w',OwnL w' base v' [y1,y2]→w.grownBy w' v.ownBlock→(∀ k,v.ownBlock=some k→base≤k)→wpList Tryz.prog ops Q rest (a.put o.dst v') w'):wpList Tryz.prog ops Q (o::rest) a w:=
 wpList_plain hgd fun _ hK=>by
  obtain ⟨i0,hi,hz0,hz1,hz2⟩:=info_parts infoL;obtain ⟨vs,hrow,hr,ha,hf⟩:=hown;have hvs:vs=[]:=List.eq_nil_of_length_eq_zero (by have:=hr.1;simpa using this);subst hvs
  have hone:∀ z∈[u1,u2],z.oneCell'=true:=by
   intro z hz
   simp at hz
   rcases hz with rfl | rfl
   ·obtain ⟨p,c,e,_⟩:=At.of_own h1
    rw [e];rfl
   ·obtain ⟨p,c,e,_⟩:=At.of_own h2
    rw [e];rfl
  refine wp_append_at s x _ ho _ i0 _ 1 24 Tryz.underlying24 hi hz0 hz1 hz2 rfl (by decide) base v _ _ hs hrow p 2 c [u1,u2] hx (by simp) hat hone (by unfold maxLen;simp) (by simp) hbase ?_;intro v' w' g1 g2 g3;have g1':w'.ownsRow base 34 1 v' 2 [u1,u2]:=g1;have e1:OwnN w' base u1 y1:=h1.touch (Touch.grown g2) (fun i hi e=>type_ne hrow h1 tyne e.symm hi);have e2:OwnN w' base u2 y2:=h2.touch (Touch.grown g2) (fun i hi e=>type_ne hrow h2 tyne e.symm hi);have hrows:RowsN w' base [u1,u2] [y1,y2]:=RowsN.cons e1 (RowsN.cons e2 (RowsN.nil _ _));refine hK _ _ (h v' w' ⟨[u1,u2],g1',hrows,Apart.cons (fun i hi k hk e=>?_) (Apart.cons (Off.nil _) Apart.nil),off_rows g1' hrows⟩ g2 g3)
  obtain rfl:i=0:=by simp at hi;omega
  exact hne k hk e
end Go.Proofs.YtbccmdfdclomiaaGreatDoor
