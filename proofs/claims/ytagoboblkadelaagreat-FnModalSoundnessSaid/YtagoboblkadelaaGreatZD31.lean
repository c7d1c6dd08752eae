import Derived.Test.YtagoboblkadelaaGreatZTF
import Derived.Test.YtagoboblkadelaaGreatZNQ
import Derived.Test.YtagoboblkadelaaGreatZD30
/- own -/
namespace Go.Proofs.YtagoboblkadelaaGreat
set_option maxHeartbeats 1000000
section
open Go.RowKit
def mj (E A B:List Fm) (m:Nat):Bool:=A.all (bV E m)&&!B.any (bV E m)
noncomputable def DF (L:Nat) (E:List Fm) (N:Nat) (A B:List Fm):Int:=idxOf (fun t=>dM L E N t&&mj E A B t) (List.range N) 0
noncomputable def CV (L:Nat) (E:List Fm) (N:Nat) (A B:List Fm):Bool:=decide (DF L E N A B<0)
theorem uz (p q:Nat→Bool) (N:Nat) (h:∀ t,t<N→p t=q t):∀ k,k≤N→idxOf p ((List.range N).drop k) k=idxOf q ((List.range N).drop k) k:=by
 intro k hk
 by_cases eE:k<N
 ·rw[iV p N k eE,iV q N k eE,h k eE,uz p q N h (k+1) qB]
 ·obtain rfl:k=N:=qB
  rw[lE,lE]
 termination_by k=>N-k
theorem DL (p q:Nat→Bool) (N:Nat) (h:∀ t,t<N→p t=q t):idxOf p (List.range N) 0=idxOf q (List.range N) 0:=uz p q N h 0 qB
theorem sS (p:Nat→Bool) (k:Nat):(List.range (k+1)).filter p=(List.range k).filter p++(if p k then [k] else []):=by
 rw[List.range_succ,List.filter_append,List.filter_cons]
 simp
theorem Dg {L:Nat} {E:List Fm} {m:Nat} (h:jW L E m=true) (hL:L=2∨L=4∨L=6):∀ i∈dE E,(!bE E i m||fL E i m)=true:=by
 unfold jW at h;rw[decide_eq_true hL] at h;exact List.all_eq_true.1 h
theorem Aq {L:Nat} {E:List Fm} {f t:Nat}:wK L E f t=true↔∀ i∈dE E,Ap L E f t i=true:=zt
theorem F9 (p:Nat→Bool) (N:Nat):idxOf p (List.range N) 0<0↔∀ m,m<N→p m=false:=by
 have key:∀ d k,k≤N→d=N-k→(idxOf p ((List.range N).drop k) k<0↔∀ m,k≤m→m<N→p m=false):=by
  intro d
  induction d with
  | zero=>
   intro k hk hd;obtain rfl:k=N:=qB;rw[lE];exact⟨fun _ m h1 h2=>by omega,fun _=>by decide⟩
  | succ d ih=>
   intro k hk hd;rw[iV p N k qB]
   by_cases hp:p k=true
   ·rw[if_pos hp]
    refine⟨fun h=>by omega,fun h=>?_⟩;rw[h k qB qB] at hp
    cases hp
   ·rw[if_neg hp,ih (k+1) qB qB]
    rw[Bool.not_eq_true] at hp;refine⟨fun h m h1 h2=>?_,fun h m h1 h2=>h m qB h2⟩
    by_cases e:m=k
    ·subst e;exact hp
    ·exact h m qB h2
 have:=key N 0 qB qB
 simpa using this
theorem GM (L:Nat) (E:List Fm) (N:Nat) (A B:List Fm):CV L E N A B=true↔∀ m,m<N→dM L E N m=true→mj E A B m=false:=by
 unfold CV DF;rw[decide_eq_true_eq,F9];refine⟨fun h m hm hl=>?_,fun h m hm=>?_⟩
 ·have:=h m hm
  rw[hl] at this;exact this
 ·cases hl:dM L E N m
  ·rfl
  ·exact h m hm hl
structure NwR (w:World) (r L:Nat) (E:List Fm) (N:Nat) (R:List Bool) (ss:List ByteArray):Prop where
 ty:TyA w r L N (fT E N) (mP L E N)
 c4:∃ v,w.cell? ⟨r,4,none⟩=some v∧cN w v R
 c1:∃ v,w.cell? ⟨r,1,none⟩=some v∧ElL w v ss (E.map Fm.enc)
def Aw (E A B:List Fm) (N:Nat):List Bool:=(List.range N).map (mj E A B)
theorem uc (E:List Fm) (ss:List ByteArray) (h8:E.length≤8) (m:Nat) (hm:m<256) (r gp gt:Nat) (pv v:Value) (t:Fm) (w:World) (hs:∀ x∈aC t,fk x=true→x∈E) (hv:Nds w v t.enc)
  (c1:w.cell? ⟨r,1,none⟩=some pv) (hp:ElL w pv ss (E.map Fm.enc)) (cp:w.cell? ⟨gp,0,none⟩=some (.pointer (some ⟨r,0,none⟩))) (ct:w.cell? ⟨gt,0,none⟩=some (.int .i64 m)):
  Calls Tryz.prog 122 #[v,.pointer (some ⟨gp,0,none⟩),.pointer (some ⟨gt,0,none⟩)] w fun e w'=>e=.returned (.bool (!bV E m t))∧aa w w':=by
 have HV:=hid (kZ E ss h8 m hm r pv t v w hs hv c1 hp);obtain⟨p,n,c,rfl⟩:=hv.shape;clear hs hv hp c1;generalize bV E m t=b at*;go_enter Tryz.func122,Tryz.ntmps122;go_wp2_with fail;refine HV.out.mono ?_;rintro e w2 ⟨rfl,k2⟩;go_wp2_with fail;go_ret;exact⟨rfl,k2⟩
theorem ud (E:List Fm) (ss:List ByteArray) (h8:E.length≤8) (m:Nat) (hm:m<256) (r gp gt:Nat) (pv v:Value) (t:Fm) (w:World) (hs:∀ x∈aC t,fk x=true→x∈E) (hv:Nds w v t.enc)
  (c1:w.cell? ⟨r,1,none⟩=some pv) (hp:ElL w pv ss (E.map Fm.enc)) (cp:w.cell? ⟨gp,0,none⟩=some (.pointer (some ⟨r,0,none⟩))) (ct:w.cell? ⟨gt,0,none⟩=some (.int .i64 m)):
  Calls Tryz.prog 123 #[v,.pointer (some ⟨gp,0,none⟩),.pointer (some ⟨gt,0,none⟩)] w fun e w'=>e=.returned (.bool (bV E m t))∧aa w w':=by
 have HV:=hid (kZ E ss h8 m hm r pv t v w hs hv c1 hp);obtain⟨p,n,c,rfl⟩:=hv.shape;clear hs hv hp c1;generalize bV E m t=b at*;go_enter Tryz.func123,Tryz.ntmps123;go_wp2_with fail;refine HV.out.mono ?_;rintro e w2 ⟨rfl,k2⟩;go_wp2_with fail;go_ret;exact⟨rfl,k2⟩
theorem nX:aG 122:=fun _ _=>by kernel_rfl
theorem nY:aG 123:=fun _ _=>by kernel_rfl
noncomputable def Dp (x:List Nd):Fm:=@dite _ (∃ t:Fm,t.enc=x) (Classical.propDecidable _) (fun h=>Classical.choose h) (fun _=>.fls)
theorem rE (t:Fm):Dp t.enc=t:=by
 have h:∃ u:Fm,u.enc=t.enc:=⟨t,rfl⟩
 unfold Dp;rw[dif_pos h];exact qR (Classical.choose_spec h)
theorem AX (A:List Fm) (p:Fm→Bool):(A.map Fm.enc).any (fun x=>p (Dp x))=A.any p:=by
 rw[List.any_map]
 exact mu fun t _=>by simp[rE]
theorem wF (E A:List Fm) (ss:List ByteArray) (h8:E.length≤8) (m:Nat) (hm:m<256) (r gp gt:Nat) (pv v:Value) (w:World) (hs:∀ t∈A,∀ x∈aC t,fk x=true→x∈E) (hv:bW w v (A.map Fm.enc))
  (c1:w.cell? ⟨r,1,none⟩=some pv) (hp:ElL w pv ss (E.map Fm.enc)) (cp:w.cell? ⟨gp,0,none⟩=some (.pointer (some ⟨r,0,none⟩))) (ct:w.cell? ⟨gt,0,none⟩=some (.int .i64 m)):
  Calls Tryz.prog 121 #[v,.func (.func 122) #[] #[.pointer (some ⟨gp,0,none⟩),.pointer (some ⟨gt,0,none⟩)]] w fun e w'=>e=.returned (.bool (A.any fun t=>!bV E m t))∧aa w w':=by
 rw[←AX A (fun t=>!bV E m t)];refine ig (fun x=>!bV E m (Dp x)) _ _ _ v w hv nX (fun x u w1 hx k1 hu=>?_);obtain⟨t,ht,rfl⟩:=List.mem_map.1 hx;rw[rE];exact uc E ss h8 m hm r gp gt pv u t w1 (hs t ht) hu (k1.cell c1) (hp.keeps k1) (k1.cell cp) (k1.cell ct)
theorem wG (E A:List Fm) (ss:List ByteArray) (h8:E.length≤8) (m:Nat) (hm:m<256) (r gp gt:Nat) (pv v:Value) (w:World) (hs:∀ t∈A,∀ x∈aC t,fk x=true→x∈E) (hv:bW w v (A.map Fm.enc))
  (c1:w.cell? ⟨r,1,none⟩=some pv) (hp:ElL w pv ss (E.map Fm.enc)) (cp:w.cell? ⟨gp,0,none⟩=some (.pointer (some ⟨r,0,none⟩))) (ct:w.cell? ⟨gt,0,none⟩=some (.int .i64 m)):
  Calls Tryz.prog 121 #[v,.func (.func 123) #[] #[.pointer (some ⟨gp,0,none⟩),.pointer (some ⟨gt,0,none⟩)]] w fun e w'=>e=.returned (.bool (A.any fun t=>bV E m t))∧aa w w':=by
 rw[←AX A (fun t=>bV E m t)];refine ig (fun x=>bV E m (Dp x)) _ _ _ v w hv nY (fun x u w1 hx k1 hu=>?_);obtain⟨t,ht,rfl⟩:=List.mem_map.1 hx;rw[rE];exact ud E ss h8 m hm r gp gt pv u t w1 (hs t ht) hu (k1.cell c1) (hp.keeps k1) (k1.cell cp) (k1.cell ct)
theorem al.keeps {a b c:World} {S:Nat→Prop} (h:al a b S) (k:aa b c):al a c S:=h.trans (al.of_keeps k _)
theorem al.cellOf {a b:World} {S:Nat→Prop} (h:al a b S) {g o:Nat} {v:Value} (hs:¬S g) (hc:a.cell? ⟨g,o,none⟩=some v):b.cell? ⟨g,o,none⟩=some v:=
 ((h.cell (World.block_lt_of_cell? a _ hc) hs).1 o).trans hc
def neT (E:List Fm) (N i:Nat):List Nee:=((List.range i).filter fun j=>gA (E.getD j .fls)).map (nee E N)
theorem Gs {E:List Fm} {N i:Nat} (h:gA (E.getD i .fls)=true):neT E N (i+1)=neT E N i++[nee E N i]:=by
 unfold neT;rw[sS (fun j=>gA (E.getD j .fls)) i,if_pos h,List.map_append];rfl
theorem IQ {E:List Fm} {N i:Nat} (h:gA (E.getD i .fls)=false):neT E N (i+1)=neT E N i:=by
 unfold neT;rw[sS (fun j=>gA (E.getD j .fls)) i,if_neg (by rw[h];simp),List.append_nil]
theorem Gr (E:List Fm) (N i:Nat):(neT E N i).length≤i:=by
 unfold neT;rw[List.length_map];exact zx (List.length_filter_le _ _) qD
theorem Gq (E:List Fm) (N:Nat):neT E N E.length=fT E N:=rfl
theorem gL {α:Type} (f:Nat→α) (k:Nat):(List.range (k+1)).map f=(List.range k).map f++[f k]:=by rw[List.range_succ,List.map_append];rfl
theorem FW {t:Fm} (h:fk t=true):(gA t=false∧t.kind=0)∨(gA t=true∧(t.kind=5∨t.kind=6)∧t.kind=(if bg t then 5 else 6)∧∃ x,t.enc=x::((bH t).enc++[])):=by
 cases t<;>simp[fk] at h<;>simp[gA,bg,Fm.kind,bH,Fm.enc]
theorem BV {t x:Fm} (h:gA t=true) (hx:x∈aC (bH t)):x∈aC t:=by
 cases t<;>simp[gA] at h<;>exact zw _ hx
theorem FT {G:List Fm} (hG:ff G) {t x:Fm} (ht:t∈elF G) (hm:gA t=true) (hx:x∈aC (bH t)) (he:fk x=true):x∈elF G:=by
 rw[lk hG];refine⟨?_,he⟩;obtain⟨h1,_⟩:=(lk hG).1 ht;unfold iz at*;obtain⟨g,hg,h2⟩:=List.mem_flatMap.1 h1;exact List.mem_flatMap.2 ⟨g,hg,tm h2 x (BV hm hx)⟩
theorem Ds {G:List Fm} (hG:ff G) {t x:Fm} (ht:t∈G) (hx:x∈aC t) (he:fk x=true):x∈elF G:=by
 rw[lk hG];exact⟨List.mem_flatMap.2 ⟨t,ht,hx⟩,he⟩
theorem xB {G:List Fm} (hG:ff G) {t:Fm} (ht:t∈elF G):fk t=true:=((lk hG).1 ht).2
theorem xQ {E:List Fm} {i:Nat} (h:i<E.length):E.getD i .fls∈E:=by
 rw[zi,zn h];exact zo h
theorem dJ.neeT {w6 wr:World} {r C g:Nat} {v c0 c1 c2 c3 c4 c5:Value} {ns:List Nee} (h:dJ w6 C v ns) (hb:cO w6 r c0 c1 c2 c3 c4 c5) (t:al w6 wr (fun i=>i=r)) (hl:ns.length≤8) (hn:∀ n∈ns,n.inn.length≤2147483648) (hg:w6.heap.size≤g):xg wr g v ns:=by
 have ht:∀ us,w6.ownsRow C 153 3 v ns.length (dz ns us)→fG w6 C us (ns.map Nee.inn)→wr.ownsRow C 153 3 v ns.length (dz ns us)∧fG wr C us (ns.map Nee.inn):=fun us a b=>
  ⟨aZ a t (fun i e hi=>by rw[show i=r from hi] at e;exact cE hb a qC rfl e),b.touch t (fun i hi e=>by
   obtain⟨j,hj,e2⟩:=hi;rw[show i=r from e] at e2
   exact cE hb (b.2 j hj (by have:=b.1;omega)) qC rfl e2)⟩
 have h2:dJ wr C v ns:=by
  obtain⟨us,a,b⟩:=h;exact⟨us,(ht us a b).1,(ht us a b).2⟩
 exact h2.neeO hl hn h ht hg
structure Nw1 (w3 wr:World) (r C:Nat) (lg pv:Value) (N:Nat) (v2:Value) (ns:List Nee):Prop where
 box:cO wr r lg pv v2 (.int .i64 N) (.slice none 0 0) (.slice none 0 0)
 ne:dJ wr C v2 ns
 toq:al w3 wr (fun i=>i=r)
theorem Nw1.keeps {w3 wr w':World} {r C N:Nat} {lg pv v2:Value} {ns:List Nee} (h:Nw1 w3 wr r C lg pv N v2 ns) (k:aa wr w'):Nw1 w3 w' r C lg pv N v2 ns:=⟨h.box.keeps k,h.ne.keeps k,h.toq.keeps k⟩
theorem Nw1.push {w3 w5 w6:World} {r N:Nat} {lg pv v2 v2':Value} {ns ms:List Nee} (h:Nw1 w3 w5 r w3.heap.size lg pv N v2 ns) (g:w5.grownBy w6 v2.ownBlock) (hr:∀ k,v2.ownBlock=some k→w3.heap.size≤k) (h6:dJ w6 w3.heap.size v2' ms):
  Nw1 w3 (w6.setCell ⟨r,2,none⟩ v2') r w3.heap.size lg pv N v2' ms:=by
 obtain⟨us,ho,_⟩:=h.ne;have eE:cO w6 r lg pv v2 (.int .i64 N) (.slice none 0 0) (.slice none 0 0):=h.box.other ho qC (fun i hi=>hi.symm) (al.grown g);have g7:=eE.grown 2 v2';exact⟨eE.set2 v2',h6.other eE qC qC (fun i hi=>by rw[show i=r by simpa using hi];rfl) (al.grown g7),(h.toq.push g (fun k e=>.inl (hr k e))).push g7 (fun k e=>.inr (by simpa using e.symm))⟩
def eG (w:World) (g:Nat) (a b c:Value):Prop:=w.ownsRow g 153 3 (.slice (some ⟨g,0,none⟩) 1 1) 1 [a,b,c]
theorem eG.made (w:World) (a b c:Value):eG (w.alloc (.cells #[a,b,c] 153)) w.heap.size a b c:=by
 have h:=World.ownsRow_lit (base:=w.heap.size) (e:=153) (size:=3) w #[a,b,c] 1 (zm _) (by simp[maxLen]) qD
 simpa [eG] using h
theorem eG.cell0 {w:World} {g:Nat} {a b c:Value} (h:eG w g a b c):w.cell? ⟨g,0,none⟩=some a:=by rw[World.ownsRow.cellAt h 0 qB];rfl
theorem eG.cell1 {w:World} {g:Nat} {a b c:Value} (h:eG w g a b c):w.cell? ⟨g,1,none⟩=some b:=by rw[World.ownsRow.cellAt h 1 qB];rfl
theorem eG.cell2 {w:World} {g:Nat} {a b c:Value} (h:eG w g a b c):w.cell? ⟨g,2,none⟩=some c:=by rw[World.ownsRow.cellAt h 2 qB];rfl
theorem eG.froz {w:World} {g:Nat} {a b c:Value} (h:eG w g a b c) (i:Nat):w.frozen? ⟨g,i,none⟩=false:=World.ownsRow.frozenAt h i
theorem eG.keeps {w w':World} {g:Nat} {a b c:Value} (h:eG w g a b c) (k:aa w w'):eG w' g a b c:=bw h k
theorem eG.far {w w':World} {g:Nat} {a b c:Value} {row:Option Nat} (h:eG w g a b c) (k:w.grownBy w' row) (hn:∀ j,row=some j→j≠g):eG w' g a b c:=
 aZ h (al.grown k) (fun i e hi=>by
  have e2:g=i:=by simpa [Value.ownBlock] using e
  exact hn i hi.symm e2.symm)
structure Nw2 (wr wq:World) (g:Nat) (a b c:Value) (bs:List Bool):Prop where
 box:eG wq g a b c
 row:cl wq wr.heap.size c bs
 kp:aa wr wq
 hg:wr.heap.size≤g
theorem Nw2.keeps {wr wq w':World} {g:Nat} {a b c:Value} {bs:List Bool} (h:Nw2 wr wq g a b c bs) (k:aa wq w'):Nw2 wr w' g a b c bs:=⟨h.box.keeps k,h.row.keeps k,h.kp.trans k,h.hg⟩
theorem Nw2.push {wr w5 w6:World} {g:Nat} {a b c c':Value} {bs cs:List Bool} (h:Nw2 wr w5 g a b c bs) (gr:w5.grownBy w6 c.ownBlock) (h6:cl w6 wr.heap.size c' cs):Nw2 wr (w6.setCell ⟨g,2,none⟩ c') g a b c' cs:=by
 have eE:eG w6 g a b c:=aZ h.box (al.grown gr) (fun i e hi=>cE h.row h.box qC hi.symm e);have hs:=World.ownsRow.stored eE 2 c';refine⟨hs.1,h6.touch (al.grown hs.2) (fun i e hi=>cE eE h6 qC (k:=i) (by rw[show i=g by simpa using hi];rfl) e),(h.kp.grown gr (fun k e=>(h.row.len k e).1)).setCell h.hg c',h.hg⟩
structure Nw3 (w3 wr:World) (r:Nat) (lg pv v2:Value) (N:Nat) (v4 v5:Value) (R S:List Bool):Prop where
 box:cO wr r lg pv v2 (.int .i64 N) v4 v5
 r4:cl wr w3.heap.size v4 R
 r5:cl wr w3.heap.size v5 S
 ap:∀ k,v4.ownBlock=some k→v5.ownBlock≠some k
 toq:al w3 wr (fun i=>i=r)
theorem Nw3.keeps {w3 wr w':World} {r N:Nat} {lg pv v2 v4 v5:Value} {R S:List Bool} (h:Nw3 w3 wr r lg pv v2 N v4 v5 R S) (k:aa wr w'):Nw3 w3 w' r lg pv v2 N v4 v5 R S:=⟨h.box.keeps k,h.r4.keeps k,h.r5.keeps k,h.ap,h.toq.keeps k⟩
theorem Nw3.push4 {w3 w5 w6:World} {r N:Nat} {lg pv v2 v4 v5 v':Value} {R S R':List Bool} (h:Nw3 w3 w5 r lg pv v2 N v4 v5 R S) (gr:w5.grownBy w6 v4.ownBlock) (h6:cl w6 w3.heap.size v' R') (hn:∀ k,v'.ownBlock=some k→v4.ownBlock=some k∨w5.heap.size≤k):Nw3 w3 (w6.setCell ⟨r,4,none⟩ v') r lg pv v2 N v' v5 R' S:=by
 have eE:cO w6 r lg pv v2 (.int .i64 N) v4 v5:=h.box.other h.r4 qC (fun i hi=>hi.symm) (al.grown gr);have g7:=eE.grown 4 v';have h5:cl w6 w3.heap.size v5 S:=h.r5.touch (al.grown gr) (fun i e hi=>h.ap i hi.symm e)
 have hS:∀ (u:Value) (l:List Bool),cl w6 w3.heap.size u l→cl (w6.setCell ⟨r,4,none⟩ v') w3.heap.size u l:=fun u l hu=>hu.touch (al.grown g7) (fun i e hi=>cE eE hu qC (k:=i) (by rw[show i=r by simpa using hi];rfl) e)
 exact⟨eE.set4 v',hS _ _ h6,hS _ _ h5,fun k e e5=>by
  rcases hn k e with h1 | h1
  ·exact h.ap k h1 e5
  ·have:=(h.r5.len k e5).2;omega,(h.toq.push gr (fun k e=>.inl (h.r4.len k e).1)).push g7 (fun k e=>.inr (by simpa using e.symm))⟩
theorem Nw3.push5 {w3 w5 w6:World} {r N:Nat} {lg pv v2 v4 v5 v':Value} {R S S':List Bool} (h:Nw3 w3 w5 r lg pv v2 N v4 v5 R S) (gr:w5.grownBy w6 v5.ownBlock) (h6:cl w6 w3.heap.size v' S') (hn:∀ k,v'.ownBlock=some k→v5.ownBlock=some k∨w5.heap.size≤k):Nw3 w3 (w6.setCell ⟨r,5,none⟩ v') r lg pv v2 N v4 v' R S':=by
 have eE:cO w6 r lg pv v2 (.int .i64 N) v4 v5:=h.box.other h.r5 qC (fun i hi=>hi.symm) (al.grown gr);have g7:=eE.grown 5 v';have h4:cl w6 w3.heap.size v4 R:=h.r4.touch (al.grown gr) (fun i e hi=>h.ap i e hi.symm)
 have hS:∀ (u:Value) (l:List Bool),cl w6 w3.heap.size u l→cl (w6.setCell ⟨r,5,none⟩ v') w3.heap.size u l:=fun u l hu=>hu.touch (al.grown g7) (fun i e hi=>cE eE hu qC (k:=i) (by rw[show i=r by simpa using hi];rfl) e)
 exact⟨eE.set5 v',hS _ _ h4,hS _ _ h6,fun k e e5=>by
  rcases hn k e5 with h1 | h1
  ·exact h.ap k e h1
  ·have:=(h.r4.len k e).2;omega,(h.toq.push gr (fun k e=>.inl (h.r5.len k e).1)).push g7 (fun k e=>.inr (by simpa using e.symm))⟩
theorem Nw2.box6 {wr w5 w6:World} {g:Nat} {a b c:Value} {bs:List Bool} (h:Nw2 wr w5 g a b c bs) (gr:w5.grownBy w6 c.ownBlock):eG w6 g a b c:=
 aZ h.box (al.grown gr) (fun i e hi=>cE h.row h.box qC hi.symm e)
theorem Nw1.box6 {w3 w5 w6:World} {r C N:Nat} {lg pv v2:Value} {ns:List Nee} (h:Nw1 w3 w5 r C lg pv N v2 ns) (g:w5.grownBy w6 v2.ownBlock):cO w6 r lg pv v2 (.int .i64 N) (.slice none 0 0) (.slice none 0 0):=by
 obtain⟨us,ho,_⟩:=h.ne;exact h.box.other ho qC (fun i hi=>hi.symm) (al.grown g)
theorem Nw3.box4 {w3 w5 w6:World} {r N:Nat} {lg pv v2 v4 v5:Value} {R S:List Bool} (h:Nw3 w3 w5 r lg pv v2 N v4 v5 R S) (gr:w5.grownBy w6 v4.ownBlock):cO w6 r lg pv v2 (.int .i64 N) v4 v5:=h.box.other h.r4 qC (fun i hi=>hi.symm) (al.grown gr)
theorem Nw3.box5 {w3 w5 w6:World} {r N:Nat} {lg pv v2 v4 v5:Value} {R S:List Bool} (h:Nw3 w3 w5 r lg pv v2 N v4 v5 R S) (gr:w5.grownBy w6 v5.ownBlock):cO w6 r lg pv v2 (.int .i64 N) v4 v5:=h.box.other h.r5 qC (fun i hi=>hi.symm) (al.grown gr)
theorem cl.shape0 {w:World} {B:Nat} {v:Value} {a:List Bool} (h:cl w B v a):∃ p c,v=.slice p a.length c:=by
 obtain⟨p,c,e,_⟩:=At.of_own h;exact⟨p,c,e⟩
theorem fN.shapeV {w:World} {B:Nat} {v:Value} {xs:List (List Nd)} (h:fN w B v xs):∃ p n c,v=.slice p n c:=by
 obtain⟨vs,ho,_⟩:=h;obtain⟨p,c,e,_⟩:=At.of_own ho;exact⟨p,_,c,e⟩
theorem fN.touchV {w w':World} {S:Nat→Prop} {B:Nat} {v:Value} {xs:List (List Nd)} (h:fN w B v xs) (k:al w w' S) (hS:∀ i,B≤i→¬S i):fN w' B v xs:=by
 obtain⟨vs,ho,hr,ha,hf⟩:=h;exact⟨vs,aZ ho k (fun i e=>hS i (World.ownsRow.lt ho i e).1),hr.touch k (fun i e=>hS i (hr.lt e).1),ha,hf⟩
theorem ElL.getE {w:World} {p:Option Addr} {n cap:Nat} {ss:List ByteArray} {E:List Fm} (h:ElL w (.slice p n cap) ss (E.map Fm.enc)) (i:Nat) (h1:i<ss.length) (h2:i<E.length):
  ∃ b off u,p=some ⟨b,off,none⟩∧w.cell? ⟨b,off+i*2,none⟩=some (.string ss[i])∧w.cell? ⟨b,off+i*2+1,none⟩=some u∧Nds w u (E.getD i .fls).enc:=by
 obtain⟨p',cap',e,_,_,_,_,eE⟩:=h
 cases e
 obtain⟨b,off,u,a1,a2,a3,a4⟩:=eE i h1 (by simpa using h2);refine⟨b,off,u,a1,a2,a3,?_⟩
 have:(E.map Fm.enc)[i]'(by simpa using h2)=(E.getD i .fls).enc:=by
  rw[List.getElem_map,zi,zn h2];rfl
 rw[←this];exact a4
theorem wS {w:World} {ops:Array Oper} {o:Oper} {a:Act} {K:Act→World→Prop} {Q:Exit→Act→World→Prop} {E:Prop} (x7:o.guard=none) (s x:Operand)
  (ho:o.op=.call { callee:=.builtin .append,args:=#[s,x],argTypes:=#[149,149] }) (base:Nat) (v:Value) (xs:List Bool) (hs:a.eval s=v) (h9:cl w base v xs)
  (u:Value) (y:Bool) (hx:a.eval x=u) (hu:cN w u [y]) (eE:base≤w.heap.size) (x8:xs.length≤1000000)
  (h:∀ v' w',cl w' base v' (xs++[y])→w.grownBy w' v.ownBlock→(∀ k,v.ownBlock=some k→base≤k)→(∀ k,v'.ownBlock=some k→v.ownBlock=some k∨w.heap.size≤k)→K (a.put o.dst v') w'):if Region.wanted o (yielded ops a.tmps)=true then Oper.wp Tryz.prog o a w K Q else E:=by
 rw[if_pos (by simp[Region.wanted,x7])];obtain⟨i0,hi,x9,H7,H8⟩:=info_parts Hw;obtain⟨p,cap,rfl,_,_,x6,_⟩:=hu;obtain⟨b,off,rfl,hc⟩:=x6 0 (by simp[aY]);refine wp_append_lies w s x _ ho base _ i0 _ 1 1 Tryz.underlying149 hi x9 H7 H8 rfl qC v _ _ hs h9 ⟨b,off,none⟩ 1 cap [.bool y] hx qD ?_ (by simp[Value.oneCell']) qB (by unfold maxLen;omega) qB eE _ rfl ?_
 ·intro j u hj
  cases j with
  | zero=>simp at hj;subst hj;simpa [Addr.add,aY] using hc
  | succ j=>simp at hj
 ·intro g c' w' h2 h3 h4 h5
  refine h _ w' ?_ h3 (fun k e=>(World.ownsRow.lt h9 k e).1) (fun k e=>?_)
  ·unfold cl
   rw[ze,show aY (xs++[y])=aY xs++[.bool y] by simp[aY]];exact h2
  ·have:k=g:=by simpa [Value.ownBlock] using e.symm
   subst this
   rcases h4 with h4 | h4
   ·exact .inl h4
   ·exact .inr qB
theorem sG {E:List Fm} {i:Nat}:i∈dE E↔i<E.length∧gA (E.getD i .fls)=true:=by
 unfold dE;rw[List.mem_filter,zy]
def wC (p:Nat→Bool):Nat→Nat
 | 0=>0
 | n+1=>if p n then wC p n ||| 2^n else wC p n
theorem By (p:Nat→Bool):∀ n,wC p n<2^n
 | 0=>by simp[wC]
 | n+1=>by
  have ih:=By p n;have h2:2^n<2^(n+1):=Nat.pow_lt_pow_right qB qB;rw[wC]
  split
  ·exact Nat.or_lt_two_pow qB h2
  ·omega
def tlV:Value→Value
 | .slice (some ⟨g,0,none⟩) m cap=>.slice (if cap=1 then some ⟨g,0,none⟩ else some ⟨g,2,none⟩) (m-1) (cap-1)
 | v=>v
theorem EW (w:World):(sizeOf 82).run Tryz.prog w=.ok 2 w:=by
 obtain⟨i0,hi,h9,eE,x6⟩:=info_parts Bi;simp[sizeOf,typeInfo,hi,eE]
theorem IZ (g m cap:Nat) (hl:1≤m) (_hc:m≤cap) (wx:World):
  (Instr.slice 50 (.slice (some ⟨g,0,none⟩) m cap) (some (.int .i64 1)) none none).run Tryz.prog wx=.ok (tlV (.slice (some ⟨g,0,none⟩) m cap)) wx:=by
 have hT:Tryz.prog.underlying 50=some (.slice (Tryz.prog.elem 50)):=qA;have hE:Tryz.prog.elem 50=82:=qA;rw[run_slice_l (P:=Tryz.prog) wx 50 (some ⟨g,0,none⟩) m cap hT .i64 1 qB qB,hE,EW];simp only[Result.andThen_ok,sliced,Option.map_some];rfl
theorem J3 (g m cap:Nat) (hl:1≤m) (hc:m≤cap) (hm:cap≤maxLen) (w:World) (B:Nat) (a:List Nd) (h:aU w B (.slice (some ⟨g,0,none⟩) m cap) a) (ha:a.length≤2147483648):Nds w (tlV (.slice (some ⟨g,0,none⟩) m cap)) (a.drop 1):=by
 have h0:=h;obtain⟨_,_,e,_,_,x6,_⟩:=h.nds ha;injection e with e1 e2 e3;subst e1;subst e2;subst e3
 have x7:(a.drop 1).length=a.length-1:=by simp
 refine⟨_,cap-1,by rw[x7];rfl,qB,qB,?_,qB⟩
 split
 ·have:a.drop 1=[]:=List.drop_eq_nil_of_le qB
  rw[this];exact At.nil _ _
 ·intro j hj
  have eE:∀ (x:List Nd),bc (x.drop 1)=(bc x).drop 2:=by
   intro x
   cases x with
   | nil=>rfl
   | cons y x=>simp[bc]
  have h9:2+j<(bc a).length:=by
   rw[eE] at hj
   simp at hj
   omega
  obtain⟨b',off',hp,hc'⟩:=x6 (2+j) h9
  cases hp
  refine⟨g,_,rfl,?_⟩
  have e2:(bc (a.drop 1))[j]? = (bc a)[2+j]? := by rw[eE,List.getElem?_drop]
  rw[zn hj,zn h9] at e2;rw[show 2+j=0+(2+j) by omega,hc'];exact e2.symm
end
section
open Go.RowKit
theorem aA.sh {w:World} {B:Nat} {v:Value} {a:List ByteArray} (h:aA w B v a):∃ p n c,v=.slice p n c:=by
 obtain⟨p,c,e,_⟩:=At.of_own h;exact⟨p,_,c,e⟩
theorem DP:(Tryz.prog.info? 29).map (fun i=>(i.zero,i.size,i.bytes))=some (some (.agg #[.slice none 0 0,.slice none 0 0]),2,48):=qA
theorem kU:∀ us vs:List (Value×Value),cV (us++vs)=cV us++cV vs
 | [],_=>rfl
 | x::l,vs=>by simp[cV,kU l vs]
theorem kV:∀ (us:List (Value×Value)) (i:Nat) (hi:i<us.length),(cV us)[i*2]? = some us[i].1∧(cV us)[i*2+1]? = some us[i].2
 | [],i,hi=>by simp at hi
 | x::l,0,_=>by simp[cV]
 | x::l,i+1,hi=>by
  have:=kV l i (by simpa using hi);rw[show(i+1)*2=i*2+1+1 by omega,show i*2+1+1+1=(i*2+1)+1+1 by omega]
  simpa [cV] using this
def SqO (w:World) (B:Nat) (v:Value) (ps:List SqT):Prop:=
 ∃ us:List (Value×Value),us.length=ps.length∧w.ownsRow B 29 2 v ps.length (cV us)∧∀ i (h1:i<us.length) (h2:i<ps.length),aA w B us[i].1 ps[i].1∧aA w B us[i].2 ps[i].2
theorem SqO.keeps {w w':World} {B:Nat} {v:Value} {ps:List SqT} (h:SqO w B v ps) (k:aa w w'):SqO w' B v ps:=by
 obtain⟨us,h1,h2,h3⟩:=h;exact⟨us,h1,bw h2 k,fun i a b=>⟨(h3 i a b).1.keeps k,(h3 i a b).2.keeps k⟩⟩
theorem SqO.empty (w:World):SqO (w.alloc (.cells #[] 29)) w.heap.size (.slice (some ⟨w.heap.size,0,none⟩) 0 0) []:=
 ⟨[],rfl,World.ownsRow_made w #[] 0 (zm _) (by simp[maxLen]) qD,fun i h=>by simp at h⟩
theorem SqO.sh {w:World} {B:Nat} {v:Value} {ps:List SqT} (h:SqO w B v ps):∃ p n c,v=.slice p n c:=by
 obtain⟨us,h1,h2,h3⟩:=h;obtain⟨p,c,e,_⟩:=At.of_own h2;exact⟨p,_,c,e⟩
theorem SqO.sql {w:World} {B:Nat} {v:Value} {ps:List SqT} (h:SqO w B v ps) (hl:ps.length≤2147483648) (hb:∀ p∈ps,p.1.length≤2147483648∧p.2.length≤2147483648):SqL w v ps:=by
 obtain⟨us,h1,h2,h3⟩:=h
 have KP:=fun (_:0<ps.length)=>cw.own h2
 obtain⟨p,c,rfl,H9,eE,h9⟩:=At.of_own h2;refine⟨⟨p,c,rfl,H9,eE,hl,fun i hi=>?_⟩,KP⟩;have hi':i<us.length:=qB;obtain⟨g1,g2⟩:=kV us i hi';obtain⟨r1,r2⟩:=h3 i hi' hi;obtain⟨b1,b2⟩:=hb ps[i] (zo hi);obtain⟨x8,x9⟩:=List.getElem?_eq_some_iff.1 g1;obtain⟨H7,H8⟩:=List.getElem?_eq_some_iff.1 g2;obtain⟨b,off,hp,x6⟩:=h9 (i*2) x8;obtain⟨b',off',hp',x7⟩:=h9 (i*2+1) H7;rw[hp] at hp'
 cases hp'
 rw[x9] at x6;rw[H8] at x7;refine⟨b,off,fun c=>if c=0 then us[i].1 else us[i].2,hp,fun c hc=>?_,⟨by simpa using r1.strsP b1,by simpa using r1.sh⟩,⟨by simpa using r2.strsP b2,by simpa using r2.sh⟩⟩;have eE:c=0∨c=1:=qB
 rcases eE with rfl | rfl
 ·simpa using x6
 ·simpa [Nat.add_assoc] using x7
theorem JA {w:World} {o:Oper} {a:Act} {K:Act→World→Prop} {Q:Exit→Act→World→Prop} (s x:Operand)
  (ho:o.op=.call { callee:=.builtin .append,args:=#[s,x],argTypes:=#[109,109] }) (base:Nat) (v:Value) (ps:List SqT) (hs:a.eval s=v) (x8:SqO w base v ps)
  (p:Option Addr) (cc:Nat) (y z:Value) (A C:List ByteArray) (hx:a.eval x=.slice p 1 cc) (x9:At w p [y,z]) (hy:aA w base y A) (hz:aA w base z C) (eE:base≤w.heap.size) (H7:ps.length≤1000000)
  (h:∀ v' w',SqO w' base v' (ps++[(A,C)])→w.grownBy w' v.ownBlock→(∀ k,v.ownBlock=some k→base≤k)→K (a.put o.dst v') w'):o.wp Tryz.prog a w K Q:=by
 obtain⟨i0,hi,H8,H9,KP⟩:=info_parts DP;obtain⟨us,hl,h9,he⟩:=x8;obtain⟨py,ny,cy,ey⟩:=hy.sh;obtain⟨pz,nz,cz,ez⟩:=hz.sh
 refine bI s x _ ho _ i0 _ 2 48 Tryz.underlying109 hi H8 H9 KP rfl qC base v _ _ hs h9 p 1 cc [y,z] hx qD x9 (by
  intro u hu
  simp at hu
  rcases hu with rfl | rfl
  ·rw[ey];rfl
  ·rw[ez];rfl) (by unfold maxLen;omega) qB eE ?_
 intro v' w' h1 h2 h4;have T:=al.grown h2
 have stay:∀ {u:Value} {l:List ByteArray},aA w base u l→aA w' base u l:=fun hu=>aZ hu T (fun i hi e=>cE h9 hu qC e.symm hi)
 refine h v' w' ⟨us++[(y,z)],by simp[hl],?_,fun i a1 a2=>?_⟩ h2 h4
 ·rw[ze,kU]
  exact h1
 ·by_cases x6:i<us.length
  ·have x7:i<ps.length:=qB
   rw[List.getElem_append_left x6,List.getElem_append_left x7];exact⟨stay (he i x6 x7).1,stay (he i x6 x7).2⟩
  ·have:i=us.length:=by simp at a1;omega
   subst this;rw[List.getElem_append_right (zm _),List.getElem_append_right qB];simp[hl];exact⟨stay hy,stay hz⟩
section
variable {md:Region.Mode} {ops:Array Oper} {Q:Exit→Act→World→Prop} {nt:Nat} {ins:List Nat} {kd:Nat→Kq} {w0:World} {o:Oper}
theorem Bq (B:Nat) (s s':Nat) (x y:List ByteArray) (ho:o.op=.build 29 #[(0,.tmp s),(1,.tmp s')]) (hg:o.guard=none) (h:az md ops ins o s=true) (h':az md ops ins o s'=true) (hs:kd s=.ows B x) (hs':kd s'=.ows B y) (hk:∀ d,o.dst=some d→kd d=.oq B x y):StQ md ops Q nt ins kd w0 o:=
 cB.plain hg fun a w K x6 hJ h9 eE hK=>by
  have hv:=dv h h9 eE;have hv':=dv h' h9 eE;change (kd s).holds _ w at hv;change (kd s').holds _ w at hv';rw[hs] at hv;rw[hs'] at hv';have hv:aA w B (a.eval (.tmp s)) x:=hv;have hv':aA w B (a.eval (.tmp s')) y:=hv';obtain⟨p,n,c,e3⟩:=hv.sh;obtain⟨q,m,d,e4⟩:=hv'.sh;rw[e3] at hv;rw[e4] at hv';unfold Oper.wp execOp
  have e2:(#[(0,Operand.tmp s),(1,Operand.tmp s')]:Array (Nat×Operand)).map (fun (i,x)=>(i,a.eval x))=#[(0,.slice p n c),(1,.slice q m d)]:=by simp[e3,e4]
  simp only[ho];rw[e2];simp only[Sem.run_bind,EJ,Result.andThen_ok,Sem.run_pure];exact hK _ _ (aa.refl w) (fun d hd=>by show(kd d).holds _ w;rw[hk d hd];exact⟨_,_,rfl,hv,hv'⟩)
theorem JO (B:Nat) (s:Nat) (x y:List ByteArray) (ho:o.op=.buildSlice 109 1 #[(0,.tmp s)]) (hg:o.guard=none) (h:az md ops ins o s=true) (hs:kd s=.oq B x y) (hk:∀ d,o.dst=some d→kd d=.orow B x y):StQ md ops Q nt ins kd w0 o:=
 cB.plain hg fun a w K x7 hJ h9 eE hK=>by
  have hv:=dv h h9 eE;change (kd s).holds _ w at hv;rw[hs] at hv;obtain⟨u,v,e,hu,hv⟩:=hv;obtain⟨p,n,c,rfl⟩:=hu.sh;obtain⟨q,m,d,rfl⟩:=hv.sh;unfold Oper.wp execOp
  have e2:(#[(0,Operand.tmp s)]:Array (Nat×Operand)).map (fun (i,x)=>(i,a.eval x))=#[(0,.agg #[.slice p n c,.slice q m d])]:=by simp[e]
  simp only[ho];rw[e2];simp only[Sem.run_bind,uI,Result.andThen_ok,Sem.run_pure];have k:=(aa.refl w).alloc (.cells #[.slice p n c,.slice q m d] 29);refine hK _ _ k (fun d' hd=>?_)
  show(kd d').holds _ _
  rw[hk d' hd];refine⟨_,_,_,rfl,fun j hj=>⟨w.heap.size,0,rfl,?_⟩,hu.keeps k,hv.keeps k⟩
  have x6:j=0∨j=1:=by simp at hj;omega
  rw[cell_of_row _ w.heap.size (0+j) #[.slice p n c,.slice q m d] 29 (0,0) (heap_alloc_new w _)]
  rcases x6 with rfl | rfl<;>simp
end
end
end Go.Proofs.YtagoboblkadelaaGreat
