import Derived.Test.YtagoboblkadelaaGreatZNV
import Derived.Test.YtagoboblkadelaaGreatZTK
/- own -/
namespace Go.Proofs.YtagoboblkadelaaGreat
set_option maxRecDepth 100000
set_option maxHeartbeats 4000000
open Go.RowKit
noncomputable def seE (ss tt:List ByteArray):List Fm:=elF (fmL (ss++tt))
noncomputable def seN (ss tt:List ByteArray):Nat:=2^(seE ss tt).length
noncomputable def lgN (s:ByteArray):Nat:=@dite _ (ma s=true) (Classical.propDecidable _) (fun h=>Classical.choose (Bm h)) (fun _=>0)
theorem iQ {s:ByteArray} (h:ma s=true):lgN s<8∧s=lgS (lgN s):=by
 unfold lgN;rw[dif_pos h];exact Classical.choose_spec (Bm h)
noncomputable def srC (s:ByteArray) (ss tt:List ByteArray):Int:=if ma s=true then (if isQ ss tt=true then (if (elT (fmL (ss++tt))).length≤8 then 0 else 3) else 1) else 2
structure Jl (s:ByteArray) (ss tt:List ByteArray):Prop where
 lg:lgN s<8
 eq:s=lgS (lgN s)
 hs:aW ss
 ht:aW tt
 h1:ss.length≤16
 h2:tt.length≤16
 h8:(seE ss tt).length≤8
 hN:seN ss tt≤256
theorem I2 {s:ByteArray} {ss tt:List ByteArray} (h:srC s ss tt=0):Jl s ss tt:=by
 unfold srC at h
 split at h
 ·rename_i hl
  split at h
  ·rename_i hq
   split at h
   ·rename_i h8
    obtain⟨a,b,c,d⟩:=dx hq
    have h8':(seE ss tt).length≤8:=by unfold seE;rw[qQ];exact h8
    exact⟨(iQ hl).1,(iQ hl).2,c,d,a,b,h8',qJ h8'⟩
   ·cases h
  ·cases h
 ·cases h
theorem Cq (L:Nat) (E:List Fm) (N t:Nat) (h:t<N):(mP L E N).getD t false=dM L E N t:=by
 unfold mP;rw[zi,List.getElem?_map,List.getElem?_range h];rfl
theorem EC (E A B:List Fm) (N t:Nat) (h:t<N):(Aw E A B N).getD t false=mj E A B t:=by
 unfold Aw;rw[zi,List.getElem?_map,List.getElem?_range h];rfl
theorem Cr (L:Nat) (E:List Fm) (N:Nat):(mP L E N).length=N:=by simp[mP]
theorem ED (E A B:List Fm) (N:Nat):(Aw E A B N).length=N:=by simp[Aw]
theorem wN (r L:Nat) (E A B:List Fm) (N:Nat) (ss:List ByteArray) (hN:N≤256) (w:World) (h:NwR w r L E N (Aw E A B N) ss):
  Calls Tryz.prog 77 #[.pointer (some ⟨r,0,none⟩)] w fun e w'=>e=.returned (.int .i64 (DF L E N A B))∧w=w':=by
 obtain⟨v5,c5,b5⟩:=h.ty.c5;obtain⟨v4,c4,b4⟩:=h.c4;refine(wM r N hN (mP L E N) (Aw E A B N) (Cr L E N) (ED E A B N) v4 v5 w h.ty.c3 c4 c5 b4 b5).mono ?_;rintro e w' ⟨rfl,rfl⟩;refine⟨aK ?_,rfl⟩;exact DL _ _ N (fun t ht=>by rw[Cq L E N t ht,EC E A B N t ht])
theorem mc (s:ByteArray) (ss tt:List ByteArray) (v u:Value) (w:World) (hv:au w v ss) (hu:au w u tt) (hk:Jl s ss tt):
  Calls Tryz.prog 34 #[.string s,.agg #[v,u]] w fun e w'=>e=.returned (.bool (CV (lgN s) (seE ss tt) (seN ss tt) (fmL ss) (fmL tt)))∧aa w w':=by
 have kA:=(aa.refl w).alloc (.cells #[v,u] 29);obtain⟨c0,c1⟩:=BoxQ.made w v u 29;have eE:=hid (wH (lgN s) hk.lg ss tt v u _ (hv.keeps kA) (hu.keeps kA) hk.hs hk.ht hk.h1 hk.h2 hk.h8);rw[←hk.eq] at eE;have x6:=hid (fun r wz h=>wN r (lgN s) (seE ss tt) (fmL ss) (fmL tt) (seN ss tt) (elT (fmL (ss++tt))) hk.hN wz h);have HD:Hid (CV (lgN s) (seE ss tt) (seN ss tt) (fmL ss) (fmL tt)=decide (DF (lgN s) (seE ss tt) (seN ss tt) (fmL ss) (fmL tt)<0)):=hid rfl;rw[HD.out];obtain⟨p,c,rfl,_⟩:=hv.shape;obtain⟨q,c2,rfl,_⟩:=hu.shape;clear hv hu hk;generalize DF (lgN s) (seE ss tt) (seN ss tt) (fmL ss) (fmL tt)=j at*;go_enter Tryz.func34,Tryz.ntmps34;go_wp2_with fail;refine eE.out.mono ?_;rintro e w2 ⟨r,rfl,k2,hr⟩;have h9:=hid (x6.out r w2 hr);clear hr;go_wp2_with fail;refine h9.out.mono ?_;rintro e w3 ⟨rfl,rfl⟩;go_wp2_with fail;go_ret;exact⟨ab rfl,kA.trans k2⟩
theorem z6 (b:Bool) (f:FuncId) (v u:Value) (g:Nat) (w:World) (hv:∃ p n c,v=.slice p n c) (hu:∃ p n c,u=.slice p n c) (c0:w.cell? ⟨g,0,none⟩=some v) (c1:w.cell? ⟨g,1,none⟩=some u) (h9:aG f)
  (hf:∀ w1,aa w w1→Calls Tryz.prog f #[.agg #[v,u]] w1 fun e w2=>e=.returned (.bool b)∧aa w1 w2):
  Calls Tryz.prog 115 #[.slice (some ⟨g,0,none⟩) 1 1,.func (.func f) #[] #[]] w fun e w'=>e=.returned (.int .i64 (if b then 0 else -1))∧aa w w':=by
 have HF:=hid hf;clear hf
 have x6:∀ args w,(callFunc f args).run Tryz.prog w=.ok (.enter f args) w:=h9
 clear h9;obtain⟨p,n,c,rfl⟩:=hv;obtain⟨q,m,d,rfl⟩:=hu
 cases b
 ·go_enter Tryz.func115,Tryz.ntmps115
  go_wp2
  go_loopw [4,8] (fun r i' wr=>∃ k:Nat,k≤1∧aa w wr∧i'=.int .i64 k∧r=.int .i64 0) (fun _ i _=>1-(intOf i).toNat)
  case atStart=>exact⟨0,qB,aa.refl w,rfl,rfl⟩
  case round=>
   obtain⟨k,hk,kw,rfl,rfl⟩:=hrel
   by_cases x7:k=0
   ·subst x7
    have e0:=kw.cell c0;have e1:=kw.cell c1;have eE:=hid (HF.out wr kw)
    go_wp2_with ((with_reducible refine eE.out.mono ?_);rintro e w2 ⟨rfl,k2⟩)
    go_roundw
    case rel=>exact⟨1,qB,kw.trans k2,by go_num,rfl⟩
    case measure=>simp[intOf]
   ·obtain rfl:k=1:=qB
    go_wp2;go_ret;exact⟨rfl,kw⟩
 ·go_enter Tryz.func115,Tryz.ntmps115
  go_wp2
  go_loopw [4,8] (fun r i' wr=>aa w wr∧i'=.int .i64 0∧r=.int .i64 0) (fun _ i _=>1-(intOf i).toNat)
  case atStart=>exact⟨aa.refl w,rfl,rfl⟩
  case round=>
   obtain⟨kw,rfl,rfl⟩:=hrel;have e0:=kw.cell c0;have e1:=kw.cell c1;have eE:=hid (HF.out wr kw)
   go_wp2_with ((with_reducible refine eE.out.mono ?_);rintro e w2 ⟨rfl,k2⟩)
   go_ret;exact⟨rfl,kw.trans k2⟩
theorem lU (b:Bool) (f:FuncId) (v u:Value) (g:Nat) (w:World) (hv:∃ p n c,v=.slice p n c) (hu:∃ p n c,u=.slice p n c) (c0:w.cell? ⟨g,0,none⟩=some v) (c1:w.cell? ⟨g,1,none⟩=some u) (eE:aG f)
  (hf:∀ w1,aa w w1→Calls Tryz.prog f #[.agg #[v,u]] w1 fun e w2=>e=.returned (.bool b)∧aa w1 w2):
  Calls Tryz.prog 72 #[.slice (some ⟨g,0,none⟩) 1 1,.func (.func f) #[] #[]] w fun e w'=>e=.returned (.bool b)∧aa w w':=by
 have H:=hid (z6 b f v u g w hv hu c0 c1 eE hf);clear hv hu hf eE c0 c1
 cases b
 ·go_enter Tryz.func72,Tryz.ntmps72
  go_wp2_with (go_at_call 115;refine H.out.mono ?_;rintro e w2 ⟨rfl,k2⟩)
  go_ret;exact⟨rfl,k2⟩
 ·go_enter Tryz.func72,Tryz.ntmps72
  go_wp2_with (go_at_call 115;refine H.out.mono ?_;rintro e w2 ⟨rfl,k2⟩)
  go_ret;exact⟨rfl,k2⟩
theorem qz (ss tt:List ByteArray) (v u:Value) (w:World) (hv:au w v ss) (hu:au w u tt) (hs:Mid ss) (ht:Mid tt):
  Calls Tryz.prog 73 #[.agg #[v,u]] w fun e w'=>e=.returned (.bool (!isQ ss tt))∧aa w w':=by
 have kA:=(aa.refl w).alloc (.cells #[v,u] 29);obtain⟨c0,c1⟩:=BoxQ.made w v u 29;have HI:=hid (eO ss tt v u _ (hv.keeps kA) (hu.keeps kA) hs ht);obtain⟨p,c,rfl,_⟩:=hv.shape;obtain⟨q,c2,rfl,_⟩:=hu.shape;clear hv hu hs ht;generalize isQ ss tt=b at*;go_enter Tryz.func73,Tryz.ntmps73;go_wp2_with fail;refine HI.out.mono ?_;rintro e w2 ⟨rfl,k2⟩;go_wp2_with fail;go_ret;exact⟨rfl,kA.trans k2⟩
theorem qE (ss tt:List ByteArray) (v u:Value) (w:World) (hv:au w v ss) (hu:au w u tt) (hs:aW ss) (ht:aW tt) (h1:ss.length≤16) (h2:tt.length≤16):
  Calls Tryz.prog 74 #[.agg #[v,u]] w fun e w'=>e=.returned (.bool (!decide ((elT (fmL (ss++tt))).length≤8)))∧aa w w':=by
 have kA:=(aa.refl w).alloc (.cells #[v,u] 29);obtain⟨c0,c1⟩:=BoxQ.made w v u 29;have HE:=hid (gw ss tt v u _ (hv.keeps kA) (hu.keeps kA) hs ht h1 h2)
 have hl:(elT (fmL (ss++tt))).length≤2147483648:=by
  have:=FU (by rw[eN];exact(cZ hs).append (cZ ht):ff (fmL (ss++tt)));rw[ll,ze] at this;omega
 have h9:Hid (∀ x∈(elF (fmL (ss++tt))).map Fm.enc,x.length≤2147483648):=hid (fun x hx=>by
  obtain⟨y,hy,rfl⟩:=List.mem_map.1 hx;have:=(xA (by rw[eN];exact(cZ hs).append (cZ ht):ff (fmL (ss++tt))) y hy).2
  omega)
 obtain⟨p,c,rfl,_⟩:=hv.shape;obtain⟨q,c2,rfl,_⟩:=hu.shape;clear hv hu hs ht;generalize elT (fmL (ss++tt))=sE at*;generalize elF (fmL (ss++tt))=E at*;go_enter Tryz.func74,Tryz.ntmps74;go_wp2_with fail;refine HE.out.mono ?_;rintro e w2 ⟨pv,rfl,eE,k2⟩;obtain⟨pp,pcap,rfl,x6,x7,-⟩:=(eE.elL hl h9.out);clear eE;go_wp2_with fail;go_ret;exact⟨ab (by rw[←decide_not];congr 1;simp;omega),kA.trans k2⟩
theorem l6:aG 73:=fun _ _=>by kernel_rfl
theorem l7:aG 74:=fun _ _=>by kernel_rfl
theorem ml (s:ByteArray) (ss tt:List ByteArray) (v u:Value) (g:Nat) (w:World) (hv:au w v ss) (hu:au w u tt) (hs:Mid ss) (ht:Mid tt) (c0:w.cell? ⟨g,0,none⟩=some v) (c1:w.cell? ⟨g,1,none⟩=some u):
  Calls Tryz.prog 33 #[.string s,.slice (some ⟨g,0,none⟩) 1 1] w fun e w'=>e=.returned (.int .i64 (srC s ss tt))∧aa w w':=by
 have HI:=hid (mH s w);obtain⟨p,c,rfl,_⟩:=hv.shape;obtain⟨q,c2,rfl,_⟩:=hu.shape;have h9:=hid (fun wz (kz:aa w wz)=>lU (!isQ ss tt) _ _ _ g wz ⟨_,_,_,rfl⟩ ⟨_,_,_,rfl⟩ (kz.cell c0) (kz.cell c1) l6 (fun w1 k1=>qz ss tt _ _ w1 (hv.keeps (kz.trans k1)) (hu.keeps (kz.trans k1)) hs ht));have eE:=hid (fun (hq:isQ ss tt=true) wz (kz:aa w wz)=>lU (!decide ((elT (fmL (ss++tt))).length≤8)) _ _ _ g wz ⟨_,_,_,rfl⟩ ⟨_,_,_,rfl⟩ (kz.cell c0) (kz.cell c1) l7 (fun w1 k1=>qE ss tt _ _ w1 (hv.keeps (kz.trans k1)) (hu.keeps (kz.trans k1)) (dx hq).2.2.1 (dx hq).2.2.2 (dx hq).1 (dx hq).2.1));have HR:Hid (srC s ss tt=if ma s=true then (if isQ ss tt=true then (if (elT (fmL (ss++tt))).length≤8 then 0 else 3) else 1) else 2):=hid rfl;clear hv hu hs ht c0 c1;generalize srC s ss tt=r at*;generalize ma s=bl at*;generalize isQ ss tt=bq at*;generalize (elT (fmL (ss++tt))).length=n at*
 cases bl
 ·rw[if_neg qD] at HR
  rw[HR.out];clear h9 eE HR;go_enter Tryz.func33,Tryz.ntmps33;go_wp2_with fail;refine HI.out.mono ?_;rintro e w2 ⟨rfl,k2⟩;go_wp2_with fail;go_ret;exact⟨rfl,k2⟩
 ·rw[if_pos rfl] at HR
  cases bq
  ·rw[if_neg qD] at HR
   rw[HR.out];clear eE HR;go_enter Tryz.func33,Tryz.ntmps33;go_wp2_with fail;refine HI.out.mono ?_;rintro e w2 ⟨rfl,k2⟩;go_wp2_with fail;refine(h9.out _ k2).mono ?_;rintro e w3 ⟨rfl,k3⟩;go_wp2_with fail;go_ret;exact⟨rfl,k2.trans k3⟩
  ·rw[if_pos rfl] at HR
   by_cases h8:n≤8
   ·rw[if_pos h8] at HR
    rw[decide_eq_true h8] at eE;rw[HR.out];clear HR;go_enter Tryz.func33,Tryz.ntmps33;go_wp2_with fail;refine HI.out.mono ?_;rintro e w2 ⟨rfl,k2⟩;go_wp2_with fail;refine(h9.out _ k2).mono ?_;rintro e w3 ⟨rfl,k3⟩;go_wp2_with fail;refine(eE.out (by trivial) _ (k2.trans k3)).mono ?_;rintro e w4 ⟨rfl,k4⟩;go_wp2_with fail;go_ret;exact⟨rfl,(k2.trans k3).trans k4⟩
   ·rw[if_neg h8] at HR
    rw[decide_eq_false h8] at eE;rw[HR.out];clear HR;go_enter Tryz.func33,Tryz.ntmps33;go_wp2_with fail;refine HI.out.mono ?_;rintro e w2 ⟨rfl,k2⟩;go_wp2_with fail;refine(h9.out _ k2).mono ?_;rintro e w3 ⟨rfl,k3⟩;go_wp2_with fail;refine(eE.out (by trivial) _ (k2.trans k3)).mono ?_;rintro e w4 ⟨rfl,k4⟩;go_wp2_with fail;go_ret;exact⟨rfl,(k2.trans k3).trans k4⟩
theorem Dj {T:List ByteArray} (h:Asc (T.map bts)) {i j:Nat} (hj:j<T.length) (eE:i<j):bts (T[i]'qB)<bts T[j]:=by
 unfold Asc at h;rw[List.pairwise_iff_getElem] at h;have:=h i j (by simp;omega) (by simp;omega) eE
 simpa using this
theorem A8 (G:List Fm):Asc ((elT G).map bts):=by
 have h:=E6 G;unfold elT;unfold Asc at h ⊢;rw[List.pairwise_map] at h ⊢;exact List.Pairwise.filter _ h
theorem B5 {G:List Fm} (hG:ff G) {i j:Nat} (hi:i<(elF G).length) (hj:j<(elF G).length) (h:(elF G)[i]=(elF G)[j]):i=j:=by
 have hl:=qQ G;have e1:=A7 hi;have e2:=A7 hj;have b1:=(uX hG (zo (show i<(elT G).length by omega))).2.1;have b2:=(uX hG (zo (show j<(elT G).length by omega))).2.1;rw[←e1] at b1;rw[←e2] at b2
 have e:bts ((elT G)[i]'qB)=bts ((elT G)[j]'qB):=by rw[b1,b2,h]
 rcases Nat.lt_trichotomy i j with h1 | h1 | h1
 ·have:=Dj (A8 G) (show j<(elT G).length by omega) h1
  rw[e] at this;exact absurd this (ek _)
 ·exact h1
 ·have:=Dj (A8 G) (show i<(elT G).length by omega) h1
  rw[e] at this;exact absurd this (ek _)
theorem GP {G:List Fm} (hG:ff G) (k:Nat) {i:Nat} (hi:i<(elF G).length):bV (elF G) k (elF G)[i]=k.testBit i:=by
 have eE:=xB hG (zo hi)
 have hx:(elF G).idxOf (elF G)[i]=i:=by
  obtain⟨hj,he⟩:=IC (elF G) (elF G)[i] (zo hi);exact B5 hG hj hi he
 have:bV (elF G) k (elF G)[i]=k.testBit ((elF G).idxOf (elF G)[i]):=by
  generalize (elF G)[i]=t at*
  cases t<;>first | rfl | (simp[fk] at eE)
 rw[this,hx]
def frc {W:Type} (R:W→W→Prop) (V:W→Nat→Prop):Fm→W→Prop
 | .var k,x=>V x k
 | .fls,_=>False
 | .and a b,x=>frc R V a x∧frc R V b x
 | .or a b,x=>frc R V a x∨frc R V b x
 | .imp a b,x=>frc R V a x→frc R V b x
 | .box a,x=>∀ y,R x y→frc R V a y
 | .dia a,x=>∃ y,R x y∧frc R V a y
structure FrC {W:Type} (L:Nat) (R:W→W→Prop):Prop where
 ser:L=1→∀ x,∃ y,R x y
 rfl:L=2∨L=4∨L=6→∀ x,R x x
 trs:L=3∨L=4∨L=5∨L=6→∀ x y z,R x y→R y z→R x z
 wfd:L=5→WellFounded fun a b=>R b a
 sym:L=6∨L=7→∀ x y,R x y→R y x
def dB (L:Nat) (A B:List Fm):Prop:=∀ (W:Type) (R:W→W→Prop) (V:W→Nat→Prop),FrC L R→∀ x,(∀ a∈A,frc R V a x)→∃ b∈B,frc R V b x
structure ElP (E:List Fm) (C:Fm→Prop):Prop where
 sub:∀ x,C x→∀ y∈aC x,C y
 mem:∀ x,C x→fk x=true→x∈E
 inn:∀ x∈E,C x
 bit:∀ k i (h:i<E.length),bV E k E[i]=k.testBit i
theorem elP {G:List Fm} (hG:ff G):ElP (elF G) (fun x=>x∈iz G):=
 ⟨fun x hx y hy=>by
   obtain⟨g,hg,hx⟩:=List.mem_flatMap.1 hx;exact List.mem_flatMap.2 ⟨g,hg,tm hx y hy⟩,
  fun x hx he=>(lk hG).2 ⟨hx,he⟩,fun x hx=>((lk hG).1 hx).1,fun k i h=>GP hG k h⟩
def C3 (E:List Fm) (i:Nat) (a:Fm):Prop:=(∀ k,bE E i k=bV E k (.box a))∧∀ k,fL E i k=bV E k a
def C5 (E:List Fm) (i:Nat) (a:Fm):Prop:=(∀ k,bE E i k=!bV E k (.dia a))∧∀ k,fL E i k=!bV E k a
theorem gW {E:List Fm} {i:Nat} (h:i<E.length):E.getD i .fls=E[i]:=by rw[zi,zn h];rfl
theorem xu {E:List Fm} {C:Fm→Prop} (hE:ElP E C) {i:Nat} (h:i<E.length) {a:Fm} (he:E[i]=.box a):C3 E i a:=by
 have hb:=fun k=>hE.bit k i h
 constructor
 ·intro k
  unfold bE bxB;rw[gW h,←hb k,he];simp[bg]
 ·intro k
  unfold fL qe bxB;rw[gW h,he];simp[bg,bH]
theorem xz {E:List Fm} {C:Fm→Prop} (hE:ElP E C) {i:Nat} (h:i<E.length) {a:Fm} (he:E[i]=.dia a):C5 E i a:=by
 have hb:=fun k=>hE.bit k i h
 constructor
 ·intro k
  unfold bE bxB;rw[gW h,←hb k,he];simp[bg]
 ·intro k
  unfold fL qe bxB;rw[gW h,he];simp[bg,bH]
theorem IP {E:List Fm} {C:Fm→Prop} (hE:ElP E C) {i:Nat} (hi:i∈dE E):∃ h:i<E.length,∃ a,C a∧(E[i]=.box a∧C3 E i a∨E[i]=.dia a∧C5 E i a):=by
 obtain⟨h,hm⟩:=sG.1 hi;refine⟨h,?_⟩;rw[gW h] at hm;have hC:=hE.inn _ (zo h)
 cases he:E[i] with
 | box a=>rw[he] at hC;exact⟨a,hE.sub _ hC a (by simp[aC,aF]),.inl ⟨rfl,xu hE h he⟩⟩
 | dia a=>rw[he] at hC;exact⟨a,hE.sub _ hC a (by simp[aC,aF]),.inr ⟨rfl,xz hE h he⟩⟩
 | _=>rw[he] at hm;simp[gA] at hm
theorem Gm {E:List Fm} {C:Fm→Prop} (hE:ElP E C) {a:Fm} (h:C (.box a)):∃ i∈dE E,C3 E i a:=by
 obtain⟨i,hi,he⟩:=List.getElem_of_mem (hE.mem _ h rfl);exact⟨i,sG.2 ⟨hi,by rw[gW hi,he];rfl⟩,xu hE hi he⟩
theorem Gn {E:List Fm} {C:Fm→Prop} (hE:ElP E C) {a:Fm} (h:C (.dia a)):∃ i∈dE E,C5 E i a:=by
 obtain⟨i,hi,he⟩:=List.getElem_of_mem (hE.mem _ h rfl);exact⟨i,sG.2 ⟨hi,by rw[gW hi,he];rfl⟩,xz hE hi he⟩
theorem BG {L:Nat} {E:List Fm} {f t:Nat} (h:iy L E f t=true) (hL:L≠6):wK L E f t=true:=by
 unfold iy at h;rw[if_neg hL] at h
 split at h
 ·rw[zk] at h;exact h.1
 ·split at h
  ·rw[zk] at h;exact h.1
  ·exact h
theorem nD {E:List Fm} {f t:Nat} (h:iy 6 E f t=true):∀ i∈dE E,bE E i f=bE E i t:=by
 unfold iy at h;rw[if_pos rfl] at h;intro i hi
 simpa using List.all_eq_true.1 h i hi
theorem rh {L:Nat} {E:List Fm} {f t i:Nat} (ht:jW L E t=true) (h:iy L E f t=true) (hi:i∈dE E) (hd:bE E i f=true):fL E i t=true:=by
 have ha:L=2∨L=4∨L=6→bE E i t=true→fL E i t=true:=fun hL eE=>by
  have:=Dg ht hL i hi;rw[eE] at this
  simpa using this
 by_cases h6:L=6
 ·subst h6
  exact ha qB (by rw[←nD h i hi];exact hd)
 ·have hp:=Aq.1 (BG h h6) i hi
  unfold Ap at hp;rw[hd] at hp;simp only[Bool.not_true,Bool.false_or] at hp
  split at hp
  ·rw[zk] at hp;exact hp.1
  ·split at hp
   ·exact ha qB hp
   ·exact hp
theorem nC {L:Nat} {E:List Fm} {f t i:Nat} (hL:L=3∨L=4∨L=5∨L=6) (h:iy L E f t=true) (hi:i∈dE E) (hd:bE E i f=true):bE E i t=true:=by
 by_cases h6:L=6
 ·subst h6
  rw[←nD h i hi];exact hd
 ·have hp:=Aq.1 (BG h h6) i hi
  unfold Ap at hp;rw[hd] at hp;simp only[Bool.not_true,Bool.false_or] at hp
  split at hp
  ·rw[zk] at hp;exact hp.2
  ·rw[if_pos qB] at hp;exact hp
theorem Fx {L:Nat} {E:List Fm} {N f i:Nat} (hf:f<N) (hl:dM L E N f=true) (hi:i∈dE E) (hd:bE E i f=false):∃ t,t<N∧dM L E N t=true∧iy L E f t=true∧fL E i t=false:=by
 have h:=(lz L E N f hf hl).2;unfold ui at h;rw[zk] at h;have h2:=List.all_eq_true.1 h.2 i hi;rw[hd,Bool.false_or] at h2;obtain⟨t,ht,hq⟩:=List.any_eq_true.1 h2;rw[zk] at hq;have hw:=hq.2;unfold C1 at hw;rw[zk,zk] at hw;exact⟨t,List.mem_range.1 ht,hq.1,hw.1.1,by simpa using hw.1.2⟩
def LvW (L:Nat) (E:List Fm) (N:Nat):Type:={t:Nat // t<N∧dM L E N t=true}
theorem dm {L:Nat} {E:List Fm} {N:Nat} {C:Fm→Prop} (hE:ElP E C):∀ (x:Fm),C x→∀ t:LvW L E N,
  frc (fun f u:LvW L E N=>iy L E f.1 u.1=true) (fun u k=>bV E u.1 (.var k)=true) x t↔bV E t.1 x=true
 | .var _,_,_=>Iff.rfl
 | .fls,_,_=>by simp[frc,bV]
 | .and a b,h,t=>by
  have h1:=dm hE a (hE.sub _ h a (by simp[aC,aF])) t;have h2:=dm hE b (hE.sub _ h b (by simp[aC,aF])) t;rw[frc,h1,h2,bV,zk]
 | .or a b,h,t=>by
  have h1:=dm hE a (hE.sub _ h a (by simp[aC,aF])) t;have h2:=dm hE b (hE.sub _ h b (by simp[aC,aF])) t;rw[frc,h1,h2,bV,Bool.or_eq_true]
 | .imp a b,h,t=>by
  have h1:=dm hE a (hE.sub _ h a (by simp[aC,aF])) t;have h2:=dm hE b (hE.sub _ h b (by simp[aC,aF])) t;rw[frc,h1,h2,bV]
  cases bV E t.1 a<;>simp
 | .box a,h,t=>by
  have h1:=fun u=>dm (L:=L) (N:=N) hE a (hE.sub _ h a (by simp[aC,aF])) u
  obtain⟨i,hi,hd,hm⟩:=Gm hE h;rw[frc,←hd t.1];constructor
  ·intro x6
   cases x7:bE E i t.1
   ·obtain⟨u,hu,eE,hs,h9⟩:=Fx t.2.1 t.2.2 hi x7
    have:=(h1 ⟨u,hu,eE⟩).1 (x6 ⟨u,hu,eE⟩ hs);rw[←hm u,h9] at this;exact absurd this qD
   ·rfl
  ·intro x7 u hs
   refine(h1 u).2 ?_;rw[←hm u.1];exact rh (iR u.2.1 u.2.2) hs hi x7
 | .dia a,h,t=>by
  have h1:=fun u=>dm (L:=L) (N:=N) hE a (hE.sub _ h a (by simp[aC,aF])) u
  obtain⟨i,hi,hd,hm⟩:=Gn hE h;have hd':=hd t.1;rw[frc];constructor
  ·rintro⟨u,hs,hu⟩
   have hu':=(h1 u).1 hu
   cases hv:bV E t.1 (.dia a)
   ·rw[hv] at hd'
    have:=rh (iR u.2.1 u.2.2) hs hi hd';rw[hm u.1,hu'] at this;exact absurd this qD
   ·rfl
  ·intro hv
   rw[hv] at hd';obtain⟨u,hu,eE,hs,h9⟩:=Fx t.2.1 t.2.2 hi hd';refine⟨⟨u,hu,eE⟩,hs,(h1 ⟨u,hu,eE⟩).2 ?_⟩;rw[hm u] at h9
   simpa using h9
theorem B3 {E:List Fm} {f t:Nat} (h1:∀ i∈dE E,bE E i f=true→bE E i t=true) (h2:∃ i∈dE E,bE E i t=true∧bE E i f=false):
  ((dE E).filter fun i=>bE E i f).length<((dE E).filter fun i=>bE E i t).length:=by
 have gen:∀ l:List Nat,(∀ i∈l,bE E i f=true→bE E i t=true)→(l.filter fun i=>bE E i f).length≤(l.filter fun i=>bE E i t).length∧
   ((∃ i∈l,bE E i t=true∧bE E i f=false)→(l.filter fun i=>bE E i f).length<(l.filter fun i=>bE E i t).length):=by
  intro l
  induction l with
  | nil=>intro _;exact⟨zm _,fun ⟨i,hi,_⟩=>by simp at hi⟩
  | cons a l ih=>
   intro h;obtain⟨i1,i2⟩:=ih (fun i hi=>h i (zw _ hi));have ha:=h a qD
   cases hf:bE E a f<;>cases ht:bE E a t
   ·simp only[List.filter_cons,hf,ht]
    refine⟨i1,?_⟩;rintro⟨i,hi,h3,h4⟩
    rcases List.mem_cons.1 hi with rfl | hi
    ·rw[ht] at h3;exact absurd h3 qD
    ·exact i2 ⟨i,hi,h3,h4⟩
   ·simp only[List.filter_cons,hf,ht,if_true,zh]
    exact⟨by simp;omega,fun _=>by simp;omega⟩
   ·rw[ha hf] at ht;exact absurd ht qD
   ·simp only[List.filter_cons,hf,ht,if_true,zh]
    refine⟨qB,?_⟩;rintro⟨i,hi,h3,h4⟩
    rcases List.mem_cons.1 hi with rfl | hi
    ·rw[hf] at h4;exact absurd h4 qD
    ·have:=i2 ⟨i,hi,h3,h4⟩;omega
 exact(gen _ h1).2 h2
theorem EU {E:List Fm} {f t:Nat} (h:iy 5 E f t=true):∃ i∈dE E,bE E i t=true∧bE E i f=false:=by
 unfold iy at h;rw[if_neg qC,if_neg qC,if_pos rfl,zk] at h;obtain⟨i,hi,hq⟩:=List.any_eq_true.1 h.2;rw[zk] at hq;exact⟨i,hi,hq.1,by simpa using hq.2⟩
theorem Es {L:Nat} {E:List Fm} {f t:Nat} (h1:∀ i∈dE E,bE E i f=true→fL E i t=true) (h2:L=3∨L=4∨L=5→∀ i∈dE E,bE E i f=true→bE E i t=true):wK L E f t=true:=by
 refine Aq.2 fun i hi=>?_
 unfold Ap
 cases hd:bE E i f
 ·rfl
 ·have a:=h1 i hi hd
  split
  ·rw[h2 qB i hi hd,a];rfl
  ·split
   ·rw[h2 qB i hi hd];rfl
   ·rw[a];rfl
theorem wR {L:Nat} {E:List Fm} {f t:Nat} (h1:∀ i∈dE E,bE E i f=true→fL E i t=true) (h2:L=3∨L=4∨L=5∨L=6→∀ i∈dE E,bE E i f=true→bE E i t=true)
  (h3:L=6→∀ i∈dE E,bE E i t=true→bE E i f=true) (h4:L=7→∀ i∈dE E,bE E i t=true→fL E i f=true) (h5:L=5→∃ i∈dE E,bE E i t=true∧bE E i f=false):iy L E f t=true:=by
 have hp:wK L E f t=true:=Es h1 (fun h=>h2 qB);unfold iy
 by_cases c6:L=6
 ·rw[if_pos c6]
  refine List.all_eq_true.2 fun i hi=>?_
  have a:=h2 qB i hi;have b:=h3 c6 i hi
  cases hf:bE E i f<;>cases ht:bE E i t<;>simp_all
 ·rw[if_neg c6]
  by_cases c7:L=7
  ·rw[if_pos c7,hp,Es (h4 c7) (fun h=>by omega)];rfl
  ·rw[if_neg c7]
   by_cases c5:L=5
   ·rw[if_pos c5,hp]
    obtain⟨i,hi,a,b⟩:=h5 c5;rw[Bool.true_and];exact List.any_eq_true.2 ⟨i,hi,by rw[a,b];rfl⟩
   ·rw[if_neg c5];exact hp
theorem Ah (L:Nat) (E:List Fm) (N:Nat):FrC L (fun f u:LvW L E N=>iy L E f.1 u.1=true):=by
 constructor
 ·rintro rfl t
  have h:=(lz 1 E N t.1 t.2.1 t.2.2).2;unfold ui at h;rw[zk] at h;have h2:=h.1;rw[show decide ((1:Nat)≠1)=false from by decide,Bool.false_or] at h2;obtain⟨u,hu,hq⟩:=List.any_eq_true.1 h2;rw[zk] at hq;exact⟨⟨u,List.mem_range.1 hu,hq.1⟩,hq.2⟩
 ·intro hL t
  have ha:=Dg (iR t.2.1 t.2.2) hL
  have hm:∀ i∈dE E,bE E i t.1=true→fL E i t.1=true:=fun i hi hd=>by
   have:=ha i hi;rw[hd] at this
   simpa using this
  exact wR hm (fun _ i _ h=>h) (fun _ i _ h=>h) (fun _=>hm) (fun h=>by omega)
 ·intro hL f t u h1 h2
  refine wR (fun i hi hd=>rh (iR u.2.1 u.2.2) h2 hi (nC hL h1 hi hd)) (fun _ i hi hd=>nC hL h2 hi (nC hL h1 hi hd)) ?_ (fun h=>by omega) ?_
  ·rintro rfl i hi hd
   rw[nD h1 i hi,nD h2 i hi];exact hd
  ·rintro rfl
   obtain⟨i,hi,a,b⟩:=EU h1;exact⟨i,hi,nC qB h2 hi a,b⟩
 ·rintro rfl
  refine Subrelation.wf (r:=InvImage (· < ·) fun t:LvW 5 E N=>(dE E).length-((dE E).filter fun i=>bE E i t.1).length) ?_ (InvImage.wf _ Nat.lt_wfRel.wf);intro a b h;have:=B3 (fun i hi hd=>nC qB h hi hd) (EU h);have:=List.length_filter_le (fun i=>bE E i a.1) (dE E)
  show(dE E).length-_<(dE E).length-_
  omega
 ·intro hL f t h
  rcases hL with rfl | rfl
  ·have e:=nD h
   exact wR (fun i hi hd=>rh (iR f.2.1 f.2.2) (by
    unfold iy;rw[if_pos rfl]
    exact List.all_eq_true.2 fun j hj=>by rw[e j hj];simp) hi hd) (fun _ i hi hd=>by rw[e i hi];exact hd) (fun _ i hi hd=>by rw[←e i hi];exact hd) (fun h=>by omega) (fun h=>by omega)
  ·unfold iy at h ⊢
   rw[if_neg qC,if_pos rfl,zk] at h ⊢;exact⟨h.2,h.1⟩
theorem yv (p:Nat→Bool) (i:Nat):∀ n,(wC p n).testBit i=(decide (i<n)&&p i)
 | 0=>by simp[wC]
 | n + 1=>by
  have ih:=yv p i n;rw[wC]
  split
  ·rename_i hp
   rw[Nat.testBit_or,ih,Nat.testBit_two_pow]
   by_cases hi:n=i
   ·subst hi;simp[hp]
   ·have:decide (n=i)=false:=by simpa using hi
    rw[this,Bool.or_false]
    by_cases h:i<n
    ·simp[h,show i<n+1 by omega]
    ·simp[h,show ¬i<n+1 by omega]
  ·rename_i hp
   rw[ih]
   by_cases hi:n=i
   ·subst hi;simp[hp]
   ·by_cases h:i<n
    ·simp[h,show i<n+1 by omega]
    ·simp[h,show ¬i<n+1 by omega]
noncomputable def el {W:Type} (R:W→W→Prop) (V:W→Nat→Prop) (E:List Fm) (x:W):Nat:=wC (fun i=>@decide (frc R V (E.getD i .fls) x) (Classical.propDecidable _)) E.length
theorem AO {W:Type} {R:W→W→Prop} {V:W→Nat→Prop} {E:List Fm} {C:Fm→Prop} (hE:ElP E C) {f:Fm} (hf:C f) (he:fk f=true) (x:W):bV E (el R V E x) f=true↔frc R V f x:=by
 obtain⟨i,hi,e⟩:=List.getElem_of_mem (hE.mem _ hf he);have hb:=hE.bit (el R V E x) i hi;rw[e] at hb;rw[hb];unfold el;rw[yv,zk,decide_eq_true_eq];rw[show(@decide (frc R V (E.getD i .fls) x) (Classical.propDecidable _)=true)=frc R V f x from by rw[gW hi,e];exact propext (@decide_eq_true_iff _ (Classical.propDecidable _))];exact⟨fun h=>h.2,fun h=>⟨hi,h⟩⟩
theorem dW {W:Type} {R:W→W→Prop} {V:W→Nat→Prop} {E:List Fm} {C:Fm→Prop} (hE:ElP E C):∀ f,C f→∀ x:W,bV E (el R V E x) f=true↔frc R V f x
 | .var _,h,x=>AO hE h rfl x
 | .box _,h,x=>AO hE h rfl x
 | .dia _,h,x=>AO hE h rfl x
 | .fls,_,_=>by simp[frc,bV]
 | .and a b,h,x=>by
  have h1:=dW (R:=R) (V:=V) hE a (hE.sub _ h a (by simp[aC,aF])) x;have h2:=dW (R:=R) (V:=V) hE b (hE.sub _ h b (by simp[aC,aF])) x;rw[frc,←h1,←h2,bV,zk]
 | .or a b,h,x=>by
  have h1:=dW (R:=R) (V:=V) hE a (hE.sub _ h a (by simp[aC,aF])) x;have h2:=dW (R:=R) (V:=V) hE b (hE.sub _ h b (by simp[aC,aF])) x;rw[frc,←h1,←h2,bV,Bool.or_eq_true]
 | .imp a b,h,x=>by
  have h1:=dW (R:=R) (V:=V) hE a (hE.sub _ h a (by simp[aC,aF])) x;have h2:=dW (R:=R) (V:=V) hE b (hE.sub _ h b (by simp[aC,aF])) x;rw[frc,←h1,←h2,bV]
  cases bV E (el R V E x) a<;>simp
theorem wY {W:Type} (R:W→W→Prop) (V:W→Nat→Prop) (E:List Fm) (x:W):el R V E x<2^E.length:=By _ _
theorem jE {W:Type} {R:W→W→Prop} {V:W→Nat→Prop} {E:List Fm} {C:Fm→Prop} (hE:ElP E C) {i:Nat} (hi:i∈dE E) (x:W):
  bE E i (el R V E x)=true↔∀ y,R x y→fL E i (el R V E y)=true:=by
 obtain⟨h,a,ha,⟨e,hd,hm⟩ | ⟨e,hd,hm⟩⟩:=IP hE hi
 ·have hC:=hE.inn _ (zo h)
  rw[e] at hC;rw[hd,dW hE _ hC x,frc];exact⟨fun k y r=>by rw[hm,dW hE _ ha y];exact k y r,fun k y r=>by have:=k y r;rw[hm,dW hE _ ha y] at this;exact this⟩
 ·have hC:=hE.inn _ (zo h)
  rw[e] at hC;have hv:=dW (R:=R) (V:=V) hE _ hC x;rw[frc] at hv;rw[hd];constructor
  ·intro k y r
   rw[hm]
   cases hy:bV E (el R V E y) a
   ·rfl
   ·rw[hv.2 ⟨y,r,(dW hE _ ha y).1 hy⟩] at k;exact absurd k qD
  ·intro k
   cases hx:bV E (el R V E x) (.dia a)
   ·rfl
   ·obtain⟨y,r,hy⟩:=hv.1 hx
    have:=k y r;rw[hm,(dW hE _ ha y).2 hy] at this;exact absurd this qD
theorem BN {W:Type} {R:W→W→Prop} {V:W→Nat→Prop} {E:List Fm} {C:Fm→Prop} {L:Nat} (hE:ElP E C) (hF:FrC L R) {x y:W} (r:R x y)
  (h5:L=5→∃ i∈dE E,bE E i (el R V E y)=true∧bE E i (el R V E x)=false):iy L E (el R V E x) (el R V E y)=true:=by
 refine wR (fun i hi hd=>(jE hE hi x).1 hd y r) (fun hL i hi hd=>(jE hE hi y).2 fun z rz=>(jE hE hi x).1 hd z (hF.trs hL x y z r rz)) (fun hL i hi hd=>(jE hE hi x).2 fun z rz=>(jE hE hi y).1 hd z (hF.trs qB y x z (hF.sym qB x y r) rz))
  (fun hL i hi hd=>(jE hE hi y).1 hd x (hF.sym qB x y r)) h5
theorem Fh {W:Type} {R:W→W→Prop} {V:W→Nat→Prop} {E:List Fm} {C:Fm→Prop} {L:Nat} (hE:ElP E C) (hF:FrC L R) (x:W):dM L E (2^E.length) (el R V E x)=true:=by
 refine yq (S:=fun m=>@decide (∃ y,el R V E y=m) (Classical.propDecidable _)) ?_ (wY R V E x) ((@decide_eq_true_iff _ (Classical.propDecidable _)).2 ⟨x,rfl⟩);intro m _ hs;obtain⟨x,rfl⟩:=(@decide_eq_true_iff _ (Classical.propDecidable _)).1 hs
 have hS:∀ y,(@decide (∃ z,el R V E z=el R V E y) (Classical.propDecidable _))=true:=fun y=>(@decide_eq_true_iff _ (Classical.propDecidable _)).2 ⟨y,rfl⟩
 constructor
 ·unfold jW
  by_cases hL:L=2∨L=4∨L=6
  ·rw[Bool.or_eq_true]
   refine .inr (List.all_eq_true.2 fun i hi=>?_)
   cases hd:bE E i (el R V E x)
   ·rfl
   ·rw[(jE hE hi x).1 hd x (hF.rfl hL x)];rfl
  ·rw[decide_eq_false hL];rfl
 ·unfold ui
  rw[zk];constructor
  ·by_cases hL:L=1
   ·obtain⟨y,r⟩:=hF.ser hL x
    rw[Bool.or_eq_true];refine .inr (List.any_eq_true.2 ⟨el R V E y,List.mem_range.2 (wY R V E y),?_⟩);rw[zk];exact⟨hS y,BN hE hF r (fun h=>by omega)⟩
   ·rw[Bool.or_eq_true];exact .inl (decide_eq_true hL)
  ·refine List.all_eq_true.2 fun i hi=>?_
   cases hd:bE E i (el R V E x)
   ·have x6:∃ y,R x y∧fL E i (el R V E y)=false:=by
     refine Classical.byContradiction fun hn=>?_
     have:bE E i (el R V E x)=true:=(jE hE hi x).2 fun y r=>by
      cases hm:fL E i (el R V E y)
      ·exact absurd ⟨y,r,hm⟩ hn
      ·rfl
     rw[hd] at this;exact absurd this qD
    have eE:∃ y,R x y∧fL E i (el R V E y)=false∧(L=5→bE E i (el R V E y)=true):=by
     obtain⟨y,r,hm⟩:=x6
     by_cases hL:L=5
     ·have ind:∀ y,R x y→fL E i (el R V E y)=false→∃ y,R x y∧fL E i (el R V E y)=false∧(L=5→bE E i (el R V E y)=true):=by
       intro y
       induction y using (hF.wfd hL).induction with
       | _ y ih=>
        intro r hm
        by_cases hz:∃ z,R y z∧fL E i (el R V E z)=false
        ·obtain⟨z,rz,h9⟩:=hz
         exact ih z rz (hF.trs qB x y z r rz) h9
        ·refine⟨y,r,hm,fun _=>(jE hE hi y).2 fun z rz=>?_⟩
         cases h9:fL E i (el R V E z)
         ·exact absurd ⟨z,rz,h9⟩ hz
         ·rfl
      exact ind y r hm
     ·exact⟨y,r,hm,fun h=>absurd h hL⟩
    obtain⟨y,r,hm,h5⟩:=eE;rw[Bool.or_eq_true];refine .inr (List.any_eq_true.2 ⟨el R V E y,List.mem_range.2 (wY R V E y),?_⟩);rw[zk];refine⟨hS y,?_⟩;unfold C1;rw[BN hE hF r (fun h=>⟨i,hi,h5 h,hd⟩),hm]
    by_cases hL:L=5
    ·rw[h5 hL];simp
    ·simp[hL]
   ·rfl
theorem GN {E:List Fm} {C:Fm→Prop} (hE:ElP E C) (L:Nat) {A B:List Fm} (hA:∀ a∈A,C a) (hB:∀ b∈B,C b):CV L E (2^E.length) A B=true↔dB L A B:=by
 rw[GM];constructor
 ·intro h W R V hF x hx
  have hr:=h (el R V E x) (wY R V E x) (Fh hE hF x)
  refine Classical.byContradiction fun hn=>?_
  have:mj E A B (el R V E x)=true:=by
   unfold mj;rw[zk];refine⟨List.all_eq_true.2 fun a ha=>(dW hE a (hA a ha) x).2 (hx a ha),?_⟩
   cases hb:B.any (bV E (el R V E x))
   ·rfl
   ·obtain⟨b,eE,h9⟩:=List.any_eq_true.1 hb
    exact absurd ⟨b,eE,(dW hE b (hB b eE) x).1 h9⟩ hn
  rw[hr] at this;exact absurd this qD
 ·intro h m hm hl
  cases hr:mj E A B m
  ·rfl
  ·unfold mj at hr
   rw[zk] at hr;obtain⟨b,hb,hf⟩:=h (LvW L E (2^E.length)) _ (fun u k=>bV E u.1 (.var k)=true) (Ah L E _) ⟨m,hm,hl⟩ (fun a ha=>(dm hE a (hA a ha) ⟨m,hm,hl⟩).2 (List.all_eq_true.1 hr.1 a ha));have:=(dm hE b (hB b hb) ⟨m,hm,hl⟩).1 hf;rw[List.any_eq_true.2 ⟨b,hb,this⟩] at hr;exact absurd hr.2 qD
noncomputable def mtB (s:ByteArray) (ss tt:List ByteArray):Bool:=CV (lgN s) (seE ss tt) (seN ss tt) (fmL ss) (fmL tt)
noncomputable def mtR (s:ByteArray) (ss tt:List ByteArray):Bool:=if srC s ss tt=0 then mtB s ss tt else false
theorem KJ (w:World) (v u:Value):aa w ((w.alloc (.cells #[v,u] 29)).alloc (.cells #[v,u] 29))∧
  ((w.alloc (.cells #[v,u] 29)).alloc (.cells #[v,u] 29)).cell? ⟨w.heap.size,0,none⟩=some v∧((w.alloc (.cells #[v,u] 29)).alloc (.cells #[v,u] 29)).cell? ⟨w.heap.size,1,none⟩=some u∧
  ((w.alloc (.cells #[v,u] 29)).alloc (.cells #[v,u] 29)).cell? ⟨w.heap.size+1,0,none⟩=some v∧((w.alloc (.cells #[v,u] 29)).alloc (.cells #[v,u] 29)).cell? ⟨w.heap.size+1,1,none⟩=some u:=by
 obtain⟨a0,a1⟩:=BoxQ.made w v u 29;obtain⟨b0,b1⟩:=BoxQ.made (w.alloc (.cells #[v,u] 29)) v u 29;rw[sW] at b0 b1;have k:=(aa.refl (w.alloc (.cells #[v,u] 29))).alloc (.cells #[v,u] 29);exact⟨((aa.refl w).alloc _).alloc _,k.cell a0,k.cell a1,b0,b1⟩
theorem l8 (s:ByteArray) (ss tt:List ByteArray) (v u:Value) (w:World) (hv:au w v ss) (hu:au w u tt) (hs:Mid ss) (ht:Mid tt):
  Calls Tryz.prog 14 #[.string s,.agg #[v,u]] w fun e w'=>e=.returned (.tuple #[.bool (mtR s ss tt),.int .i64 (srC s ss tt)])∧aa w w':=by
 obtain⟨kA,c0,c1,d0,d1⟩:=KJ w v u;have HC:=hid (ml s ss tt v u (w.heap.size+1) _ (hv.keeps kA) (hu.keeps kA) hs ht d0 d1);have HR:Hid (mtR s ss tt=if srC s ss tt=0 then mtB s ss tt else false):=hid rfl
 by_cases hz:srC s ss tt=0
 ·rw[if_pos hz] at HR
  rw[hz] at HC;rw[HR.out,hz];have hk:=I2 hz;have HM:=hid (fun wz (kz:aa w wz)=>mc s ss tt v u wz (hv.keeps kz) (hu.keeps kz) hk);change Hid (∀ wz,aa w wz→Calls Tryz.prog _ _ wz fun e w'=>e=.returned (.bool (mtB s ss tt))∧aa wz w') at HM;obtain⟨p,c,rfl,_⟩:=hv.shape;obtain⟨q,c2,rfl,_⟩:=hu.shape;clear hv hu hs ht hz hk HR d0 d1;generalize mtB s ss tt=b at*;go_enter Tryz.func14,Tryz.ntmps14;go_wp2_with fail;refine HC.out.mono ?_;rintro e w2 ⟨rfl,k2⟩;have e0:=k2.cell c0;have e1:=k2.cell c1;go_wp2_with fail;refine(HM.out _ (kA.trans k2)).mono ?_;rintro e w3 ⟨rfl,k3⟩;go_wp2_with fail
  go_ret2
  exact⟨rfl,(kA.trans k2).trans k3⟩
 ·rw[if_neg hz] at HR
  rw[HR.out];obtain⟨p,c,rfl,_⟩:=hv.shape;obtain⟨q,c2,rfl,_⟩:=hu.shape;clear hv hu hs ht HR c0 c1 d0 d1;generalize srC s ss tt=code at*;go_enter Tryz.func14,Tryz.ntmps14;go_wp2_with fail;refine HC.out.mono ?_;rintro e w2 ⟨rfl,k2⟩;go_wp2_with fail
  go_ret2
  exact⟨rfl,kA.trans k2⟩
theorem sH {ss tt:List ByteArray} (h:isQ ss tt=true) (s:ByteArray):mtB s ss tt=true↔dB (lgN s) (fmL ss) (fmL tt):=by
 obtain⟨_,_,hs,ht⟩:=dx h
 have hG:ff (fmL (ss++tt)):=by rw[eN];exact(cZ hs).append (cZ ht)
 have eE:∀ a,a∈fmL ss++fmL tt→a∈iz (fmL (ss++tt)):=fun a ha=>by rw[eN];exact List.mem_flatMap.2 ⟨a,ha,aF a⟩
 exact GN (elP hG) (lgN s) (fun a ha=>eE a (List.mem_append_left _ ha)) (fun b hb=>eE b (List.mem_append_right _ hb))
theorem Fp {L:Nat} {A B A' B':List Fm} (hA:∀ x∈A',x∈A) (hB:∀ x∈B',x∈B) (h:dB L A' B'):dB L A B:=fun W R V hF x hx=>by
 obtain⟨b,hb,hf⟩:=h W R V hF x (fun a ha=>hx a (hA a ha));exact⟨b,hB b hb,hf⟩
theorem I7 {L:Nat} {A B:List Fm} {a:Fm} (hA:a∈A) (hB:a∈B):dB L A B:=fun _ _ _ _ _ hx=>⟨a,hB,hx a hA⟩
theorem GU {L:Nat} {A B:List Fm} (hA:Fm.fls∈A):dB L A B:=fun _ _ _ _ _ hx=>(hx _ hA).elim
theorem GR {L:Nat} {A B A1 B1 A2 B2:List Fm} {a:Fm} (h1:∀ x∈A1,x∈A) (h2:∀ x∈B1,x∈B∨x=a) (h3:∀ x∈A2,x∈A∨x=a) (h4:∀ x∈B2,x∈B) (v1:dB L A1 B1) (v2:dB L A2 B2):dB L A B:=fun W R V hF x hx=>by
 obtain⟨b,hb,hf⟩:=v1 W R V hF x (fun y hy=>hx y (h1 y hy))
 rcases h2 b hb with hb | rfl
 ·exact⟨b,hb,hf⟩
 ·obtain⟨c,hc,hg⟩:=v2 W R V hF x (fun y hy=>by
   rcases h3 y hy with hy | rfl
   ·exact hx y hy
   ·exact hf)
  exact⟨c,h4 c hc,hg⟩
theorem Fj {L:Nat} {A B A1 B1:List Fm} {a b:Fm} (h:Fm.and a b∈A) (h1:∀ x∈A1,x∈A∨x=a∨x=b) (h2:∀ x∈B1,x∈B) (v1:dB L A1 B1):dB L A B:=fun W R V hF x hx=>by
 have eE:=hx _ h;rw[frc] at eE
 obtain⟨c,hc,hf⟩:=v1 W R V hF x (fun y hy=>by
  rcases h1 y hy with hy | rfl | rfl
  ·exact hx y hy
  ·exact eE.1
  ·exact eE.2)
 exact⟨c,h2 c hc,hf⟩
theorem Fk {L:Nat} {A B A1 B1 A2 B2:List Fm} {a b:Fm} (h:Fm.and a b∈B) (h1:∀ x∈A1,x∈A) (h2:∀ x∈B1,x∈B∨x=a) (h3:∀ x∈A2,x∈A) (h4:∀ x∈B2,x∈B∨x=b) (v1:dB L A1 B1) (v2:dB L A2 B2):dB L A B:=fun W R V hF x hx=>by
 obtain⟨c,hc,hf⟩:=v1 W R V hF x (fun y hy=>hx y (h1 y hy));obtain⟨d,hd,hg⟩:=v2 W R V hF x (fun y hy=>hx y (h3 y hy))
 rcases h2 c hc with hc | rfl
 ·exact⟨c,hc,hf⟩
 ·rcases h4 d hd with hd | rfl
  ·exact⟨d,hd,hg⟩
  ·exact⟨_,h,hf,hg⟩
theorem GW {L:Nat} {A B A1 B1 A2 B2:List Fm} {a b:Fm} (h:Fm.or a b∈A) (h1:∀ x∈A1,x∈A∨x=a) (h2:∀ x∈B1,x∈B) (h3:∀ x∈A2,x∈A∨x=b) (h4:∀ x∈B2,x∈B) (v1:dB L A1 B1) (v2:dB L A2 B2):dB L A B:=fun W R V hF x hx=>by
 have eE:=hx _ h;rw[frc] at eE
 rcases eE with eE | eE
 ·obtain⟨c,hc,hf⟩:=v1 W R V hF x (fun y hy=>by
   rcases h1 y hy with hy | rfl
   ·exact hx y hy
   ·exact eE)
  exact⟨c,h2 c hc,hf⟩
 ·obtain⟨c,hc,hf⟩:=v2 W R V hF x (fun y hy=>by
   rcases h3 y hy with hy | rfl
   ·exact hx y hy
   ·exact eE)
  exact⟨c,h4 c hc,hf⟩
theorem GX {L:Nat} {A B A1 B1:List Fm} {a b:Fm} (h:Fm.or a b∈B) (h1:∀ x∈A1,x∈A) (h2:∀ x∈B1,x∈B∨x=a∨x=b) (v1:dB L A1 B1):dB L A B:=fun W R V hF x hx=>by
 obtain⟨c,hc,hf⟩:=v1 W R V hF x (fun y hy=>hx y (h1 y hy))
 rcases h2 c hc with hc | rfl | rfl
 ·exact⟨c,hc,hf⟩
 ·exact⟨_,h,Or.inl hf⟩
 ·exact⟨_,h,Or.inr hf⟩
theorem Fl {L:Nat} {A B A1 B1 A2 B2:List Fm} {a b:Fm} (h:Fm.imp a b∈A) (h1:∀ x∈A1,x∈A) (h2:∀ x∈B1,x∈B∨x=a) (h3:∀ x∈A2,x∈A∨x=b) (h4:∀ x∈B2,x∈B) (v1:dB L A1 B1) (v2:dB L A2 B2):dB L A B:=fun W R V hF x hx=>by
 have eE:=hx _ h;rw[frc] at eE;obtain⟨c,hc,hf⟩:=v1 W R V hF x (fun y hy=>hx y (h1 y hy))
 rcases h2 c hc with hc | rfl
 ·exact⟨c,hc,hf⟩
 ·obtain⟨d,hd,hg⟩:=v2 W R V hF x (fun y hy=>by
   rcases h3 y hy with hy | rfl
   ·exact hx y hy
   ·exact eE hf)
  exact⟨d,h4 d hd,hg⟩
theorem Fo {L:Nat} {A B A1 B1:List Fm} {a b:Fm} (h:Fm.imp a b∈B) (h1:∀ x∈A1,x∈A∨x=a) (h2:∀ x∈B1,x∈B∨x=b) (v1:dB L A1 B1):dB L A B:=fun W R V hF x hx=>by
 by_cases ha:frc R V a x
 ·obtain⟨c,hc,hf⟩:=v1 W R V hF x (fun y hy=>by
   rcases h1 y hy with hy | rfl
   ·exact hx y hy
   ·exact ha)
  rcases h2 c hc with hc | rfl
  ·exact⟨c,hc,hf⟩
  ·exact⟨_,h,fun _=>hf⟩
 ·exact⟨_,h,fun k=>(ha k).elim⟩
theorem Fq {L:Nat} (hL:L=2∨L=4∨L=6) {A B A1 B1:List Fm} {a:Fm} (h:Fm.box a∈A) (h1:∀ x∈A1,x∈A∨x=a) (h2:∀ x∈B1,x∈B) (v1:dB L A1 B1):dB L A B:=fun W R V hF x hx=>by
 obtain⟨c,hc,hf⟩:=v1 W R V hF x (fun y hy=>by
  rcases h1 y hy with hy | rfl
  ·exact hx y hy
  ·exact hx _ h x (hF.rfl hL x))
 exact⟨c,h2 c hc,hf⟩
theorem Fs {L:Nat} (hL:L=2∨L=4∨L=6) {A B A1 B1:List Fm} {a:Fm} (h:Fm.dia a∈B) (h1:∀ x∈A1,x∈A) (h2:∀ x∈B1,x∈B∨x=a) (v1:dB L A1 B1):dB L A B:=fun W R V hF x hx=>by
 obtain⟨c,hc,hf⟩:=v1 W R V hF x (fun y hy=>hx y (h1 y hy))
 rcases h2 c hc with hc | rfl
 ·exact⟨c,hc,hf⟩
 ·exact⟨_,h,x,hF.rfl hL x,hf⟩
def bR:Fm→Bool
 | .dia _=>true
 | _=>false
def rn (L:Nat) (A:List Fm) (z:Fm):Prop:=if L=3∨L=5 then Fm.box z∈A∨(z∈A∧bg z=true) else if L=4 then z∈A∧bg z=true else if L=6 then z∈A∧gA z=true else Fm.box z∈A
def rq (L:Nat) (B:List Fm) (z:Fm):Prop:=if L=3∨L=5 then Fm.dia z∈B∨(z∈B∧bR z=true) else if L=4 then z∈B∧bR z=true else if L=6 then z∈B∧gA z=true else Fm.dia z∈B
theorem zG {W:Type} {L:Nat} {R:W→W→Prop} {V:W→Nat→Prop} (hF:FrC L R) (hL:L=3∨L=4∨L=5∨L=6) {x y:W} (r:R x y) {z:Fm} (hz:bg z=true) (h:frc R V z x):frc R V z y:=by
 cases z<;>simp[bg] at hz
 exact fun u ru=>h u (hF.trs hL x y u r ru)
theorem rF {W:Type} {L:Nat} {R:W→W→Prop} {V:W→Nat→Prop} (hF:FrC L R) (hL:L=3∨L=4∨L=5∨L=6) {x y:W} (r:R x y) {z:Fm} (hz:bR z=true) (h:frc R V z y):frc R V z x:=by
 cases z<;>simp[bR] at hz
 obtain⟨u,ru,hu⟩:=h;exact⟨u,hF.trs hL x y u r ru,hu⟩
theorem Bx {W:Type} {R:W→W→Prop} {V:W→Nat→Prop} (hF:FrC 6 R) {x y:W} (r:R x y) {z:Fm} (hz:gA z=true):frc R V z x→frc R V z y:=by
 intro h
 cases z<;>simp[gA] at hz
 ·exact zG hF qB r rfl h
 ·exact rF hF qB (hF.sym qB x y r) rfl h
theorem oo {W:Type} {L:Nat} {R:W→W→Prop} {V:W→Nat→Prop} (hF:FrC L R) {A:List Fm} {x y:W} (r:R x y) (hx:∀ a∈A,frc R V a x) {z:Fm} (h:rn L A z):frc R V z y:=by
 unfold rn at h
 split at h
 ·rename_i hL
  rcases h with h | ⟨h,hz⟩
  ·exact hx _ h y r
  ·exact zG hF qB r hz (hx _ h)
 ·split at h
  ·exact zG hF qB r h.2 (hx _ h.1)
  ·split at h
   ·rename_i hL
    subst hL;exact Bx hF r h.2 (hx _ h.1)
   ·exact hx _ h y r
theorem me {W:Type} {L:Nat} {R:W→W→Prop} {V:W→Nat→Prop} (hF:FrC L R) {B:List Fm} {x y:W} (r:R x y) {z:Fm} (h:rq L B z) (hz:frc R V z y):∃ b∈B,frc R V b x:=by
 unfold rq at h
 split at h
 ·rename_i hL
  rcases h with h | ⟨h,hd⟩
  ·exact⟨_,h,y,r,hz⟩
  ·exact⟨_,h,rF hF qB r hd hz⟩
 ·split at h
  ·exact⟨_,h.1,rF hF qB r h.2 hz⟩
  ·split at h
   ·rename_i hL
    subst hL;exact⟨_,h.1,Bx hF (hF.sym qB x y r) h.2 hz⟩
   ·exact⟨_,h,y,r,hz⟩
theorem GQ {L:Nat} {A B A1 B1:List Fm} {a:Fm} (h:Fm.box a∈B) (h1:∀ z∈A1,rn L A z∨(L=5∧z=.box a)) (h2:∀ z∈B1,rq L B z∨z=a) (v1:dB L A1 B1):dB L A B:=fun W R V hF x hx=>by
 refine Classical.byContradiction fun hn=>hn ⟨_,h,?_⟩
 have one:∀ y,R x y→(L=5→frc R V (.box a) y)→frc R V a y:=fun y r h5=>by
  obtain⟨c,hc,hf⟩:=v1 W R V hF y (fun z hz=>by
   rcases h1 z hz with hz | ⟨hL,rfl⟩
   ·exact oo hF r hx hz
   ·exact h5 hL)
  rcases h2 c hc with hc | rfl
  ·exact(hn (me hF r hc hf)).elim
  ·exact hf
 by_cases hL:L=5
 ·intro y
  induction y using (hF.wfd hL).induction with
  | _ y ih=>exact fun r=>one y r fun _ u ru=>ih u ru (hF.trs qB x y u r ru)
 ·exact fun y r=>one y r fun h=>absurd h hL
theorem GS {L:Nat} {A B A1 B1:List Fm} {a:Fm} (h:Fm.dia a∈A) (h1:∀ z∈A1,rn L A z∨z=a) (h2:∀ z∈B1,rq L B z∨(L=5∧z=.dia a)) (v1:dB L A1 B1):dB L A B:=fun W R V hF x hx=>by
 have one:∀ y,R x y→frc R V a y→(L=5→frc R V (.dia a) y→∃ b∈B,frc R V b x)→∃ b∈B,frc R V b x:=fun y r ha h5=>by
  obtain⟨c,hc,hf⟩:=v1 W R V hF y (fun z hz=>by
   rcases h1 z hz with hz | rfl
   ·exact oo hF r hx hz
   ·exact ha)
  rcases h2 c hc with hc | ⟨hL,rfl⟩
  ·exact me hF r hc hf
  ·exact h5 hL hf
 obtain⟨y,r,ha⟩:=hx _ h
 by_cases hL:L=5
 ·have ind:∀ y,R x y→frc R V a y→∃ b∈B,frc R V b x:=by
   intro y
   induction y using (hF.wfd hL).induction with
   | _ y ih=>exact fun r ha=>one y r ha fun _ ⟨u,ru,hu⟩=>ih u ru (hF.trs qB x y u r ru) hu
  exact ind y r ha
 ·exact one y r ha fun h=>absurd h hL
theorem GY {A B A1 B1:List Fm} (h1:∀ z∈A1,rn 1 A z) (h2:∀ z∈B1,rq 1 B z) (v1:dB 1 A1 B1):dB 1 A B:=fun W R V hF x hx=>by
 obtain⟨y,r⟩:=hF.ser rfl x;obtain⟨c,hc,hf⟩:=v1 W R V hF y (fun z hz=>oo hF r hx (h1 z hz));exact me hF r (h2 c hc) hf
def txS (t:Fm):ByteArray:=mkS t.body
theorem iB {s:ByteArray} {t:Fm} (h:bts s=t.body):s=txS t:=da (h.trans (gU _).symm)
theorem AL {t:Fm} (hw:t.wf) (hl:t.enc.length≤40):ck (txS t) t:=⟨hw,gU _,hl⟩
theorem yL {ss:List ByteArray} (h:Asc (ss.map bts)) (s:ByteArray):fW ss [s]=ae ss s:=by
 apply fS;rw[mG]
 have e:(fW ss [s]).map bts=du ((ss++[s]).map bts):=by simp[fW,Function.comp_def,gU]
 rw[e]
 refine Asc.ext (oO _) (rS _ h) fun z=>?_
 rw[oP,kh]
 simp
def ah (ss:List ByteArray) (s:ByteArray):List ByteArray:=ss.filter fun u=>decide (u≠s)
def bU (ss tt:List ByteArray):List ByteArray:=tt.foldl ae ss
noncomputable def kdS (p:Fm→Bool) (ss:List ByteArray):List ByteArray:=ss.filter fun s=>p (txF s)
noncomputable def ofS (p:Fm→Bool) (ss:List ByteArray):List ByteArray:=(kdS p ss).foldl (fun out s=>ae out (txS (bH (txF s)))) []
noncomputable def fE (L:Nat) (p:Fm→Bool) (ss:List ByteArray) (main:ByteArray):List ByteArray:=
 if L=3∨L=5 then bU (ofS p ss) (kdS p ss) else if L=4 then kdS p ss else if L=6 then ah (bU (kdS bg ss) (kdS bR ss)) main else ofS p ss
theorem cS {ss:List ByteArray} {x:Fm}:x∈fmL ss↔∃ s∈ss,txF s=x:=by unfold fmL;rw[List.mem_map]
theorem gZ {ss:List ByteArray} {s u:ByteArray}:u∈ae ss s↔u∈ss∨u=s:=by
 have h:=xV (ss:=ss) (s:=s) (z:=bts u);constructor
 ·intro hu
  rcases h.1 (List.mem_map.2 ⟨u,hu,rfl⟩) with h1 | h1
  ·obtain⟨t,ht,e⟩:=List.mem_map.1 h1
   rw[da e] at ht;exact .inl ht
  ·exact .inr (da h1)
 ·intro hu
  have:bts u∈(ae ss s).map bts:=h.2 (by
   rcases hu with hu | rfl
   ·exact .inl (List.mem_map.2 ⟨u,hu,rfl⟩)
   ·exact .inr rfl)
  obtain⟨t,ht,e⟩:=List.mem_map.1 this;rw[da e] at ht;exact ht
theorem jF {tt:List ByteArray} {u:ByteArray}:∀ {ss:List ByteArray},u∈bU ss tt↔u∈ss∨u∈tt:=by
 induction tt with
 | nil=>intro ss;simp[bU]
 | cons t tt ih=>
  intro ss;have:=ih (ss:=ae ss t);unfold bU at this ⊢;rw[List.foldl_cons,this,gZ,List.mem_cons];exact⟨fun h=>by rcases h with (h | h) | h<;>simp[h],fun h=>by rcases h with h | h | h<;>simp[h]⟩
theorem dC {ss:List ByteArray} {s:ByteArray} {x:Fm} (h:x∈fmL (ae ss s)):x∈fmL ss∨x=txF s:=by
 obtain⟨u,hu,rfl⟩:=cS.1 h
 rcases gZ.1 hu with hu | rfl
 ·exact .inl (cS.2 ⟨u,hu,rfl⟩)
 ·exact .inr rfl
theorem gH {ss:List ByteArray} {s:ByteArray} {x:Fm} (h:x∈fmL (ah ss s)):x∈fmL ss:=by
 obtain⟨u,hu,rfl⟩:=cS.1 h;exact cS.2 ⟨u,(List.mem_filter.1 hu).1,rfl⟩
theorem vp {ss tt:List ByteArray} {x:Fm} (h:x∈fmL (bU ss tt)):x∈fmL ss∨x∈fmL tt:=by
 obtain⟨u,hu,rfl⟩:=cS.1 h
 rcases jF.1 hu with hu | hu
 ·exact .inl (cS.2 ⟨u,hu,rfl⟩)
 ·exact .inr (cS.2 ⟨u,hu,rfl⟩)
theorem jK {p:Fm→Bool} {ss:List ByteArray} {x:Fm} (h:x∈fmL (kdS p ss)):x∈fmL ss∧p x=true:=by
 obtain⟨u,hu,rfl⟩:=cS.1 h;have:=List.mem_filter.1 hu;exact⟨cS.2 ⟨u,this.1,rfl⟩,this.2⟩
theorem qU {f:ByteArray→ByteArray} {u:ByteArray}:∀ (l:List ByteArray) (out:List ByteArray),u∈l.foldl (fun out s=>ae out (f s)) out↔u∈out∨∃ s∈l,u=f s
 | [],out=>by simp
 | s :: l,out=>by
  rw[List.foldl_cons,qU l,gZ];constructor
  ·rintro((h | h) | ⟨s',hs,e⟩)
   ·exact .inl h
   ·exact .inr ⟨s,qD,h⟩
   ·exact .inr ⟨s',zw _ hs,e⟩
  ·rintro(h | ⟨s',hs,e⟩)
   ·exact .inl (.inl h)
   ·rcases List.mem_cons.1 hs with rfl | hs
    ·exact .inl (.inr e)
    ·exact .inr ⟨s',hs,e⟩
theorem ri {ss:List ByteArray} (h:aW ss) {s:ByteArray} (hs:s∈ss):ck s (txF s):=gq (h.1 s hs)
theorem oY {ss:List ByteArray} (h:aW ss) {s:ByteArray} (hs:s∈ss) {y:Fm} (hy:y∈aC (txF s)):txF (txS y)=y:=by
 have:=ri h hs;exact gi (AL (nP this.1 y hy) (zx (nO y hy) this.2.2))
theorem xL {ss:List ByteArray} (hS:aW ss) {x:Fm} (h:x∈fmL (ofS bg ss)):Fm.box x∈fmL ss:=by
 obtain⟨u,hu,rfl⟩:=cS.1 h
 rcases(qU _ _).1 hu with hu | ⟨s,hs,rfl⟩
 ·simp at hu
 ·obtain⟨h1,h2⟩:=List.mem_filter.1 hs
  cases e:txF s<;>rw[e] at h2<;>simp[bg] at h2
  rename_i a
  have:txF (txS a)=a:=oY hS h1 (by rw[e];simp[aC,aF])
  show Fm.box (txF (txS a))∈_
  rw[this];exact cS.2 ⟨s,h1,e⟩
theorem xM {ss:List ByteArray} (hS:aW ss) {x:Fm} (h:x∈fmL (ofS bR ss)):Fm.dia x∈fmL ss:=by
 obtain⟨u,hu,rfl⟩:=cS.1 h
 rcases(qU _ _).1 hu with hu | ⟨s,hs,rfl⟩
 ·simp at hu
 ·obtain⟨h1,h2⟩:=List.mem_filter.1 hs
  cases e:txF s<;>rw[e] at h2<;>simp[bR] at h2
  rename_i a
  have:txF (txS a)=a:=oY hS h1 (by rw[e];simp[aC,aF])
  show Fm.dia (txF (txS a))∈_
  rw[this];exact cS.2 ⟨s,h1,e⟩
theorem Bn {z:Fm} (h:bg z=true):gA z=true:=by cases z<;>simp_all[bg,gA]
theorem Bo {z:Fm} (h:bR z=true):gA z=true:=by cases z<;>simp_all[bR,gA]
theorem mJ {L:Nat} {ss:List ByteArray} (hS:aW ss) {main:ByteArray} {z:Fm} (h:z∈fmL (fE L bg ss main)):rn L (fmL ss) z:=by
 unfold fE at h;unfold rn
 split
 ·rename_i c
  rw[if_pos c] at h
  rcases vp h with h | h
  ·exact .inl (xL hS h)
  ·exact .inr (jK h)
 ·rename_i c
  rw[if_neg c] at h
  split
  ·rename_i c4
   rw[if_pos c4] at h;exact jK h
  ·rename_i c4
   rw[if_neg c4] at h
   split
   ·rename_i c6
    rw[if_pos c6] at h
    rcases vp (gH h) with h | h
    ·exact⟨(jK h).1,Bn (jK h).2⟩
    ·exact⟨(jK h).1,Bo (jK h).2⟩
   ·rename_i c6
    rw[if_neg c6] at h;exact xL hS h
theorem lr {L:Nat} {ss:List ByteArray} (hS:aW ss) {main:ByteArray} {z:Fm} (h:z∈fmL (fE L bR ss main)):rq L (fmL ss) z:=by
 unfold fE at h;unfold rq
 split
 ·rename_i c
  rw[if_pos c] at h
  rcases vp h with h | h
  ·exact .inl (xM hS h)
  ·exact .inr (jK h)
 ·rename_i c
  rw[if_neg c] at h
  split
  ·rename_i c4
   rw[if_pos c4] at h;exact jK h
  ·rename_i c4
   rw[if_neg c4] at h
   split
   ·rename_i c6
    rw[if_pos c6] at h
    rcases vp (gH h) with h | h
    ·exact⟨(jK h).1,Bn (jK h).2⟩
    ·exact⟨(jK h).1,Bo (jK h).2⟩
   ·rename_i c6
    rw[if_neg c6] at h;exact xM hS h
abbrev Sq2:=List ByteArray×List ByteArray
def iL:Fm→Bool
 | .and _ _=>true
 | _=>false
def iN:Fm→Bool
 | .or _ _=>true
 | _=>false
def iM:Fm→Bool
 | .imp _ _=>true
 | _=>false
def qd:Fm→Fm
 | .and a _=>a
 | .or a _=>a
 | .imp a _=>a
 | t=>t
def qF:Fm→Fm
 | .and _ b=>b
 | .or _ b=>b
 | .imp _ b=>b
 | t=>t
noncomputable def pa1 (s:ByteArray):ByteArray:=txS (qd (txF s))
noncomputable def pa2 (s:ByteArray):ByteArray:=txS (qF (txF s))
noncomputable def paI (s:ByteArray):ByteArray:=txS (bH (txF s))
def inS (ss:List ByteArray) (s:ByteArray):Bool:=ss.any fun u=>decide (u=s)
theorem dU {ss:List ByteArray} {s:ByteArray}:inS ss s=true↔s∈ss:=by
 unfold inS;rw[List.any_eq_true];exact⟨fun ⟨u,hu,e⟩=>by rw[←of_decide_eq_true e];exact hu,fun h=>⟨s,h,decide_eq_true rfl⟩⟩
noncomputable def onS (ss:List ByteArray) (main:ByteArray) (p:Fm→Bool):Bool:=inS ss main&&p (txF main)
noncomputable def eJ (L:Nat) (ss:List ByteArray) (main:ByteArray):List ByteArray:=fE L bg ss main
noncomputable def eQ (L:Nat) (tt:List ByteArray) (main:ByteArray):List ByteArray:=fE L bR tt main
noncomputable def oE (L:Nat) (ss tt:List ByteArray) (main:ByteArray):Sq2:=(if L=5 then ae (eJ L ss main) main else eJ L ss main,ae (eQ L tt main) (paI main))
noncomputable def oG (L:Nat) (ss tt:List ByteArray) (main:ByteArray):Sq2:=(ae (eJ L ss main) (paI main),if L=5 then ae (eQ L tt main) main else eQ L tt main)
def rfL (L:Nat):Bool:=decide (L=2∨L=4∨L=6)
noncomputable def bM (L r:Nat) (ss tt:List ByteArray) (main:ByteArray):Option (List Sq2):=
 if r=1 then (if inS ss main&&inS tt main then some [] else none)
 else if r=2 then (if decide (main=⟨#[]⟩)&&inS ss (txS .fls) then some [] else none)
 else if r=3 then (if onS ss main iL then some [(ae (ae (ah ss main) (pa1 main)) (pa2 main),tt)] else none)
 else if r=4 then (if onS tt main iL then some [(ss,ae (ah tt main) (pa1 main)),(ss,ae (ah tt main) (pa2 main))] else none)
 else if r=5 then (if onS ss main iN then some [(ae (ah ss main) (pa1 main),tt),(ae (ah ss main) (pa2 main),tt)] else none)
 else if r=6 then (if onS tt main iN then some [(ss,ae (ae (ah tt main) (pa1 main)) (pa2 main))] else none)
 else if r=7 then (if onS ss main iM then some [(ah ss main,ae tt (pa1 main)),(ae (ah ss main) (pa2 main),tt)] else none)
 else if r=8 then (if onS tt main iM then some [(ae ss (pa1 main),ae (ah tt main) (pa2 main))] else none)
 else if r=9 then (if onS ss main bg&&rfL L then some [(ae ss (paI main),tt)] else none)
 else if r=10 then (if onS tt main bR&&rfL L then some [(ss,ae tt (paI main))] else none)
 else if r=11 then (if onS tt main bg then some [oE L ss tt main] else if onS ss main bR then some [oG L ss tt main] else none)
 else if r=12 then (if decide (main=⟨#[]⟩)&&decide (L=1) then some [(eJ L ss main,eQ L tt main)] else none)
 else if r=14 then (if ij main then some [(ss,ae tt main),(ae ss main,tt)] else none)
 else none
theorem eB {ss:List ByteArray} {main:ByteArray} {p:Fm→Bool} (h:onS ss main p=true):main∈ss∧txF main∈fmL ss∧p (txF main)=true:=by
 unfold onS at h;rw[zk,dU] at h;exact⟨h.1,cS.2 ⟨main,h.1,rfl⟩,h.2⟩
theorem cR {ss:List ByteArray} (h:aW ss) {main:ByteArray} (hm:main∈ss) {y:Fm} (hy:y∈aC (txF main)) {x:Fm} (hx:x=txF (txS y)):x=y:=by rw[hx,oY h hm hy]
theorem Ar {L r:Nat} {ss tt:List ByteArray} {main:ByteArray} (hs:aW ss) (ht:aW tt) {ps:List Sq2} (h:bM L r ss tt main=some ps) (hv:∀ p∈ps,dB L (fmL p.1) (fmL p.2)):dB L (fmL ss) (fmL tt):=by
 unfold bM at h
 by_cases c1:r=1
 ·rw[if_pos c1] at h
  split at h
  ·rename_i c
   rw[zk,dU,dU] at c;exact I7 (cS.2 ⟨main,c.1,rfl⟩) (cS.2 ⟨main,c.2,rfl⟩)
  ·cases h
 rw[if_neg c1] at h
 by_cases c2:r=2
 ·rw[if_pos c2] at h
  split at h
  ·rename_i c
   rw[zk,decide_eq_true_eq,dU] at c;exact GU (cS.2 ⟨_,c.2,gi (AL (by simp[Fm.wf]) (by simp[Fm.enc]))⟩)
  ·cases h
 rw[if_neg c2] at h
 by_cases c3:r=3
 ·rw[if_pos c3] at h
  split at h
  ·rename_i c
   cases h
   obtain⟨hm,hf,hp⟩:=eB c;have v1:=hv _ (List.mem_singleton.2 rfl)
   cases e:txF main<;>rw[e] at hp hf<;>simp[iL] at hp
   rename_i a b
   refine Fj hf (fun x hx=>?_) (fun x hx=>hx) v1
   rcases dC hx with hx | hx
   ·rcases dC hx with hx | hx
    ·exact .inl (gH hx)
    ·exact .inr (.inl (cR hs hm (by rw[e];simp[aC,aF]) (by rw[hx,pa1,e];first | done | rfl)))
   ·exact .inr (.inr (cR hs hm (by rw[e];simp[aC,aF]) (by rw[hx,pa2,e];first | done | rfl)))
  ·cases h
 rw[if_neg c3] at h
 by_cases c4:r=4
 ·rw[if_pos c4] at h
  split at h
  ·rename_i c
   cases h
   obtain⟨hm,hf,hp⟩:=eB c;have v1:=hv (ss,ae (ah tt main) (pa1 main)) qD;have v2:=hv (ss,ae (ah tt main) (pa2 main)) qD
   cases e:txF main<;>rw[e] at hp hf<;>simp[iL] at hp
   rename_i a b
   refine Fk hf (fun x hx=>hx) (fun x hx=>?_) (fun x hx=>hx) (fun x hx=>?_) v1 v2
   ·rcases dC hx with hx | hx
    ·exact .inl (gH hx)
    ·exact .inr (cR ht hm (by rw[e];simp[aC,aF]) (by rw[hx,pa1,e];first | done | rfl))
   ·rcases dC hx with hx | hx
    ·exact .inl (gH hx)
    ·exact .inr (cR ht hm (by rw[e];simp[aC,aF]) (by rw[hx,pa2,e];first | done | rfl))
  ·cases h
 rw[if_neg c4] at h
 by_cases c5:r=5
 ·rw[if_pos c5] at h
  split at h
  ·rename_i c
   cases h
   obtain⟨hm,hf,hp⟩:=eB c;have v1:=hv (ae (ah ss main) (pa1 main),tt) qD;have v2:=hv (ae (ah ss main) (pa2 main),tt) qD
   cases e:txF main<;>rw[e] at hp hf<;>simp[iN] at hp
   rename_i a b
   refine GW hf (fun x hx=>?_) (fun x hx=>hx) (fun x hx=>?_) (fun x hx=>hx) v1 v2
   ·rcases dC hx with hx | hx
    ·exact .inl (gH hx)
    ·exact .inr (cR hs hm (by rw[e];simp[aC,aF]) (by rw[hx,pa1,e];first | done | rfl))
   ·rcases dC hx with hx | hx
    ·exact .inl (gH hx)
    ·exact .inr (cR hs hm (by rw[e];simp[aC,aF]) (by rw[hx,pa2,e];first | done | rfl))
  ·cases h
 rw[if_neg c5] at h
 by_cases c6:r=6
 ·rw[if_pos c6] at h
  split at h
  ·rename_i c
   cases h
   obtain⟨hm,hf,hp⟩:=eB c;have v1:=hv _ (List.mem_singleton.2 rfl)
   cases e:txF main<;>rw[e] at hp hf<;>simp[iN] at hp
   rename_i a b
   refine GX hf (fun x hx=>hx) (fun x hx=>?_) v1
   rcases dC hx with hx | hx
   ·rcases dC hx with hx | hx
    ·exact .inl (gH hx)
    ·exact .inr (.inl (cR ht hm (by rw[e];simp[aC,aF]) (by rw[hx,pa1,e];first | done | rfl)))
   ·exact .inr (.inr (cR ht hm (by rw[e];simp[aC,aF]) (by rw[hx,pa2,e];first | done | rfl)))
  ·cases h
 rw[if_neg c6] at h
 by_cases c7:r=7
 ·rw[if_pos c7] at h
  split at h
  ·rename_i c
   cases h
   obtain⟨hm,hf,hp⟩:=eB c;have v1:=hv (ah ss main,ae tt (pa1 main)) qD;have v2:=hv (ae (ah ss main) (pa2 main),tt) qD
   cases e:txF main<;>rw[e] at hp hf<;>simp[iM] at hp
   rename_i a b
   refine Fl hf (fun x hx=>gH hx) (fun x hx=>?_) (fun x hx=>?_) (fun x hx=>hx) v1 v2
   ·rcases dC hx with hx | hx
    ·exact .inl hx
    ·exact .inr (cR hs hm (by rw[e];simp[aC,aF]) (by rw[hx,pa1,e];first | done | rfl))
   ·rcases dC hx with hx | hx
    ·exact .inl (gH hx)
    ·exact .inr (cR hs hm (by rw[e];simp[aC,aF]) (by rw[hx,pa2,e];first | done | rfl))
  ·cases h
 rw[if_neg c7] at h
 by_cases c8:r=8
 ·rw[if_pos c8] at h
  split at h
  ·rename_i c
   cases h
   obtain⟨hm,hf,hp⟩:=eB c;have v1:=hv _ (List.mem_singleton.2 rfl)
   cases e:txF main<;>rw[e] at hp hf<;>simp[iM] at hp
   rename_i a b
   refine Fo hf (fun x hx=>?_) (fun x hx=>?_) v1
   ·rcases dC hx with hx | hx
    ·exact .inl hx
    ·exact .inr (cR ht hm (by rw[e];simp[aC,aF]) (by rw[hx,pa1,e];first | done | rfl))
   ·rcases dC hx with hx | hx
    ·exact .inl (gH hx)
    ·exact .inr (cR ht hm (by rw[e];simp[aC,aF]) (by rw[hx,pa2,e];first | done | rfl))
  ·cases h
 rw[if_neg c8] at h
 by_cases c9:r=9
 ·rw[if_pos c9] at h
  split at h
  ·rename_i c
   cases h
   rw[zk] at c;obtain⟨hm,hf,hp⟩:=eB c.1;have v1:=hv _ (List.mem_singleton.2 rfl)
   cases e:txF main<;>rw[e] at hp hf<;>simp[bg] at hp
   rename_i a
   refine Fq (of_decide_eq_true c.2) hf (fun x hx=>?_) (fun x hx=>hx) v1
   rcases dC hx with hx | hx
   ·exact .inl hx
   ·exact .inr (cR hs hm (by rw[e];simp[aC,aF]) (by rw[hx,paI,e];first | done | rfl))
  ·cases h
 rw[if_neg c9] at h
 by_cases c10:r=10
 ·rw[if_pos c10] at h
  split at h
  ·rename_i c
   cases h
   rw[zk] at c;obtain⟨hm,hf,hp⟩:=eB c.1;have v1:=hv _ (List.mem_singleton.2 rfl)
   cases e:txF main<;>rw[e] at hp hf<;>simp[bR] at hp
   rename_i a
   refine Fs (of_decide_eq_true c.2) hf (fun x hx=>hx) (fun x hx=>?_) v1
   rcases dC hx with hx | hx
   ·exact .inl hx
   ·exact .inr (cR ht hm (by rw[e];simp[aC,aF]) (by rw[hx,paI,e];first | done | rfl))
  ·cases h
 rw[if_neg c10] at h
 by_cases c11:r=11
 ·rw[if_pos c11] at h
  split at h
  ·rename_i c
   cases h
   obtain⟨hm,hf,hp⟩:=eB c;have v1:=hv _ (List.mem_singleton.2 rfl)
   cases e:txF main<;>rw[e] at hp hf<;>simp[bg] at hp
   rename_i a
   refine GQ hf (fun x hx=>?_) (fun x hx=>?_) v1
   ·unfold oE at hx
    dsimp only at hx
    split at hx
    ·rename_i h5
     rcases dC hx with hx | hx
     ·exact .inl (mJ hs hx)
     ·exact .inr ⟨h5,by rw[hx,e]⟩
    ·exact .inl (mJ hs hx)
   ·unfold oE at hx
    rcases dC hx with hx | hx
    ·exact .inl (lr ht hx)
    ·exact .inr (cR ht hm (by rw[e];simp[aC,aF]) (by rw[hx,paI,e];first | done | rfl))
  ·split at h
   ·rename_i c
    cases h
    obtain⟨hm,hf,hp⟩:=eB c;have v1:=hv _ (List.mem_singleton.2 rfl)
    cases e:txF main<;>rw[e] at hp hf<;>simp[bR] at hp
    rename_i a
    refine GS hf (fun x hx=>?_) (fun x hx=>?_) v1
    ·unfold oG at hx
     rcases dC hx with hx | hx
     ·exact .inl (mJ hs hx)
     ·exact .inr (cR hs hm (by rw[e];simp[aC,aF]) (by rw[hx,paI,e];first | done | rfl))
    ·unfold oG at hx
     dsimp only at hx
     split at hx
     ·rename_i h5
      rcases dC hx with hx | hx
      ·exact .inl (lr ht hx)
      ·exact .inr ⟨h5,by rw[hx,e]⟩
     ·exact .inl (lr ht hx)
   ·cases h
 rw[if_neg c11] at h
 by_cases c12:r=12
 ·rw[if_pos c12] at h
  split at h
  ·rename_i c
   cases h
   rw[zk,decide_eq_true_eq,decide_eq_true_eq] at c;obtain⟨-,rfl⟩:=c;have v1:=hv _ (List.mem_singleton.2 rfl);exact GY (fun z hz=>mJ (main:=main) hs hz) (fun z hz=>lr (main:=main) ht hz) v1
  ·cases h
 rw[if_neg c12] at h
 by_cases c14:r=14
 ·rw[if_pos c14] at h
  split at h
  ·cases h
   exact GR (fun x hx=>hx) (fun x hx=>dC hx) (fun x hx=>dC hx) (fun x hx=>hx) (hv (ss,ae tt main) qD) (hv (ae ss main,tt) qD)
  ·cases h
 ·rw[if_neg c14] at h
  cases h
theorem Gp {s:ByteArray} {r:Nat} {ss tt:List ByteArray} {main:ByteArray} (h:isQ ss tt=true) {ps:List Sq2} (hp:bM (lgN s) r ss tt main=some ps) (hv:∀ p∈ps,isQ p.1 p.2=true∧mtB s p.1 p.2=true):mtB s ss tt=true:=by
 obtain⟨_,_,hs,ht⟩:=dx h;exact(sH h s).2 (Ar hs ht hp fun p eE=>(sH (hv p eE).1 s).1 (hv p eE).2)
theorem EE {ss:List ByteArray} {s:ByteArray} (h:Asc (ss.map bts)):Asc ((ah ss s).map bts):=by
 unfold ah Asc at*;rw[List.pairwise_map] at*;exact h.filter _
theorem bK {ss:List ByteArray} {s:ByteArray} (h:aW ss):aW (ah ss s):=⟨fun u hu=>h.1 u (List.mem_filter.1 hu).1,EE h.2⟩
theorem a8 {ss:List ByteArray} {s:ByteArray} (h:aW ss) (hs:∃ t,ck s t):aW (ae ss s):=⟨fun u hu=>by
 rcases gZ.1 hu with hu | rfl
 ·exact h.1 u hu
 ·exact hs,iK s h.2⟩
theorem ft {p:Fm→Bool} {ss:List ByteArray} (h:aW ss):aW (kdS p ss):=⟨fun u hu=>h.1 u (List.mem_filter.1 hu).1,by
 have h2:=h.2;unfold kdS Asc at*;rw[List.pairwise_map] at*
 exact h2.filter _⟩
theorem lL {tt:List ByteArray}:∀ {ss:List ByteArray},aW ss→(∀ u∈tt,∃ t,ck u t)→aW (bU ss tt):=by
 induction tt with
 | nil=>exact fun h _=>h
 | cons t tt ih=>exact fun h k=>ih (a8 h (k t qD)) (fun u hu=>k u (zw _ hu))
theorem uy {f:ByteArray→ByteArray}:∀ (l:List ByteArray) (out:List ByteArray),aW out→(∀ s∈l,∃ t,ck (f s) t)→aW (l.foldl (fun out s=>ae out (f s)) out)
 | [],_,h,_=>h
 | s::l,out,h,k=>uy l (ae out (f s)) (a8 h (k s qD)) (fun u hu=>k u (zw _ hu))
theorem jy {ss:List ByteArray} (h:aW ss) {s:ByteArray} (hs:s∈ss) {y:Fm} (hy:y∈aC (txF s)):∃ t,ck (txS y) t:=by
 have:=ri h hs;exact⟨y,AL (nP this.1 y hy) (zx (nO y hy) this.2.2)⟩
theorem jX (t:Fm):bH t∈aC t:=by cases t<;>simp[bH,aC,aF]
theorem Be (t:Fm):qd t∈aC t:=by cases t<;>simp[qd,aC,aF]
theorem BI (t:Fm):qF t∈aC t:=by cases t<;>simp[qF,aC,aF]
theorem kH {p:Fm→Bool} {ss:List ByteArray} (h:aW ss):aW (ofS p ss):=by
 refine uy _ _ ⟨fun s hs=>by simp at hs,by simp[Asc]⟩ fun s hs=>jy h (List.mem_filter.1 hs).1 (jX _)
theorem dO {L:Nat} {p:Fm→Bool} {ss:List ByteArray} {main:ByteArray} (h:aW ss):aW (fE L p ss main):=by
 unfold fE
 split
 ·exact lL (kH h) (ft h).1
 ·split
  ·exact ft h
  ·split
   ·exact bK (lL (ft h) (ft h).1)
   ·exact kH h
theorem uE {L r:Nat} {ss tt:List ByteArray} {main:ByteArray} (hs:aW ss) (ht:aW tt) {ps:List Sq2} (h:bM L r ss tt main=some ps):∀ p∈ps,aW p.1∧aW p.2:=by
 have a1:=fun (c:main∈ss)=>jy hs c (Be _)
 have a2:=fun (c:main∈ss)=>jy hs c (BI _)
 have a3:=fun (c:main∈ss)=>jy hs c (jX _)
 have b1:=fun (c:main∈tt)=>jy ht c (Be _)
 have b2:=fun (c:main∈tt)=>jy ht c (BI _)
 have b3:=fun (c:main∈tt)=>jy ht c (jX _)
 have one:∀ {a b:List ByteArray} {p:Sq2},p∈[(a,b)]→aW a→aW b→aW p.1∧aW p.2:=fun hp x y=>by rw[List.mem_singleton.1 hp];exact⟨x,y⟩
 have two:∀ {a b c d:List ByteArray} {p:Sq2},p∈[(a,b),(c,d)]→aW a→aW b→aW c→aW d→aW p.1∧aW p.2:=fun hp x y z u=>by
  rcases List.mem_cons.1 hp with rfl | hp
  ·exact⟨x,y⟩
  ·rw[List.mem_singleton.1 hp];exact⟨z,u⟩
 intro p hp;unfold bM at h
 by_cases c1:r=1
 ·rw[if_pos c1] at h
  split at h<;>cases h
  simp at hp
 rw[if_neg c1] at h
 by_cases c2:r=2
 ·rw[if_pos c2] at h
  split at h<;>cases h
  simp at hp
 rw[if_neg c2] at h
 by_cases c3:r=3
 ·rw[if_pos c3] at h
  split at h<;>cases h
  rename_i c
  have m:=(eB c).1;exact one hp (a8 (a8 (bK hs) (a1 m)) (a2 m)) ht
 rw[if_neg c3] at h
 by_cases c4:r=4
 ·rw[if_pos c4] at h
  split at h<;>cases h
  rename_i c
  have m:=(eB c).1;exact two hp hs (a8 (bK ht) (b1 m)) hs (a8 (bK ht) (b2 m))
 rw[if_neg c4] at h
 by_cases c5:r=5
 ·rw[if_pos c5] at h
  split at h<;>cases h
  rename_i c
  have m:=(eB c).1;exact two hp (a8 (bK hs) (a1 m)) ht (a8 (bK hs) (a2 m)) ht
 rw[if_neg c5] at h
 by_cases c6:r=6
 ·rw[if_pos c6] at h
  split at h<;>cases h
  rename_i c
  have m:=(eB c).1;exact one hp hs (a8 (a8 (bK ht) (b1 m)) (b2 m))
 rw[if_neg c6] at h
 by_cases c7:r=7
 ·rw[if_pos c7] at h
  split at h<;>cases h
  rename_i c
  have m:=(eB c).1;exact two hp (bK hs) (a8 ht (a1 m)) (a8 (bK hs) (a2 m)) ht
 rw[if_neg c7] at h
 by_cases c8:r=8
 ·rw[if_pos c8] at h
  split at h<;>cases h
  rename_i c
  have m:=(eB c).1;exact one hp (a8 hs (b1 m)) (a8 (bK ht) (b2 m))
 rw[if_neg c8] at h
 by_cases c9:r=9
 ·rw[if_pos c9] at h
  split at h<;>cases h
  rename_i c
  rw[zk] at c;have m:=(eB c.1).1;exact one hp (a8 hs (a3 m)) ht
 rw[if_neg c9] at h
 by_cases c10:r=10
 ·rw[if_pos c10] at h
  split at h<;>cases h
  rename_i c
  rw[zk] at c;have m:=(eB c.1).1;exact one hp hs (a8 ht (b3 m))
 rw[if_neg c10] at h
 by_cases c11:r=11
 ·rw[if_pos c11] at h
  split at h
  ·cases h
   rename_i c
   have m:=(eB c).1;refine one hp ?_ (a8 (dO ht) (b3 m))
   split
   ·exact a8 (dO hs) (ht.1 _ m)
   ·exact dO hs
  ·split at h<;>cases h
   rename_i c
   have m:=(eB c).1;refine one hp (a8 (dO hs) (a3 m)) ?_
   split
   ·exact a8 (dO ht) (hs.1 _ m)
   ·exact dO ht
 rw[if_neg c11] at h
 by_cases c12:r=12
 ·rw[if_pos c12] at h
  split at h<;>cases h
  exact one hp (dO hs) (dO ht)
 rw[if_neg c12] at h
 by_cases c14:r=14
 ·rw[if_pos c14] at h
  split at h<;>cases h
  rename_i c
  have m:=fp.1 c;exact two hp hs (a8 ht m) (a8 hs m) ht
 ·rw[if_neg c14] at h
  cases h
end Go.Proofs.YtagoboblkadelaaGreat
