import Derived.Test.YtagoboblkadelaaGreatZMV
import Derived.Test.YtagoboblkadelaaGreatZOK
import Derived.Test.YtagoboblkadelaaGreatZOP
/- own -/
namespace Go.Proofs.YtagoboblkadelaaGreat
set_option maxRecDepth 20000
set_option maxHeartbeats 8000000
section
open Go.RowKit
theorem IC (E:List Fm) (t:Fm) (h:t∈E):∃ hj:E.idxOf t<E.length,E[E.idxOf t]=t:=by
 have hj:=(DK E t h 0).2;exact⟨hj,List.getElem_idxOf hj⟩
theorem FU {G:List Fm} (h:ff G):(elT G).length≤40*G.length:=by
 unfold elT;exact zx (List.length_filter_le _ _) (yT h)
def lR (t:Fm):List Nat:=tZ (vm t.enc) 6
theorem Ft (t:Fm):mem (vm t.enc)=zs (lR t):=rfl
theorem GZ {t:Fm} {x:Nat} (h:x∈lR t):x<6:=by
 unfold lR tZ at h
 simpa using (List.mem_filter.1 h).1
end
theorem rB (b:List Nat) (m:Nat):∀ i x,(jk b m i).testBit x=(decide (x<i)&&inB (b.getD x 0) m)
 | 0,x=>by simp[jk]
 | i + 1,x=>by
  have ih:=rB b m i x;unfold jk
  by_cases e:x=i
  ·subst e
   split
   ·next h=>rw[Nat.testBit_or,ih,Nat.testBit_two_pow,h,decide_eq_true rfl,decide_eq_true (by omega:x<x+1),Bool.or_true];rfl
   ·next h=>rw[ih,Bool.eq_false_iff.2 h,Bool.and_false,Bool.and_false]
  ·have h1:decide (x<i+1)=decide (x<i):=by
    by_cases h:x<i
    ·rw[decide_eq_true h,decide_eq_true qB]
    ·rw[decide_eq_false h,decide_eq_false qB]
   rw[h1,←ih]
   split
   ·rw[Nat.testBit_or,Nat.testBit_two_pow,decide_eq_false (Ne.symm e),Bool.or_false]
   ·rfl
theorem DG (n x:Nat):(2^n-1).testBit x=decide (x<n):=Nat.testBit_two_pow_sub_one n x
def trB (b vs:List Nat):Fm→Nat
 | .var p=>vs.getD p 0
 | .fls=>0
 | .and x y=>trB b vs x &&& trB b vs y
 | .or x y=>trB b vs x ||| trB b vs y
 | .imp x y=>((2^b.length-1) ^^^ ((2^b.length-1) &&& trB b vs x)) ||| trB b vs y
 | .box x=>jk b (trB b vs x) b.length
 | .dia x=>(2^b.length-1) ^^^ ((2^b.length-1) &&& jk b ((2^b.length-1) ^^^ ((2^b.length-1) &&& trB b vs x)) b.length)
def mfc (R A:Nat→Nat→Prop):Nat→Fm→Prop
 | w,.var p=>A w p
 | _,.fls=>False
 | w,.and x y=>mfc R A w x∧mfc R A w y
 | w,.or x y=>mfc R A w x∨mfc R A w y
 | w,.imp x y=>mfc R A w x→mfc R A w y
 | w,.box x=>∀ u,R w u→mfc R A u x
 | w,.dia x=>∃ u,R w u∧mfc R A u x
theorem re (n m x:Nat) (hx:x<n):((2^n-1) ^^^ ((2^n-1) &&& m)).testBit x=!m.testBit x:=by
 rw[Nat.testBit_xor,Nat.testBit_and,DG,decide_eq_true hx]
 cases m.testBit x<;>rfl
theorem fy (b vs:List Nat) (hb:Bnd b.length b):∀ (t:Fm) (w:Nat),w<b.length→((trB b vs t).testBit w=true↔mfc (fun x y=>(b.getD x 0).testBit y=true) (fun x p=>(vs.getD p 0).testBit x=true) w t)
 | .var p,w,_=>Iff.rfl
 | .fls,w,_=>by simp[trB,mfc]
 | .and x y,w,hw=>by rw[trB,Nat.testBit_and,zk,fy b vs hb x w hw,fy b vs hb y w hw];rfl
 | .or x y,w,hw=>by rw[trB,Nat.testBit_or,Bool.or_eq_true,fy b vs hb x w hw,fy b vs hb y w hw];rfl
 | .imp x y,w,hw=>by
  rw[trB,Nat.testBit_or,re _ _ _ hw,Bool.or_eq_true,Bool.not_eq_true',fy b vs hb y w hw];have h:=fy b vs hb x w hw;constructor
  ·rintro(h1 | h1) h2
   ·rw[h.2 h2] at h1;cases h1
   ·exact h1
  ·intro h1
   cases h2:(trB b vs x).testBit w
   ·exact .inl rfl
   ·exact .inr (h1 (h.1 h2))
 | .box x,w,hw=>by
  rw[trB,rB,decide_eq_true hw,Bool.true_and,Bh]
  exact forall_congr' fun u=>⟨fun h k=>(fy b vs hb x u (uT hb k)).1 (h k),fun h k=>(fy b vs hb x u (uT hb k)).2 (h k)⟩
 | .dia x,w,hw=>by
  rw[trB,re _ _ _ hw,rB,decide_eq_true hw,Bool.true_and,Bool.not_eq_true',Bool.eq_false_iff,ne_eq,Bh];constructor
  ·intro h
   simp only[Classical.not_forall] at h;obtain⟨u,h1,h2⟩:=h;have hu:=uT hb h1;rw[re _ _ _ hu,Bool.not_eq_true',Bool.not_eq_false] at h2;exact⟨u,h1,(fy b vs hb x u hu).1 h2⟩
  ·rintro⟨u,h1,h2⟩ h
   have hu:=uT hb h1;have h3:=h u h1;rw[re _ _ _ hu,Bool.not_eq_true',(fy b vs hb x u hu).2 h2] at h3
   cases h3
theorem Al (n m:Nat):(2^n-1) ^^^ ((2^n-1) &&& m)<2^n:=by
 have h:=Nat.two_pow_pos n;exact Nat.xor_lt_two_pow qB (Nat.lt_of_le_of_lt Nat.and_le_left qB)
theorem oW {b vs:List Nat} (hv:Bnd b.length vs):∀ t:Fm,trB b vs t<2^b.length
 | .var p=>hv p
 | .fls=>Nat.two_pow_pos _
 | .and x _=>Nat.lt_of_le_of_lt Nat.and_le_left (oW hv x)
 | .or x y=>Nat.or_lt_two_pow (oW hv x) (oW hv y)
 | .imp _ y=>Nat.or_lt_two_pow (Al _ _) (oW hv y)
 | .box _=>qP _ _ _
 | .dia _=>Al _ _
theorem Dl {n a c:Nat} (ha:a<2^n) (hc:c<2^n) (h:∀ x,x<n→(a.testBit x=true↔c.testBit x=true)):a=c:=by
 apply Nat.eq_of_testBit_eq;intro x
 by_cases hx:x<n
 ·rw[Bool.eq_iff_iff];exact h x hx
 ·have hp:2^n≤2^x:=Nat.pow_le_pow_right qB qB
  rw[Nat.testBit_lt_two_pow (zv ha hp),Nat.testBit_lt_two_pow (zv hc hp)]
section
open Go.RowKit
structure FSt (w0 w:World) (bp s n:Nat) (pv:Value) (st:List Nat) (vS:Value):Prop where
 kp:aa w0 w
 c0:w.cell? ⟨bp,0,none⟩=some (.int .i64 n)
 c1:w.cell? ⟨bp,1,none⟩=some pv
 cs:w.cell? ⟨s,0,none⟩=some vS
 fs:w.frozen? ⟨s,0,none⟩=false
 own:aI w (s+1) vS (zs st)
theorem FSt.keeps {w0 w w':World} {bp s n:Nat} {pv:Value} {st:List Nat} {vS:Value} (h:FSt w0 w bp s n pv st vS) (k:aa w w'):FSt w0 w' bp s n pv st vS:=
 ⟨h.kp.trans k,k.cell h.c0,k.cell h.c1,k.cell h.cs,by rw[(k.both).2 s 0 (World.block_lt_of_cell? _ _ h.cs)];exact h.fs,h.own.keeps k⟩
theorem dL {w w':World} {b o:Nat} {v:Value} {row:Option Nat} (hc:w.cell? ⟨b,o,none⟩=some v) (k:w.grownBy w' row) (hb:∀ r,row=some r→b≠r):w'.cell? ⟨b,o,none⟩=some v∧w'.frozen? ⟨b,o,none⟩=w.frozen? ⟨b,o,none⟩:=by
 have h:=(al.grown k).cell (b:=b) (World.block_lt_of_cell? _ _ hc) (fun e=>by exact absurd rfl (hb b (by simpa using e.symm)));exact⟨by rw[h.1];exact hc,h.2 o⟩
theorem FSt.push {w0 w w1:World} {bp s n:Nat} {pv:Value} {st st2:List Nat} {vS v1:Value} (h:FSt w0 w bp s n pv st vS) (h0:w0.heap.size≤bp) (hs:bp<s) {row:Option Nat} (hg:w.grownBy w1 row) (hr:∀ k,row=some k→s+1≤k)
  (hv:aI w1 (s+1) v1 (zs st2)):FSt w0 (w1.setCell ⟨s,0,none⟩ v1) bp s n pv st2 v1:=by
 have k2:=db (w:=w1) s 0 v1;have a0:=dL h.c0 hg (fun r e=>by have:=hr r e;omega);have a1:=dL h.c1 hg (fun r e=>by have:=hr r e;omega);have aS:=dL h.cs hg (fun r e=>by have:=hr r e;omega);refine⟨(h.kp.grown hg (fun k e=>by have:=hr k e;omega)).setCell (by simp;omega) _,?_,?_,World.cell?_setCell_same _ _ _ aS.1,?_,?_⟩
 ·exact(dL a0.1 k2 (fun r e=>by cases e;omega)).1
 ·exact(dL a1.1 k2 (fun r e=>by cases e;omega)).1
 ·rw[World.frozen?_setCell,aS.2];exact h.fs
 ·exact hv.setBelow qB _
theorem G2 (a:List Nat) (k:Nat):(zs a).take k=zs (a.take k):=by simp[zs,List.map_take]
theorem yV (t:Fm):∀ d i,i+d=t.enc.length→(ew t i).length≤d
 | 0,i,h=>by
  have:i=t.enc.length:=qB;rw[this,eK];simp
 | d+1,i,h=>by
  have h1:=yV t d (i+1) qB
  rcases dQ t i qB with ⟨_,v,_,e⟩ | ⟨_,e⟩ | ⟨_,x,y,R,e1,e⟩ | ⟨_,x,y,R,e1,e⟩ | ⟨_,x,y,R,e1,e⟩ | ⟨_,x,R,e1,e⟩ | ⟨_,x,R,e1,e⟩<;>(rw[e];try rw[e1] at h1)<;>simp at h1 ⊢<;>omega
theorem aV.zs_cellE {w:World} {v:Value} {l:List Nat} (h:aV w v (zs l)) (i:Nat) (hi:i<l.length):∃ p cap b o,v=.slice p l.length cap∧p=some ⟨b,o,none⟩∧w.cell? ⟨b,o+i,none⟩=some (.int .i64 ((l.getD i 0:Nat):Int)):=by
 obtain⟨p,cap,e,_⟩:=id h;rw[e] at h;obtain⟨b,o,h1,h2⟩:=h.zs_cell i hi;exact⟨p,cap,b,o,by rw[e,af],h1,h2⟩
def uh (b vs:List Nat) (t:Fm) (i:Nat):List Nat:=((ew t i).map (trB b vs)).reverse
theorem E4 (b vs:List Nat) (t:Fm) (i:Nat) (h:i≤t.enc.length):(uh b vs t i).length≤t.enc.length-i:=by
 have:=yV t (t.enc.length-i) i qB;simp[uh];omega
theorem E3 (b vs:List Nat) (t:Fm):uh b vs t t.enc.length=[]:=by simp[uh,eK]
theorem CU (b vs:List Nat) (t:Fm):uh b vs t 0=[trB b vs t]:=by simp[uh,eA]
def yD (n m:Nat):Nat:=(2^n-1) ^^^ ((2^n-1) &&& m)
theorem Gw (n m:Nat):yD n m<2^n:=Al n m
def G7 (b vs:List Nat) (n:Nd) (S T:List Nat):Prop:=
 (n.k=0∧∃ v:Nat,v<6∧n.s=v∧T=S++[vs.getD v 0])∨(n.k=1∧T=S++[0])∨
 (n.k=2∧∃ x y R,S=(R++[y])++[x]∧T=R++[x &&& y]∧x<2^b.length∧y<2^b.length)∨
 (n.k=3∧∃ x y R,S=(R++[y])++[x]∧T=R++[x ||| y]∧x<2^b.length∧y<2^b.length)∨
 (n.k=4∧∃ x y R,S=(R++[y])++[x]∧T=R++[yD b.length x ||| y]∧x<2^b.length∧y<2^b.length)∨
 (n.k=5∧∃ x R,S=R++[x]∧T=R++[jk b x b.length]∧x<2^b.length)∨
 (n.k=6∧∃ x R,S=R++[x]∧T=R++[yD b.length (jk b (yD b.length x) b.length)]∧x<2^b.length)
theorem CT {b vs:List Nat} (x6:Bnd b.length vs) {t:Fm} (hw:t.wf) (i:Nat) (hi:i<t.enc.length):G7 b vs (t.enc.getD i ⟨0,0⟩) (uh b vs t (i+1)) (uh b vs t i):=by
 have hx:t.enc.getD i ⟨0,0⟩=t.enc[i]:=by simp[List.getD_eq_getElem?_getD,hi]
 have hm:t.enc[i]∈t.enc:=zo hi;have eE:=mX hw _ hm;rw[←hx] at eE;have h9:=dQ t i hi;clear hx hm;generalize t.enc.getD i ⟨0,0⟩=n at*;have hl:=oW x6;unfold uh
 rcases h9 with ⟨h,v,e,e2⟩ | ⟨h,e2⟩ | ⟨h,x,y,S,e1,e2⟩ | ⟨h,x,y,S,e1,e2⟩ | ⟨h,x,y,S,e1,e2⟩ | ⟨h,x,S,e1,e2⟩ | ⟨h,x,S,e1,e2⟩
 ·refine .inl ⟨h,v,?_,e,?_⟩
  ·unfold dR at eE
   rw[if_pos h] at eE;have:=of_decide_eq_true eE;omega
  ·rw[e2];simp[trB]
 ·exact .inr (.inl ⟨h,by rw[e2];simp[trB]⟩)
 ·exact .inr (.inr (.inl ⟨h,trB b vs x,trB b vs y,(S.map (trB b vs)).reverse,by rw[e1];simp,by rw[e2];simp[trB],hl x,hl y⟩))
 ·exact .inr (.inr (.inr (.inl ⟨h,trB b vs x,trB b vs y,(S.map (trB b vs)).reverse,by rw[e1];simp,by rw[e2];simp[trB],hl x,hl y⟩)))
 ·exact .inr (.inr (.inr (.inr (.inl ⟨h,trB b vs x,trB b vs y,(S.map (trB b vs)).reverse,by rw[e1];simp,by rw[e2];simp[trB,yD],hl x,hl y⟩))))
 ·exact .inr (.inr (.inr (.inr (.inr (.inl ⟨h,trB b vs x,(S.map (trB b vs)).reverse,by rw[e1];simp,by rw[e2];simp[trB],hl x⟩)))))
 ·exact .inr (.inr (.inr (.inr (.inr (.inr ⟨h,trB b vs x,(S.map (trB b vs)).reverse,by rw[e1];simp,by rw[e2];simp[trB,yD],hl x⟩)))))
theorem jo (b:List Nat) (v:Value) (w:World) (hv:aV w v (zs b)) (hb:b.length≤8):
  Calls Tryz.prog 94 #[.agg #[.int .i64 b.length,v]] w fun e w'=>e=.returned (.int .i64 ((2^b.length-1:Nat):Int))∧aa w w':=by
 have kA:=(aa.refl w).alloc (.cells #[.int .i64 b.length,v] 41);obtain⟨c0,c1⟩:=jf.made w b.length v 41;have eE:0<2^b.length:=Nat.two_pow_pos _
 have e2:((2^b.length-1:Nat):Int)=(2:Int)^b.length-1:=by
  rw[Int.ofNat_sub qB];push_cast;rfl
 obtain⟨e3,e4⟩:=Eu b.length qB;rw[e2];obtain⟨p,cap,rfl,_⟩:=hv;rw[af] at*;generalize hn:b.length=n at*;have HN:=hid hn;clear hn e2 eE;go_enter Tryz.func94,Tryz.ntmps94;go_wp2_with fail;go_ret;exact⟨rfl,kA⟩
theorem oa:aG 143:=fun _ _=>by kernel_rfl
theorem cI (w0 w:World) (bp s n:Nat) (pv:Value) (st:List Nat) (x:Nat) (vS:Value) (h:FSt w0 w bp s n pv (st++[x]) vS) (h0:w0.heap.size≤bp) (hs:bp<s) (hl:st.length≤1000000):
  Calls Tryz.prog 143 #[.pointer (some ⟨s,0,none⟩)] w fun e w'=>e=.returned (.int .i64 x)∧∃ v',FSt w0 w' bp s n pv st v':=by
 have x6:=af (st++[x])
 have eE:(st++[x]).length=st.length+1:=by simp
 obtain⟨g,cap,rfl,hb,hg,H7,H8⟩:=h.own.shape (by rw[x6,eE];omega);have h9:=h.own;rw[x6,eE] at h9 H7;obtain hcell:=h9.zcell (l:=st++[x]) st.length (by rw[eE];omega)
 have hx:(st++[x]).getD st.length 0=x:=by simp[List.getD_eq_getElem?_getD]
 rw[hx] at hcell
 have hcut:aI w (s+1) (.slice (some ⟨g,0,none⟩) st.length cap) (zs st):=by
  have h1:aI w (s+1) (.slice (some ⟨g,0,none⟩) (zs (st++[x])).length cap) (zs (st++[x])):=by rw[x6,eE];exact h9
  have h2:=h1.cutI st.length (by rw[x6,eE];omega);rw[G2,List.take_left' rfl] at h2;exact h2
 have x7:=h.push (st2:=st) h0 hs (rP w none) (fun k e=>by cases e) hcut;have x8:=hid x7;have x9:=h.cs;have H9:=h.fs;rw[x6,eE] at x9;have KP:((st.length+1:Nat):Int)-1=st.length:=qB;clear h h9 hcut x7 x6 eE hx;generalize st.length=m at*;unfold maxLen at H8;go_enter Tryz.func143,Tryz.ntmps143;go_wp2_with fail;go_ret;exact⟨rfl,_,x8.out⟩
theorem wW (b vs:List Nat) (hb:b.length≤8) (LG:Bnd b.length b) (LJ:Bnd b.length vs) (h6:vs.length=6) (t:Fm) (hw:t.wf) (hN:t.enc.length≤1000000) (pv vv v:Value) (w:World)
  (Lq:aV w pv (zs b)) (LK:aV w vv (zs vs)) (hv:Nds w v t.enc):
  Calls Tryz.prog 93 #[.agg #[.int .i64 b.length,pv],vv,v] w fun e w'=>e=.returned (.int .i64 (trB b vs t))∧aa w w':=by
 have LP:=qJ hb;have Lt:=hid (fun x wz (kz:aa w wz) (hx:x<2^b.length)=>A0 b x pv wz (Lq.keeps kz) hb LG qB);have Le:=hid (fun x=>Gw b.length x);have Ls:=hid (fun wz (kz:aa w wz)=>jo b pv wz (Lq.keeps kz) hb);have Lm:=hid (fun i hi=>CT (b:=b) LJ hw i hi);have Lz:=hid (E4 b vs t);have Ly:=hid (E3 b vs t);have LN:=hid (CU b vs t);have L0:=Fm.enc_pos t;have HV:=hid (fun i (hi:i<6) wz (kz:aa w wz)=>(LK.keeps kz).zs_cellE i (show i<vs.length by omega))
 have Li:Hid (∀ x:Nat,x<2^b.length→bits .andNot .i64 ((2^b.length-1:Nat):Int) (x:Int)=((yD b.length x:Nat):Int)):=hid fun x hx=>AW (2^b.length-1) x qB qB
 obtain⟨pn,cn,rfl,L7,LX,LH,L6⟩:=hv;have Lx:=hid (fun i (hi:i<t.enc.length) wz (kz:aa w wz)=>(LH.keeps kz).nd i hi);have hG:Hid (∀ i (hi:i<t.enc.length),t.enc.getD i ⟨0,0⟩=t.enc[i]):=hid (fun i hi=>by simp[List.getD_eq_getElem?_getD,hi]);have kB:=(aa.refl w).alloc (.cells #[.int .i64 b.length,pv] 41);obtain⟨z0,z1⟩:=jf.made w b.length pv 41
 have LQ:(w.alloc (.cells #[.int .i64 b.length,pv] 41)).heap.size=w.heap.size+1:=by simp
 obtain⟨pq,cq,rfl,_⟩:=Lq;obtain⟨pp,cap2,rfl,_,Lp,_,_⟩:=LK
 have LO:Hid (∀ i,i<6→∀ wz,aa w wz→∃ b1 o1,pp=some ⟨b1,o1,none⟩∧wz.cell? ⟨b1,o1+i,none⟩=some (.int .i64 ((vs.getD i 0:Nat):Int))):=hid fun i hi wz kz=>by
  obtain⟨p',c',b1,o1,e,e2,e3⟩:=HV.out i hi wz kz
  have e4:pp=p':=by injection e
  rw[e4];exact⟨b1,o1,e2,e3⟩
 clear HV;unfold maxLen at LX Lp;rw[af b] at*;rw[af vs] at*;simp only[h6] at*;clear LG LJ hw LH h6
 obtain⟨Nf,Lo⟩:∃ Nf:Nat→Nd,∀ i,Nf i=t.enc.getD i ⟨0,0⟩:=⟨_,fun _=>rfl⟩
 have Ll:Hid (∀ i,i<t.enc.length→∀ wz,aa w wz→∃ b0 off,pn=some ⟨b0,off,none⟩∧wz.cell? ⟨b0,off+i*2,none⟩=some (.int .i64 (Nf i).k)∧wz.cell? ⟨b0,off+i*2+1,none⟩=some (.int .i64 (Nf i).s)):=hid fun i hi wz kz=>by
  rw[Lo,hG.out i hi];exact Lx.out i hi wz kz
 clear Lx hG;simp only[←Lo] at Lm;clear Lo;unfold G7 at Lm
 obtain⟨SK,LD⟩:∃ SK:Nat→List Nat,∀ i,SK i=uh b vs t i:=⟨_,fun _=>rfl⟩
 obtain⟨VV,LF⟩:∃ VV:Nat→Nat,∀ i,VV i=vs.getD i 0:=⟨_,fun _=>rfl⟩
 obtain⟨BX,Ln⟩:∃ BX:Nat→Nat,∀ x,BX x=jk b x b.length:=⟨_,fun _=>rfl⟩
 obtain⟨OF,LC⟩:∃ OF:Nat→Nat,∀ x,OF x=yD b.length x:=⟨_,fun _=>rfl⟩
 have LM:Hid (∀ x,BX x<2^b.length):=hid fun x=>by rw[Ln];exact qP b x _
 simp only[←LD,←LF,←Ln,←LC] at*;clear LD LF Ln LC;have LI:=Nat.two_pow_pos b.length;generalize trB b vs t=r at*;generalize t.enc.length=N at*;generalize 2^b.length-1=MM at*;generalize 2^b.length=M at*;generalize b.length=n at*;clear hb
 have LU:∀ args w,(callFunc 143 args).run Tryz.prog w=.ok (.enter 143 args) w:=oa
 go_enter Tryz.func93,Tryz.ntmps93;go_wp2_with fail;refine(Ls.out _ kB).mono ?_;rintro e w2 ⟨rfl,k2⟩
 replace z0:=k2.cell z0
 replace z1:=k2.cell z1
 have K2:=kB.trans k2;have L1:=k2.size
 have Lu:Hid (FSt w (w2.alloc (.cells #[.slice none 0 0] 35)) w.heap.size w2.heap.size n (.slice pq n cq) (SK N) (.slice none 0 0)):=hid (by
  rw[Ly.out];have kC:=(aa.refl w2).alloc (.cells #[.slice none 0 0] 35)
  exact⟨K2.trans kC,kC.cell z0,kC.cell z1,qD,qD,aI.nil _ _⟩)
 obtain⟨bp,Lg⟩:∃ bp,bp=w.heap.size:=⟨_,rfl⟩
 obtain⟨sp,Lr⟩:∃ sp,sp=w2.heap.size:=⟨_,rfl⟩
 have KS:w.heap.size≤bp:=Nat.le_of_eq Lg.symm;have KT:bp<sp:=qB;have Lk:=Lu.out;rw[←Lg,←Lr] at Lk;have Lw:=hid Lk;clear Lk Lu z0 z1 k2 K2 kB L1 LQ Ls Ly;go_wp2_with fail;rw[←Lg,←Lr];clear Lg Lr
 go_loopw [10] (fun s10 wr=>∃ j:Nat,j≤N∧s10=.int .i64 ((j:Int)-1)∧∃ vS,FSt w wr bp sp n (.slice pq n cq) (SK j) vS) (fun s10 _=>(intOf s10+1).toNat)
 case atStart=>exact⟨N,qB,by go_num,_,Lw.out⟩
 case round=>
  obtain⟨j,hj,rfl,vS,x7⟩:=hrel;clear Lw
  cases j with
  | zero=>
   rw[LN.out] at x7;obtain⟨g,cap,rfl,LS,hg,LW,L5⟩:=x7.own.shape (by simp[zs]);have Lf:=(x7.own.zcell (l:=[r]) 0 qD).1;have x8:=x7.cs;have Lh:=x7.kp
   have LL:(zs [r]).length=1:=by simp[zs]
   rw[LL] at x8 LW;simp only[List.getD_cons_zero] at Lf;clear LL hg LS;have L4:((0:Nat):Int)-1 = -1:=rfl;clear x7;go_wp2_with fail;go_ret;exact⟨rfl,Lh⟩
  | succ i=>
   have LV:((i+1:Nat):Int)-1=(i:Int):=qB;rw[LV];have Lh:=x7.kp;obtain⟨b0,off,rfl,n0,n1⟩:=Ll.out i qB wr Lh;have L3:(i:Int)<N:=qB;have L2:(0:Int)≤i:=qB;have K0:=Lz.out (i+1) hj;have KU:=Lz.out i qB;have LR:=Lm.out i qB;generalize (Nf i).k=kk at*;generalize (Nf i).s=ss at*;generalize SK (i+1)=S1 at*
   rcases LR with ⟨rfl,p,hp6,rfl,hT⟩ | ⟨rfl,hT⟩ | ⟨rfl,x,y,R,hS,hT,hx,hy⟩ | ⟨rfl,x,y,R,hS,hT,hx,hy⟩ | ⟨rfl,x,y,R,hS,hT,hx,hy⟩ | ⟨rfl,x,R,hS,hT,hx⟩ | ⟨rfl,x,R,hS,hT,hx⟩
   ·-- variable
    obtain⟨b1,o1,e1,hc⟩:=LO.out p hp6 wr Lh;subst e1;have LZ:(p:Int)<6:=qB;have Lc:S1.length≤1000000:=qB;have eE:=x7.own;have x8:=x7.cs;have KZ:sp<wr.heap.size:=World.block_lt_of_cell? _ _ x8;have x9:=af S1;have kA:=(aa.refl wr).alloc (.cells #[.int .i64 (((VV p:Nat):Int))] 2);have H7:=hid (fun w1 v1 (hg:(wr.alloc (.cells #[.int .i64 (((VV p:Nat):Int))] 2)).grownBy w1 vS.ownBlock) (hr:∀ k,vS.ownBlock=some k→sp+1≤k) (hv:aI w1 (sp+1) v1 (zs (S1++[VV p])))=>(x7.keeps kA).push (st2:=S1++[VV p]) KS KT hg hr hv)
    have x6:∀ w1,(wr.alloc (.cells #[.int .i64 (((VV p:Nat):Int))] 2)).grownBy w1 vS.ownBlock→(∀ k,vS.ownBlock=some k→sp+1≤k)→w1.cell? ⟨sp,0,none⟩=some vS∧w1.frozen? ⟨sp,0,none⟩=false:=fun w1 hg hr=>by
     have h:=dL (kA.cell x8) hg (fun r e=>by have:=hr r e;omega);exact⟨h.1,by rw[h.2];exact(x7.keeps kA).fs⟩
    have h9:=hid x6;clear x6;obtain⟨p2,c2,rfl,-,-,-⟩:=At.of_own eE;rw[x9] at eE x8 H7 h9;have KY:Hid (∀ z:Int,(zs S1++[z]).length=S1.length+1):=hid (fun z=>by rw[ze,x9];rfl);clear x7 KU;generalize VV p=x at*
    go_wp2_with (at_builtin;refine mw rfl _ _ rfl (sp+1) _ (zs S1) rfl (eE.keeps kA) _ [((x:Nat):Int)] rfl (aV.lit1 wr _) (by simp;omega) (by rw[x9];simp;omega) ?_;intro v1 w1 KP H8 H9;obtain⟨g1,g2⟩:=h9.out w1 H8 H9;have KV:=hid (H7.out w1 v1 H8 H9 (by rw[fD];exact KP));obtain⟨p3,c3,rfl,-,-,-⟩:=At.of_own KP)
    go_roundw
    case rel=>exact⟨i,qB,by go_num,_,by rw[hT];have h:=KV.out;rw[KY.out] at h;exact h⟩
    case measure=>simp[intOf]<;>omega
   ·-- falsum
    have Lc:S1.length≤1000000:=qB;have eE:=x7.own;have x8:=x7.cs;have KZ:sp<wr.heap.size:=World.block_lt_of_cell? _ _ x8;have x9:=af S1;have kA:=(aa.refl wr).alloc (.cells #[.int .i64 (0)] 2);have H7:=hid (fun w1 v1 (hg:(wr.alloc (.cells #[.int .i64 (0)] 2)).grownBy w1 vS.ownBlock) (hr:∀ k,vS.ownBlock=some k→sp+1≤k) (hv:aI w1 (sp+1) v1 (zs (S1++[0])))=>(x7.keeps kA).push (st2:=S1++[0]) KS KT hg hr hv)
    have x6:∀ w1,(wr.alloc (.cells #[.int .i64 (0)] 2)).grownBy w1 vS.ownBlock→(∀ k,vS.ownBlock=some k→sp+1≤k)→w1.cell? ⟨sp,0,none⟩=some vS∧w1.frozen? ⟨sp,0,none⟩=false:=fun w1 hg hr=>by
     have h:=dL (kA.cell x8) hg (fun r e=>by have:=hr r e;omega);exact⟨h.1,by rw[h.2];exact(x7.keeps kA).fs⟩
    have h9:=hid x6;clear x6;obtain⟨p2,c2,rfl,-,-,-⟩:=At.of_own eE;rw[x9] at eE x8 H7 h9;have KY:Hid (∀ z:Int,(zs S1++[z]).length=S1.length+1):=hid (fun z=>by rw[ze,x9];rfl);clear x7 KU
    go_wp2_with (at_builtin;refine mw rfl _ _ rfl (sp+1) _ (zs S1) rfl (eE.keeps kA) _ [(0:Int)] rfl (aV.lit1 wr _) (by simp;omega) (by rw[x9];simp;omega) ?_;intro v1 w1 KP H8 H9;obtain⟨g1,g2⟩:=h9.out w1 H8 H9;have KV:=hid (H7.out w1 v1 H8 H9 (by rw[fD];exact KP));obtain⟨p3,c3,rfl,-,-,-⟩:=At.of_own KP)
    go_roundw
    case rel=>exact⟨i,qB,by go_num,_,by rw[hT];have h:=KV.out;rw[KY.out] at h;exact h⟩
    case measure=>simp[intOf]<;>omega
   ·-- and
    subst hS
    have Lb:R.length≤1000000:=by simp at K0;omega
    have La:=hid (cI w wr bp sp n (.slice pq n cq) (R++[y]) x vS x7 KS KT (by simp at K0 ⊢;omega));have Ld:=hid (fun wz vz (hz:FSt w wz bp sp n (.slice pq n cq) (R++[y]) vz)=>cI w wz bp sp n (.slice pq n cq) R y vz hz KS KT Lb);have KR:=hid (Jp x y qB qB);clear x7;go_wp2_with fail;refine La.out.mono ?_;rintro e w2 ⟨rfl,v2,h2⟩;go_wp2_with fail;refine(Ld.out _ _ h2).mono ?_;rintro e w3 ⟨rfl,v3,h3⟩;clear K0 KU;have eE:=h3.own;have x8:=h3.cs;have KZ:sp<w3.heap.size:=World.block_lt_of_cell? _ _ x8;have x9:=af R;have kA:=(aa.refl w3).alloc (.cells #[.int .i64 (bits .and .i64 (x:Int) (y:Int))] 2);have H7:=hid (fun w1 v1 (hg:(w3.alloc (.cells #[.int .i64 (bits .and .i64 (x:Int) (y:Int))] 2)).grownBy w1 v3.ownBlock) (hr:∀ k,v3.ownBlock=some k→sp+1≤k) (hv:aI w1 (sp+1) v1 (zs (R++[x &&& y])))=>(h3.keeps kA).push (st2:=R++[x &&& y]) KS KT hg hr hv)
    have x6:∀ w1,(w3.alloc (.cells #[.int .i64 (bits .and .i64 (x:Int) (y:Int))] 2)).grownBy w1 v3.ownBlock→(∀ k,v3.ownBlock=some k→sp+1≤k)→w1.cell? ⟨sp,0,none⟩=some v3∧w1.frozen? ⟨sp,0,none⟩=false:=fun w1 hg hr=>by
     have h:=dL (kA.cell x8) hg (fun r e=>by have:=hr r e;omega);exact⟨h.1,by rw[h.2];exact(h3.keeps kA).fs⟩
    have h9:=hid x6;clear x6;obtain⟨p2,c2,rfl,-,-,-⟩:=At.of_own eE;rw[x9] at eE x8 H7 h9;have KY:Hid (∀ z:Int,(zs R++[z]).length=R.length+1):=hid (fun z=>by rw[ze,x9];rfl)
    go_wp2_with (at_builtin;refine mw rfl _ _ rfl (sp+1) _ (zs R) rfl (eE.keeps kA) _ [bits .and .i64 (x:Int) (y:Int)] rfl (aV.lit1 w3 _) (by simp;omega) (by rw[x9];simp;omega) ?_;intro v1 w1 KP H8 H9;obtain⟨g1,g2⟩:=h9.out w1 H8 H9;have KV:=hid (H7.out w1 v1 H8 H9 (by rw[fD,←KR.out];exact KP));obtain⟨p3,c3,rfl,-,-,-⟩:=At.of_own KP)
    go_roundw
    case rel=>exact⟨i,qB,by go_num,_,by rw[hT];have h:=KV.out;rw[KY.out] at h;exact h⟩
    case measure=>simp[intOf]<;>omega
   ·-- or
    subst hS
    have Lb:R.length≤1000000:=by simp at K0;omega
    have La:=hid (cI w wr bp sp n (.slice pq n cq) (R++[y]) x vS x7 KS KT (by simp at K0 ⊢;omega));have Ld:=hid (fun wz vz (hz:FSt w wz bp sp n (.slice pq n cq) (R++[y]) vz)=>cI w wz bp sp n (.slice pq n cq) R y vz hz KS KT Lb);have KR:=hid (orN x y qB qB);clear x7;go_wp2_with fail;refine La.out.mono ?_;rintro e w2 ⟨rfl,v2,h2⟩;go_wp2_with fail;refine(Ld.out _ _ h2).mono ?_;rintro e w3 ⟨rfl,v3,h3⟩;clear K0 KU;have eE:=h3.own;have x8:=h3.cs;have KZ:sp<w3.heap.size:=World.block_lt_of_cell? _ _ x8;have x9:=af R;have kA:=(aa.refl w3).alloc (.cells #[.int .i64 (bits .or .i64 (x:Int) (y:Int))] 2);have H7:=hid (fun w1 v1 (hg:(w3.alloc (.cells #[.int .i64 (bits .or .i64 (x:Int) (y:Int))] 2)).grownBy w1 v3.ownBlock) (hr:∀ k,v3.ownBlock=some k→sp+1≤k) (hv:aI w1 (sp+1) v1 (zs (R++[x ||| y])))=>(h3.keeps kA).push (st2:=R++[x ||| y]) KS KT hg hr hv)
    have x6:∀ w1,(w3.alloc (.cells #[.int .i64 (bits .or .i64 (x:Int) (y:Int))] 2)).grownBy w1 v3.ownBlock→(∀ k,v3.ownBlock=some k→sp+1≤k)→w1.cell? ⟨sp,0,none⟩=some v3∧w1.frozen? ⟨sp,0,none⟩=false:=fun w1 hg hr=>by
     have h:=dL (kA.cell x8) hg (fun r e=>by have:=hr r e;omega);exact⟨h.1,by rw[h.2];exact(h3.keeps kA).fs⟩
    have h9:=hid x6;clear x6;obtain⟨p2,c2,rfl,-,-,-⟩:=At.of_own eE;rw[x9] at eE x8 H7 h9;have KY:Hid (∀ z:Int,(zs R++[z]).length=R.length+1):=hid (fun z=>by rw[ze,x9];rfl)
    go_wp2_with (at_builtin;refine mw rfl _ _ rfl (sp+1) _ (zs R) rfl (eE.keeps kA) _ [bits .or .i64 (x:Int) (y:Int)] rfl (aV.lit1 w3 _) (by simp;omega) (by rw[x9];simp;omega) ?_;intro v1 w1 KP H8 H9;obtain⟨g1,g2⟩:=h9.out w1 H8 H9;have KV:=hid (H7.out w1 v1 H8 H9 (by rw[fD,←KR.out];exact KP));obtain⟨p3,c3,rfl,-,-,-⟩:=At.of_own KP)
    go_roundw
    case rel=>exact⟨i,qB,by go_num,_,by rw[hT];have h:=KV.out;rw[KY.out] at h;exact h⟩
    case measure=>simp[intOf]<;>omega
   ·-- imp
    subst hS
    have Lb:R.length≤1000000:=by simp at K0;omega
    have La:=hid (cI w wr bp sp n (.slice pq n cq) (R++[y]) x vS x7 KS KT (by simp at K0 ⊢;omega));have Ld:=hid (fun wz vz (hz:FSt w wz bp sp n (.slice pq n cq) (R++[y]) vz)=>cI w wz bp sp n (.slice pq n cq) R y vz hz KS KT Lb);have LY:=Le.out x;have KR:Hid (bits .or .i64 (bits .andNot .i64 (MM:Int) (x:Int)) (y:Int)=((OF x ||| y:Nat):Int)):=hid (by rw[Li.out x hx];exact orN _ _ qB qB);clear x7;go_wp2_with fail;refine La.out.mono ?_;rintro e w2 ⟨rfl,v2,h2⟩;go_wp2_with fail;refine(Ld.out _ _ h2).mono ?_;rintro e w3 ⟨rfl,v3,h3⟩;clear K0 KU;have eE:=h3.own;have x8:=h3.cs;have KZ:sp<w3.heap.size:=World.block_lt_of_cell? _ _ x8;have x9:=af R;have kA:=(aa.refl w3).alloc (.cells #[.int .i64 (bits .or .i64 (bits .andNot .i64 (MM:Int) (x:Int)) (y:Int))] 2);have H7:=hid (fun w1 v1 (hg:(w3.alloc (.cells #[.int .i64 (bits .or .i64 (bits .andNot .i64 (MM:Int) (x:Int)) (y:Int))] 2)).grownBy w1 v3.ownBlock) (hr:∀ k,v3.ownBlock=some k→sp+1≤k) (hv:aI w1 (sp+1) v1 (zs (R++[OF x ||| y])))=>(h3.keeps kA).push (st2:=R++[OF x ||| y]) KS KT hg hr hv)
    have x6:∀ w1,(w3.alloc (.cells #[.int .i64 (bits .or .i64 (bits .andNot .i64 (MM:Int) (x:Int)) (y:Int))] 2)).grownBy w1 v3.ownBlock→(∀ k,v3.ownBlock=some k→sp+1≤k)→w1.cell? ⟨sp,0,none⟩=some v3∧w1.frozen? ⟨sp,0,none⟩=false:=fun w1 hg hr=>by
     have h:=dL (kA.cell x8) hg (fun r e=>by have:=hr r e;omega);exact⟨h.1,by rw[h.2];exact(h3.keeps kA).fs⟩
    have h9:=hid x6;clear x6;obtain⟨p2,c2,rfl,-,-,-⟩:=At.of_own eE;rw[x9] at eE x8 H7 h9;have KY:Hid (∀ z:Int,(zs R++[z]).length=R.length+1):=hid (fun z=>by rw[ze,x9];rfl)
    go_wp2_with (at_builtin;refine mw rfl _ _ rfl (sp+1) _ (zs R) rfl (eE.keeps kA) _ [bits .or .i64 (bits .andNot .i64 (MM:Int) (x:Int)) (y:Int)] rfl (aV.lit1 w3 _) (by simp;omega) (by rw[x9];simp;omega) ?_;intro v1 w1 KP H8 H9;obtain⟨g1,g2⟩:=h9.out w1 H8 H9;have KV:=hid (H7.out w1 v1 H8 H9 (by rw[fD,←KR.out];exact KP));obtain⟨p3,c3,rfl,-,-,-⟩:=At.of_own KP)
    go_roundw
    case rel=>exact⟨i,qB,by go_num,_,by rw[hT];have h:=KV.out;rw[KY.out] at h;exact h⟩
    case measure=>simp[intOf]<;>omega
   ·-- box
    subst hS
    have Lb:R.length≤1000000:=by simp at K0;omega
    have Lj:=hid (fun wz (kz:aa w wz)=>Lt.out x wz kz hx);have HD:=hid (x7.keeps (aa.refl wr).drew);have La:=hid (cI w wr.drew bp sp n (.slice pq n cq) R x vS HD.out KS KT Lb);have e0:=x7.c0;have e1:=x7.c1;have f0:=HD.out.c0;have f1:=HD.out.c1;clear x7 K0 KU;go_wp2_with fail
    go_region_held3 (fun w'=>w'.cell? ⟨bp,0,none⟩=some (.int .i64 n)∧w'.cell? ⟨bp,1,none⟩=some (.slice pq n cq)) (first | exact⟨e0,e1⟩ | exact⟨f0,f1⟩ | exact⟨q0,q1⟩) (first
     | (go_at_call 143;refine La.out.mono ?_;rintro e w3 ⟨rfl,v3,h3⟩;have q0:=h3.c0;have q1:=h3.c1;have qk:=h3.kp)
     | (go_at_call 70;refine(Lj.out _ qk).mono ?_;rintro e w4 ⟨rfl,rfl⟩))
    have eE:=h3.own;have x8:=h3.cs;have KZ:sp<w3.heap.size:=World.block_lt_of_cell? _ _ x8;have x9:=af R;have kA:=(aa.refl w3).alloc (.cells #[.int .i64 (((BX x:Nat):Int))] 2);have H7:=hid (fun w1 v1 (hg:(w3.alloc (.cells #[.int .i64 (((BX x:Nat):Int))] 2)).grownBy w1 v3.ownBlock) (hr:∀ k,v3.ownBlock=some k→sp+1≤k) (hv:aI w1 (sp+1) v1 (zs (R++[BX x])))=>(h3.keeps kA).push (st2:=R++[BX x]) KS KT hg hr hv)
    have x6:∀ w1,(w3.alloc (.cells #[.int .i64 (((BX x:Nat):Int))] 2)).grownBy w1 v3.ownBlock→(∀ k,v3.ownBlock=some k→sp+1≤k)→w1.cell? ⟨sp,0,none⟩=some v3∧w1.frozen? ⟨sp,0,none⟩=false:=fun w1 hg hr=>by
     have h:=dL (kA.cell x8) hg (fun r e=>by have:=hr r e;omega);exact⟨h.1,by rw[h.2];exact(h3.keeps kA).fs⟩
    have h9:=hid x6;clear x6;obtain⟨p2,c2,rfl,-,-,-⟩:=At.of_own eE;rw[x9] at eE x8 H7 h9;have KY:Hid (∀ z:Int,(zs R++[z]).length=R.length+1):=hid (fun z=>by rw[ze,x9];rfl);generalize BX x=z at*
    go_wp2_with (at_builtin;refine mw rfl _ _ rfl (sp+1) _ (zs R) rfl (eE.keeps kA) _ [((z:Nat):Int)] rfl (aV.lit1 w3 _) (by simp;omega) (by rw[x9];simp;omega) ?_;intro v1 w1 KP H8 H9;obtain⟨g1,g2⟩:=h9.out w1 H8 H9;have KV:=hid (H7.out w1 v1 H8 H9 (by rw[fD];exact KP));obtain⟨p3,c3,rfl,-,-,-⟩:=At.of_own KP)
    go_roundw
    case rel=>exact⟨i,qB,by go_num,_,by rw[hT];have h:=KV.out;rw[KY.out] at h;exact h⟩
    case measure=>simp[intOf]<;>omega
   ·-- dia
    subst hS
    have Lb:R.length≤1000000:=by simp at K0;omega
    have Lj:=hid (fun wz (kz:aa w wz)=>by have h:=Lt.out (OF x) wz kz (Le.out x);rw[←Li.out x hx] at h;exact h);have KR:=hid (Li.out (BX (OF x)) (LM.out _));have HD:=hid (x7.keeps (aa.refl wr).drew);have La:=hid (cI w wr.drew bp sp n (.slice pq n cq) R x vS HD.out KS KT Lb);have e0:=x7.c0;have e1:=x7.c1;have f0:=HD.out.c0;have f1:=HD.out.c1;clear x7 K0 KU;go_wp2_with fail
    go_region_held3 (fun w'=>w'.cell? ⟨bp,0,none⟩=some (.int .i64 n)∧w'.cell? ⟨bp,1,none⟩=some (.slice pq n cq)) (first | exact⟨e0,e1⟩ | exact⟨f0,f1⟩ | exact⟨q0,q1⟩) (first
     | (go_at_call 143;refine La.out.mono ?_;rintro e w3 ⟨rfl,v3,h3⟩;have q0:=h3.c0;have q1:=h3.c1;have qk:=h3.kp)
     | (go_at_call 70;refine(Lj.out _ qk).mono ?_;rintro e w4 ⟨rfl,rfl⟩))
    have eE:=h3.own;have x8:=h3.cs;have KZ:sp<w3.heap.size:=World.block_lt_of_cell? _ _ x8;have x9:=af R;have kA:=(aa.refl w3).alloc (.cells #[.int .i64 (bits .andNot .i64 (MM:Int) ((BX (OF x):Nat):Int))] 2);have H7:=hid (fun w1 v1 (hg:(w3.alloc (.cells #[.int .i64 (bits .andNot .i64 (MM:Int) ((BX (OF x):Nat):Int))] 2)).grownBy w1 v3.ownBlock) (hr:∀ k,v3.ownBlock=some k→sp+1≤k) (hv:aI w1 (sp+1) v1 (zs (R++[OF (BX (OF x))])))=>(h3.keeps kA).push (st2:=R++[OF (BX (OF x))]) KS KT hg hr hv)
    have x6:∀ w1,(w3.alloc (.cells #[.int .i64 (bits .andNot .i64 (MM:Int) ((BX (OF x):Nat):Int))] 2)).grownBy w1 v3.ownBlock→(∀ k,v3.ownBlock=some k→sp+1≤k)→w1.cell? ⟨sp,0,none⟩=some v3∧w1.frozen? ⟨sp,0,none⟩=false:=fun w1 hg hr=>by
     have h:=dL (kA.cell x8) hg (fun r e=>by have:=hr r e;omega);exact⟨h.1,by rw[h.2];exact(h3.keeps kA).fs⟩
    have h9:=hid x6;clear x6;obtain⟨p2,c2,rfl,-,-,-⟩:=At.of_own eE;rw[x9] at eE x8 H7 h9;have KY:Hid (∀ z:Int,(zs R++[z]).length=R.length+1):=hid (fun z=>by rw[ze,x9];rfl);generalize BX (OF x)=z at*
    go_wp2_with (at_builtin;refine mw rfl _ _ rfl (sp+1) _ (zs R) rfl (eE.keeps kA) _ [bits .andNot .i64 (MM:Int) ((z:Nat):Int)] rfl (aV.lit1 w3 _) (by simp;omega) (by rw[x9];simp;omega) ?_;intro v1 w1 KP H8 H9;obtain⟨g1,g2⟩:=h9.out w1 H8 H9;have KV:=hid (H7.out w1 v1 H8 H9 (by rw[fD,←KR.out];exact KP));obtain⟨p3,c3,rfl,-,-,-⟩:=At.of_own KP)
    go_roundw
    case rel=>exact⟨i,qB,by go_num,_,by rw[hT];have h:=KV.out;rw[KY.out] at h;exact h⟩
    case measure=>simp[intOf]<;>omega
theorem ug {F:Fence} (hd:F.depth=none) (k:Nat):F.room k:=fun d h=>by rw[hd] at h;cases h
theorem YieldAt.wideD {m:Nat} (m':Nat) {P:Program} {l:Nat} {args:Array Value} {W:World} {R:Ending→World→Prop} (h:YieldAt Fence.wide m P l args W R):YieldAt Fence.wide m' P l args W R:=by
 obtain⟨fn,tmps,assign,body,hy,hR⟩:=h;exact⟨fn,tmps,assign,body,hy,⟨hR.1,fun c cs _=>hR.2 c cs (ug rfl _)⟩⟩
theorem Jo (x:Int):∃ r:Nat,bits .and .i64 x 3=(r:Int)∧r<4:=by
 refine⟨(BitVec.ofInt 64 x &&& BitVec.ofInt 64 3).toNat,?_,?_⟩
 ·show IntKind.i64.wrap ((BitVec.ofInt 64 x &&& BitVec.ofInt 64 3).toNat:Int)=_
  have h1:(BitVec.ofInt 64 x &&& BitVec.ofInt 64 3).toNat≤3:=by
   rw[BitVec.toNat_and];exact zx Nat.and_le_right qC
  generalize (BitVec.ofInt 64 x &&& BitVec.ofInt 64 3).toNat=k at h1 ⊢;simp[IntKind.wrap,IntKind.bits,IntKind.signed];omega
 ·rw[BitVec.toNat_and]
  exact Nat.lt_of_le_of_lt Nat.and_le_right qC
structure VFt (VU J:World→Prop) (W:World) (B g:Nat) (vals:List Nat):Prop where
 vu:VU W
 j:J W
 own:aI W B (.slice (some ⟨g,0,none⟩) 6 6) (zs vals)
 len:vals.length=6
 bnd:Bnd 2 vals
theorem VFt.keeps {VU J:World→Prop} {W W':World} {B g:Nat} {vals:List Nat} (h:VFt VU J W B g vals) (eE:∀ A C,VU A→al A C (fun k=>B≤k)→VU C) (hJ:∀ A C,J A→al A C (fun k=>B≤k)→J C) (k:aa W W'):VFt VU J W' B g vals:=
 ⟨eE _ _ h.vu (al.of_keeps k _),hJ _ _ h.j (al.of_keeps k _),h.own.keeps k,h.len,h.bnd⟩
theorem Dm {c:List Nat} {v u:Nat} (hc:Bnd 2 c) (hu:u<4) (hl:c.length=6) (hv:v<6):Bnd 2 (c.set v u):=fun i=>by
 by_cases e:v=i
 ·subst e
  have:(c.set v u).getD v 0=u:=by rw[zi,List.getElem?_set];simp[hl,hv]
  rw[this];exact hu
 ·have:(c.set v u).getD i 0=c.getD i 0:=by rw[zi,List.getElem?_set_ne e,←zi]
  rw[this];exact hc i
theorem VFt.store {VU J:World→Prop} {W:World} {B g:Nat} {vals:List Nat} (h:VFt VU J W B g vals) (h9:∀ A C,VU A→al A C (fun k=>B≤k)→VU C) (hJ:∀ A C,J A→al A C (fun k=>B≤k)→J C) (v u:Nat) (hv:v<6) (hu:u<4):VFt VU J (W.setCell ⟨g,v,none⟩ (.int .i64 u)) B g (vals.set v u):=by
 have hl:v<(zs vals).length:=by rw[af,h.len];exact hv
 have eE:=h.own.store v hl (u:Int);have x6:=(h.own.len g rfl).1
 have ht:al W (W.setCell ⟨g,v,none⟩ (.int .i64 u)) (fun k=>B≤k):=(al.grown eE.2).mono (fun k e=>by
  have e2:k=g:=by simpa using e
  omega)
 exact⟨h9 _ _ h.vu ht,hJ _ _ h.j ht,by rw[Fz];exact eE.1,by simp[h.len],Dm h.bnd hu h.len hv⟩
theorem vl:aG 142:=fun _ _=>by kernel_rfl
theorem CY (VU J:World→Prop) (S:Nat→Prop) (l bv bf:Nat) (vV pv:Value) (V b:List Nat) (W:World) (hb:b.length=2)
  (eE:∀ A,VU A→A.cell? ⟨bv,0,none⟩=some vV∧A.cell? ⟨bf,0,none⟩=some (.int .i64 2)∧A.cell? ⟨bf,1,none⟩=some pv∧aV A vV (zs V)∧aV A pv (zs b))
  (KP:∀ A C,VU A→al A C (fun k=>S k∨k=l∨W.heap.size≤k)→VU C) (hJ:∀ A C,J A→al A C (fun k=>W.heap.size≤k)→J C)
  (hY:∀ vs vv W,J W→aV W vv (zs vs)→vs.length=6→Bnd 2 vs→YieldAt Fence.wide 5 Tryz.prog l #[vv] W fun e W'=>e=.returned (.bool true)∧J W'∧al W W' (fun k=>S k∨k=l))
  (hS:∀ k,S k→k<W.heap.size) (hl:l<W.heap.size) (hV:∀ x∈V,x<6) (Lg:V.length≤6) (h0:VU W) (hj:J W):
  Calls Tryz.prog 142 #[.func (.yield l) #[] #[],.pointer (some ⟨bv,0,none⟩),.pointer (some ⟨bf,0,none⟩)] W
   fun e W'=>(∃ v,e=.returned v)∧J W':=by
 obtain⟨wm,Li,x8,km⟩:=CI W 6 qB;rw[show((6:Nat):Int)=6 from rfl] at Li
 have x9:∀ A C,VU A→al A C (fun k=>W.heap.size≤k)→VU C:=fun A C h k=>KP A C h (k.mono (fun i e=>.inr (.inr e)))
 have H9:VFt VU J wm W.heap.size W.heap.size (List.replicate 6 0):=
  ⟨x9 _ _ h0 (al.of_keeps km _),hJ _ _ hj (al.of_keeps km _),by rw[show zs (List.replicate 6 0)=List.replicate 6 (0:Int) from rfl];exact x8,qD,fun i=>by
   have:(List.replicate 6 0).getD i 0=0:=by rw[zi,List.getElem?_replicate];split<;>rfl
   rw[this];exact Nat.two_pow_pos _⟩
 have H7:=hid H9;have KU:=hid (fun (A C:World) (vals:List Nat) (h:VFt VU J A W.heap.size W.heap.size vals) (k:aa A C)=>h.keeps x9 hJ k);have Le:=hid (fun (A:World) (vals:List Nat) (h:VFt VU J A W.heap.size W.heap.size vals) (v u:Nat) (hv:v<6) (hu:u<4)=>h.store x9 hJ v u hv hu);have KY:=hid eE;have HY:=hid hY;have HV:=hid hV;have KV:=hid (fun A (h:VU A)=>iX (zs V) vV A (eE A h).2.2.2.1);have KT:=hid (fun A (h:VU A)=>jo b pv A (eE A h).2.2.2.2 qB);rw[hb,show((2:Nat):Int)=2 from rfl,show((2^2-1:Nat):Int)=3 from rfl] at KT;rw[af V] at KV
 have Lf:=hid (fun A C vals (h:VFt VU J A W.heap.size W.heap.size vals) (hc:J C) (k:al A C (fun k=>S k∨k=l))=>(show VFt VU J C W.heap.size W.heap.size vals from
  ⟨KP _ _ h.vu (k.mono (fun i e=>e.elim .inl (fun e=>.inr (.inl e)))),hc,h.own.touch k (fun i hi e=>by have:=(h.own.len i hi).1;rcases e with e | e;(have:=hS _ e;omega);omega),h.len,h.bnd⟩))
 obtain⟨c1,c2,c3,r1,r2⟩:=eE _ H9.vu;obtain⟨pV,qV,eV,Lk,KS,-,-⟩:=id r1;obtain⟨pp,qp,ep,-⟩:=id r2;subst eV;subst ep;unfold maxLen at KS;rw[af V] at*;rw[af b,hb] at*;clear eE KP hJ hY hV H9 x8 km h0 hj r1 r2 x9;go_enter Tryz.func142,Tryz.ntmps142;go_wp2_with fail;refine(KV.out wm H7.out.vu).mono ?_;rintro e w' ⟨rfl,rfl⟩
 have Ll:∀ i:Nat,i≤6→IntKind.i64.wrap (2*(i:Int))=2*(i:Int):=fun i hi=>by simp[IntKind.wrap,IntKind.bits,IntKind.signed];omega
 have Lx:=Ll V.length Lg;have Lo:(0:Int)≤2*(V.length:Int):=qB;have Lp:2*(V.length:Int)<64:=qB
 go_upto_region 3 with fail
 have Ln:wrap64 (2^(2*V.length))≤9223372036854775807:=by unfold wrap64;omega
 generalize wrap64 (2^(2*V.length))=NN at*
 go_loopw [17] (fun s wr=>∃ i:Nat,s=.int .i64 i∧((i:Int)≤NN∨i=0)∧∃ vals,Hid (VFt VU J wr W.heap.size W.heap.size vals)) (fun s _=>(NN-intOf s).toNat)
 case atStart=>exact⟨0,rfl,.inr rfl,_,H7⟩
 case round=>
  obtain⟨i,rfl,hi,vals,H8⟩:=hrel;clear c1 c2 c3 H7
  by_cases Lq:(i:Int)<NN
  ·obtain⟨c1,c2,c3,-,-⟩:=KY.out wr H8.out.vu
   go_wp2_with fail;generalize wr=wo at*
   go_loopw [22] (fun s wr=>∃ k:Nat,k≤V.length∧s=.int .i64 k∧∃ vals,Hid (VFt VU J wr W.heap.size W.heap.size vals)) (fun s _=>V.length-(intOf s).toNat)
   case atStart=>exact⟨0,qB,rfl,_,H8⟩
   case round=>
    obtain⟨k,hk,rfl,vals2,h9⟩:=hrel;clear c1 c2 c3;obtain⟨c1,c2,c3,r1,-⟩:=KY.out wr h9.out.vu
    by_cases Lb:k<V.length
    ·have KR:(k:Int)<V.length:=qB
     obtain⟨p',c',e1,-,-,K0,-⟩:=r1;rw[af V] at e1
     cases e1
     obtain⟨bb,off,e,hc⟩:=K0.int k (by rw[af];exact Lb)
     cases e
     rw[gu] at hc;have Lc:=HV.out _ (zo Lb);generalize V[k]=v at*;have Lj:(v:Int)<6:=qB
     have Lr:IntKind.i64.wrap ((V.length:Int)-1)=(V.length:Int)-1:=by simp[IntKind.wrap,IntKind.bits,IntKind.signed];omega
     have Ls:IntKind.i64.wrap ((V.length:Int)-1-(k:Int))=(V.length:Int)-1-(k:Int):=by simp[IntKind.wrap,IntKind.bits,IntKind.signed];omega
     have Lt:IntKind.i64.wrap (2*((V.length:Int)-1-(k:Int)))=2*((V.length:Int)-1-(k:Int)):=by simp[IntKind.wrap,IntKind.bits,IntKind.signed];omega
     have Lu:(0:Int)≤2*((V.length:Int)-1-(k:Int)):=qB;have Lw:2*((V.length:Int)-1-(k:Int))<64:=qB;obtain⟨x6,Lh⟩:=h9.out.own.cell v (by rw[af,h9.out.len];exact Lc)
     obtain⟨old,x7⟩:∃ old,wr.cell? ⟨W.heap.size,v,none⟩=some old:=⟨_,x6⟩
     have Ld:=hid (fun A (kA:aa wr A)=>(show(A.cell? ⟨W.heap.size,v,none⟩=some old∧A.frozen? ⟨W.heap.size,v,none⟩=false)∧A.cell? ⟨bf,0,none⟩=some (.int .i64 2)∧A.cell? ⟨bf,1,none⟩=some (.slice pp 2 qp) from⟨⟨kA.cell x7,by rw[(kA.both).2 _ _ (World.block_lt_of_cell? _ _ x7)];exact Lh⟩,kA.cell c2,kA.cell c3⟩));have KZ:=hid (fun A (kA:aa wr A)=>KU.out _ A _ h9.out kA);clear x6 K0;go_wp2_with fail;obtain⟨x,hx,Lm⟩:=Jo ((i:Int)/2^(2*((V.length:Int)-1-(k:Int))).toNat)
     go_region_law (first | (go_simp;go_at_call 94;refine(KT.out _ (KZ.out _ (by with_reducible (repeat (first | exact aa.refl _ | refine aa.alloc ?_ _ | refine aa.drew ?_)))).vu).mono ?_;rintro e w3 ⟨rfl,k3'⟩;have k3:aa wr w3:=aa.trans (by with_reducible (repeat (first | exact aa.refl _ | refine aa.alloc ?_ _ | refine aa.drew ?_))) k3';obtain⟨⟨g1,g2⟩,g3,g4⟩:=Ld.out w3 k3))
     all_goals
      have HS:=hid (Le.out w3 _ (KZ.out w3 k3) v x Lc Lm);clear g1 g2 g3 g4 hx;go_wp2_with fail;go_roundw
      case rel=>exact⟨k+1,qB,by go_num,_,hid (KU.out _ _ _ HS.out (by with_reducible (repeat (first | exact aa.refl _ | refine aa.alloc ?_ _ | refine aa.drew ?_))))⟩
      case measure=>simp[intOf];omega
    ·have KR:¬(k:Int)<V.length:=qB
     obtain⟨fn,tmps,assign,body,hy,hR⟩:=HY.out vals2 _ wr h9.out.j (h9.out.own.ints (by rw[af,h9.out.len];omega)) h9.out.len h9.out.bnd;clear r1
     go_upto_region 10 with fail
     refine(wpIn_wide (n:=6)).1 ?_
     gi_wp2
     refine hR.mono ?_;rintro e W2 ⟨rfl,La,ht⟩;have HN:=hid (Lf.out wr W2 vals2 h9.out La ht);clear La ht hR hy
     gi_wp2
     go_wp2_with fail;go_roundw
     case rel=>exact⟨i+1,by go_num,.inl (by push_cast;omega),_,HN⟩
     case measure=>simp[intOf];omega
  ·go_wp2_with fail
   go_end0
   exact⟨⟨_,rfl⟩,H8.out.j⟩
end
section
open Go.RowKit
attribute [local go_sem] Oper.semAt_some
theorem aV.rowF {w w':World} {v:Value} {a:List Int} {l:Nat} (h:aV w v a) (hg:w.grownBy w' (some l)) (hl:∃ o:Obj,w.heap[l]? = some o∧o.isCells=false):aV w' v a:=by
 obtain⟨p,cap,e,h1,h2,eE,h4⟩:=h;refine⟨p,cap,e,h1,h2,fun j hj=>?_,h4⟩;obtain⟨b,off,hp,hc⟩:=eE j hj;exact⟨b,off,hp,cell_kept hc hg (fun r e=>by cases e;exact hl)⟩
structure UC2 (w0 W:World) (r:Nat) (pv av:Value) (x:Bool):Prop where
 kp:aa w0 W
 c0:W.cell? ⟨r,0,none⟩=some (.int .i64 2)
 c1:W.cell? ⟨r,1,none⟩=some pv
 ca:W.cell? ⟨r+1,0,none⟩=some av
 cr:W.cell? ⟨r+2,0,none⟩=some (.bool x)
 fr:W.frozen? ⟨r+2,0,none⟩=false
theorem UC2.touch {w0 W W':World} {r:Nat} {pv av:Value} {x:Bool} (h:UC2 w0 W r pv av x) {S:Nat→Prop} (k:al W W' S) (hS:∀ i,S i→r+3≤i) (h0:w0.heap.size≤r):UC2 w0 W' r pv av x:=by
 have k0:=k.cell (World.block_lt_of_cell? _ _ h.c0) (fun e=>by have:=hS _ e;simp at this<;>omega);have k1:=k.cell (World.block_lt_of_cell? _ _ h.ca) (fun e=>by have:=hS _ e;simp at this<;>omega);have k2:=k.cell (World.block_lt_of_cell? _ _ h.cr) (fun e=>by have:=hS _ e;simp at this<;>omega);exact⟨h.kp.touch k (fun i hi=>by have:=hS i hi;omega),by rw[k0.1];exact h.c0,by rw[k0.1];exact h.c1,by rw[k1.1];exact h.ca,by rw[k2.1];exact h.cr,by rw[k2.2];exact h.fr⟩
theorem qK (pv vV:Value) (w:World) (hp:∃ p n c,pv=.slice p n c) (eE:∃ p n c,vV=.slice p n c):
  Calls Tryz.prog 92 #[.agg #[.int .i64 2,pv],vV] w fun e w'=>∃ bv bf,e=.returned (.func (.func 142) #[] #[.pointer (some ⟨bv,0,none⟩),.pointer (some ⟨bf,0,none⟩)])∧
   w.heap.size≤bv∧w.heap.size≤bf∧w'.cell? ⟨bv,0,none⟩=some vV∧w'.cell? ⟨bf,0,none⟩=some (.int .i64 2)∧w'.cell? ⟨bf,1,none⟩=some pv∧aa w w':=by
 obtain⟨pn,nn,cn,rfl⟩:=eE;obtain⟨pq,nq,cq,rfl⟩:=hp;have k1:=(aa.refl w).alloc (.cells #[.int .i64 2,.slice pq nq cq] 41);obtain⟨c0,c1⟩:=jf.made w 2 (.slice pq nq cq) 41;have k2:=(aa.refl (w.alloc (.cells #[.int .i64 2,.slice pq nq cq] 41))).alloc (.cells #[.slice pn nn cn] 35);go_enter Tryz.func92,Tryz.ntmps92;go_wp2_with fail;go_ret;exact⟨w.heap.size+1,w.heap.size,rfl,qB,qB,qD,k2.cell c0,k2.cell c1,k1.trans k2⟩
theorem qt (tmps:Array Value) (W:World) (r:Nat) (h4:tmps.getD 4 undef=.pointer (some ⟨r,0,none⟩)) {y:Bool} (ha:W.cell? ⟨r,0,none⟩=some (.bool y)):
  (results Tryz.f50 tmps).run Tryz.prog W=.ok (.bool y) W:=by
 have hr:Tryz.f50.results=#[.cell 4 4]:=rfl;unfold results;rw[hr];rw[Array.getD_eq_getD_getElem?] at h4;simp[go_sem,loadVar,h4,ha]
theorem y7 (t:Fm):mem (vmL [t.enc])=zs (lR t):=by
 rw[←Ft];unfold vmL
 simp
theorem vC (b:List Nat) (hb:b.length=2) (Ln:Bnd 2 b) (t:Fm) (hw:t.wf) (hN:t.enc.length≤1000000) (hT:∀ vs,Bnd 2 vs→vs.length=6→trB b vs t=3) (pv v:Value) (w:World)
  (K0:aV w pv (zs b)) (hv:Nds w v t.enc):
  Calls Tryz.prog 50 #[.agg #[.int .i64 2,pv],v] w fun e w'=>e=.returned (.bool true)∧aa w w':=by
 have Lc:(zs b).length=2:=by rw[af,hb]
 have KU:=hv;have H9:=K0;obtain⟨pq,cq,epv,-⟩:=K0;rw[Lc] at epv;subst epv;obtain⟨pn,cn,rfl,-⟩:=hv;have KY:=hid (fun w2 (k:aa w w2)=>jQ [t.enc] _ _ (bW.lit1 (KU.keeps k)) (fun x hx=>by rw[List.mem_singleton.1 hx];exact List.all_eq_true.2 (mX hw)));rw[y7] at KY;have Lj:=hid (fun vV w2 (x7:∃ p n c,vV=Value.slice p n c)=>qK (.slice pq 2 cq) vV w2 ⟨_,_,_,rfl⟩ x7)
 have Li:=hid (fun vs vv w2 (k:aa w w2) (h1:Bnd 2 vs) (h6:vs.length=6) (h3:aV w2 vv (zs vs))=>(show Calls Tryz.prog 93 #[.agg #[.int .i64 2,.slice pq 2 cq],vv,.slice pn t.enc.length cn] w2 fun e w'=>e=.returned (.int .i64 3)∧aa w2 w' from by
  have h:=wW b vs qB (by rw[hb];exact Ln) (by rw[hb];exact h1) h6 t hw hN _ vv _ w2 (H9.keeps k) h3 (KU.keeps k);rw[hT vs h1 h6,hb] at h
  exact h))
 have Ld:=hid (fun w2 (k:aa w w2)=>(show Calls Tryz.prog 94 #[.agg #[.int .i64 2,.slice pq 2 cq]] w2 fun e w'=>e=.returned (.int .i64 3)∧aa w2 w' from by
  have h:=jo b _ w2 (H9.keeps k) qB;rw[hb] at h
  exact h))
 have Lh:=hid (fun w2 (k:aa w w2)=>H9.keeps k);clear KU H9 Lc hT;refine(callsIn_wide (n:=9)).1 ?_;refine callsIn_of_wp_marks Tryz.func50 rfl trivial ?_ rfl;simp only[Tryz.ntmps50,List.size_toArray,zh,List.length_nil,Nat.reduceAdd,Nat.reduceSub,Array.replicate_succ,Array.replicate_zero,List.push_toArray,List.append_toArray,List.nil_append,List.cons_append]
 obtain⟨w1,x9⟩:∃ w1,w1=w.alloc (.cells #[.int .i64 2,.slice pq 2 cq] 41):=⟨_,rfl⟩
 obtain⟨w2,H7⟩:∃ w2,w2=w1.alloc (.cells #[.slice pn t.enc.length cn] 50):=⟨_,rfl⟩
 obtain⟨w3,H8⟩:∃ w3,w3=w2.alloc (.cells #[.bool false] 4):=⟨_,rfl⟩
 have k1:aa w w1:=by rw[x9];exact(aa.refl w).alloc _
 have k2:aa w1 w2:=by rw[H7];exact(aa.refl w1).alloc _
 have k3:aa w2 w3:=by rw[H8];exact(aa.refl w2).alloc _
 have s1:w1.heap.size=w.heap.size+1:=by rw[x9];simp
 have s2:w2.heap.size=w.heap.size+2:=by rw[H7];simp;omega
 have eE:UC2 w w3 w.heap.size (.slice pq 2 cq) (.slice pn t.enc.length cn) false:=by
  obtain⟨x0,x1⟩:=jf.made w 2 (.slice pq 2 cq) 41
  have y2:w2.cell? ⟨w.heap.size+1,0,none⟩=some (.slice pn t.enc.length cn):=by rw[H7,←s1];simp
  have z2:w3.cell? ⟨w.heap.size+2,0,none⟩=some (.bool false):=by rw[H8,←s2];simp
  have z3:w3.frozen? ⟨w.heap.size+2,0,none⟩=false:=by rw[H8,←s2];simp
  rw[←x9] at x0 x1;have kk:=k2.trans k3;exact⟨k1.trans kk,kk.cell x0,kk.cell x1,k3.cell y2,z2,z3⟩
 clear k1 k2 k3
 gi_wp2
 rw[←x9,←H7,←H8]
 obtain⟨wA,Lb⟩:∃ wA,wA=w3:=⟨_,rfl⟩
 rw[←Lb] at eE ⊢;clear Lb H8 H7 x9 s1 s2;refine wpIn_wide.2 ?_;have HC:=hid (fun W (kW:aa wA W)=>(show W.cell? ⟨w.heap.size,0,none⟩=some (.int .i64 2)∧W.cell? ⟨w.heap.size,1,none⟩=some (.slice pq 2 cq)∧W.cell? ⟨w.heap.size+1,0,none⟩=some (.slice pn t.enc.length cn) from⟨kW.cell eE.c0,kW.cell eE.c1,kW.cell eE.ca⟩));have KV:=hid eE.kp;have Le:=hid eE;clear eE
 go_region_held3 (fun W=>W.cell? ⟨w.heap.size,0,none⟩=some (.int .i64 2)∧W.cell? ⟨w.heap.size,1,none⟩=some (.slice pq 2 cq)∧W.cell? ⟨w.heap.size+1,0,none⟩=some (.slice pn t.enc.length cn)) (first | (refine HC.out _ ?_;(with_reducible (repeat (first | exact aa.refl _ | exact k7 | exact k6 | refine aa.alloc ?_ _ | refine aa.drew ?_)));done)) (first
  | (go_at_call 91;refine(KY.out wA.drew KV.out.drew).mono ?_;rintro e w6 ⟨vV,rfl,x7,k6'⟩;have k6:aa wA w6:=aa.trans (by with_reducible (repeat (first | exact aa.refl _ | refine aa.alloc ?_ _ | refine aa.drew ?_))) k6';have Ls:=x7.len;obtain⟨pvv,qvv,rfl,-,-,-⟩:=At.of_own x7)
  | (go_at_call 92;refine(Lj.out (.slice pvv (zs (lR t)).length qvv) w6 ⟨_,_,_,rfl⟩).mono ?_;rintro e w7 ⟨bv,bf,rfl,Lw,Lu,cv,cf0,cf1,k7'⟩;have k7:aa wA w7:=k6.trans k7'))
 have KP:=Le.out.touch (al.of_keeps k7 (fun _=>False)) (fun _ e=>e.elim) (zm _);have x8:=x7.keeps k7';have Lr:=x8.len;have Lo:bv<w7.heap.size:=World.block_lt_of_cell? _ _ cv;have Lm:bf<w7.heap.size:=World.block_lt_of_cell? _ _ cf0;have Ly:w.heap.size+2<w7.heap.size:=World.block_lt_of_cell? _ _ KP.cr;have La:=k7'.size
 have Lx:w.heap.size≤(wA.drew.alloc (.cells #[.slice pn t.enc.length cn] 50)).heap.size:=by
  have h1:=KV.out.size;have h2:=((aa.refl wA).drew.alloc (.cells #[.slice pn t.enc.length cn] 50)).size;omega
 have Lp:w.heap.size≤w6.heap.size:=by
  have:=k6'.size;omega
 generalize (wA.drew.alloc (.cells #[.slice pn t.enc.length cn] 50))=wB at*
 have Lq:(zs (lR t)).length≤6:=by
  rw[af];have:=List.length_filter_le (fun j=>(vm t.enc).testBit j) (List.range 6);unfold lR tZ
  simpa using this
 gi_wp2
 refine qM (gf:=142) (lb:=#[.pointer (some ⟨bv,0,none⟩),.pointer (some ⟨bf,0,none⟩)]) rfl vl (fun x:(Option Addr×Nat×Nat)×List Nat=>.slice x.1.1 x.1.2.1 x.1.2.2) rfl
  (fun x W=>aV W (.slice x.1.1 x.1.2.1 x.1.2.2) (zs x.2)∧x.2.length=6∧Bnd 2 x.2) (fun x A B l h hg hl=>⟨h.1.rowF hg hl,h.2⟩) (fun _=>true) true (fun _=>False) (fun k hk=>hk.elim)
  (fun W=>UC2 w W w.heap.size (.slice pq 2 cq) (.slice pn t.enc.length cn) false) (fun _=>False)
  (fun A B h k=>h.touch k (fun i hi=>by omega) (zm _)) (fun A B h k=>h) KP
  (fun x=>{ tmps:=#[.agg #[.int .i64 2,.slice pq 2 cq],.slice pn t.enc.length cn,.pointer (some ⟨w.heap.size,0,none⟩),.pointer (some ⟨w.heap.size+1,0,none⟩),.pointer (some ⟨w.heap.size+1+1,0,none⟩),.slice x.1.1 x.1.2.1 x.1.2.2,
   .agg #[.int .i64 2,.slice pq 2 cq],.slice pn t.enc.length cn,.slice (some ⟨wA.heap.size,0,none⟩) 1 1,.slice pvv (zs (lR t)).length qvv,.func (.func 142) #[] #[.pointer (some ⟨bv,0,none⟩),.pointer (some ⟨bf,0,none⟩)],
   .slice x.1.1 x.1.2.1 x.1.2.2,undef,undef,undef,undef,undef,undef,undef],defers:=[] }) ?seq ?assign ?body ?done ?stop
 case seq=>
  intro J Jx W1 Lz h9 hJ Lt hY hj;refine callsIn_wide.2 ?_
  refine(CY (fun A=>A.cell? ⟨bv,0,none⟩=some (.slice pvv (zs (lR t)).length qvv)∧A.cell? ⟨bf,0,none⟩=some (.int .i64 2)∧A.cell? ⟨bf,1,none⟩=some (.slice pq 2 cq)∧aI A wB.heap.size (.slice pvv (zs (lR t)).length qvv) (zs (lR t))∧aa w A) J (fun _=>False) (w7.heap.size+1) bv bf
   (.slice pvv (zs (lR t)).length qvv) (.slice pq 2 cq) (lR t) b W1 hb ?_ ?_ (fun A C h k=>hJ A C h (k.mono (fun i hi=>by omega))) ?_ (fun k hk=>hk.elim) qB (fun x hx=>GZ hx) (by rw[←af];exact Lq) ⟨h9.cell cv,h9.cell cf0,h9.cell cf1,x8.keeps h9,KP.kp.trans h9⟩ hj).mono (fun e W h=>⟨h.1,h.2⟩)
  ·rintro A ⟨x1,x2,x3,x4,x5⟩
   exact⟨x1,x2,x3,x4.ints qB,Lh.out A x5⟩
  ·rintro A C ⟨x1,x2,x3,x4,x5⟩ k
   refine⟨?_,?_,?_,x4.touch k (fun i hi e=>by have:=Lr i hi;rcases e with e | e | e;exact e;omega;omega),x5.touch k (fun i e=>by rcases e with e | e | e;exact e.elim;omega;omega)⟩
   ·rw[(k.cell (World.block_lt_of_cell? _ _ x1) (fun e=>by simp only at e;rcases e with e | e | e;exact e;omega;omega)).1];exact x1
   ·rw[(k.cell (World.block_lt_of_cell? _ _ x2) (fun e=>by simp only at e;rcases e with e | e | e;exact e;omega;omega)).1];exact x2
   ·rw[(k.cell (World.block_lt_of_cell? _ _ x3) (fun e=>by simp only at e;rcases e with e | e | e;exact e;omega;omega)).1];exact x3
  ·intro vs vv W Lk hi h6 KR
   obtain⟨p,cap,rfl,_⟩:=id hi;exact YieldAt.wideD 5 (hY ((p,(zs vs).length,cap),vs) W Lk ⟨hi,h6,KR⟩)
 case assign=>
  intro l x W K hK
  gi_wp2
  exact hK
 case body=>
  rintro l x W hu ⟨hi,h6,KR⟩;have d0:=hu.c0;have d1:=hu.c1;have d2:=hu.ca;have Lf:=hid (fun W2 (k:aa W W2)=>Li.out x.2 _ W2 (hu.kp.trans k) KR h6 (hi.keeps k));have Lg:=hid (fun W2 (k:aa W W2)=>Ld.out W2 (hu.kp.trans k))
  gi_wp2
  gi_region_with (first
   | (refine⟨trivial,?_⟩;refine(CallsIn.inRound l (callsIn_wide.2 (Lf.out _ (by with_reducible (repeat (first | exact aa.refl _ | refine aa.alloc ?_ _ | refine aa.drew ?_)))))).mono ?_;rintro e wa ⟨rfl,ka'⟩;have ka:aa W wa:=aa.trans (by with_reducible (repeat (first | exact aa.refl _ | refine aa.alloc ?_ _ | refine aa.drew ?_))) ka';have a0:=ka.cell d0;have a1:=ka.cell d1;have a2:=ka.cell d2)
   | (refine⟨trivial,?_⟩;refine(CallsIn.inRound l (callsIn_wide.2 (Lg.out _ ka))).mono ?_;rintro e wb ⟨rfl,kb'⟩;have kb:aa W wb:=ka.trans kb'))
  all_goals
   have KS:=hid (show Hr true (fun W=>UC2 w W w.heap.size (.slice pq 2 cq) (.slice pn t.enc.length cn) false) (fun _=>False) (fun _=>False) W .normal wb from⟨rfl,hu.touch (al.of_keeps kb (fun _=>False)) (fun _ e=>e.elim) (zm _),al.of_keeps kb _⟩)
   gi_wp2
   exact KS.out
 case done=>
  rintro W KT hu hD;have z1:W.cell? ⟨w.heap.size+1+1,0,none⟩=some (.bool false):=hu.cr;have z2:W.frozen? ⟨w.heap.size+1+1,0,none⟩=false:=hu.fr;have t1:al W (W.setCell ⟨w.heap.size+1+1,0,none⟩ (.bool true)) (fun k=>k=w.heap.size+2):=(al.grown (db (w.heap.size+1+1) 0 (.bool true))).mono (fun k e=>by simpa using e);have y1:(W.setCell ⟨w.heap.size+1+1,0,none⟩ (.bool true)).cell? ⟨w.heap.size+2,0,none⟩=some (.bool true):=World.cell?_setCell_same _ _ (.bool true) z1
  have KZ:(W.setCell ⟨w.heap.size+1+1,0,none⟩ (.bool true)).heap[w7.heap.size]? = some (.deferred (some [])):=by
   rw[t1.block _ (Array.getElem?_eq_some_iff.1 hD).1 (fun e=>by omega)];exact hD
  have kk1:=hu.kp.touch t1 (fun i hi=>by omega)
  gi_wp2
  refine⟨qD,.inl ⟨_,_,rfl,run_takeDeferred KZ,?_⟩⟩
  obtain⟨W2,Ll⟩:∃ W2,W2=W.setCell ⟨w.heap.size+1+1,0,none⟩ (.bool true):=⟨_,rfl⟩
  rw[←Ll] at y1 KZ kk1 ⊢;have x6:al W2 (W2.putObj w7.heap.size (.deferred none)) (fun k=>k=w7.heap.size):=(al.grown (grownBy_putObj' W2 w7.heap.size _)).mono (fun k e=>by simpa using e)
  have q1:(W2.putObj w7.heap.size (.deferred none)).cell? ⟨w.heap.size+2,0,none⟩=some (.bool true):=by rw[(x6.cell (World.block_lt_of_cell? _ _ y1) (fun e=>by simp only at e;omega)).1];exact y1
  exact⟨_,qt _ _ (w.heap.size+2) rfl q1,rfl,kk1.touch x6 (fun i hi=>by omega)⟩
 case stop=>
  rintro W KT hx hD;exact hx.elim
end
end Go.Proofs.YtagoboblkadelaaGreat
