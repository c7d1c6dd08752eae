import Derived.Test.YtbccmdfdclomiaaGreatDoorHNH
/- own -/
namespace Go.Proofs.YtbccmdfdclomiaaGreatDoor
set_option maxRecDepth 20000
set_option maxHeartbeats 4000000
open Go.RowKit
def nSur (L:Nat) (ns:List Nee) (N:Nat) (S:List Bool) (m:Nat):Bool:=
 (decide (L≠1)||(List.range N).any fun t=>S.getD t false&&nSee L ns m t)&&ns.all fun n=>n.dem m||(List.range N).any fun t=>S.getD t false&&nWit L ns m t n
structure TyA (w:World) (r L N:Nat) (ns:List Nee) (S:List Bool):Prop where
 ty:TyN w r L N ns
 c3:w.cell? ⟨r,3,none⟩=some (.int .i64 N)
 c5:∃ v,w.cell? ⟨r,5,none⟩=some v∧Bools w v S
 hS:S.length=N
theorem TyA.keeps {w w':World} {r L N:Nat} {ns:List Nee} {S:List Bool} (h:TyA w r L N ns S) (k:Keeps w w'):TyA w' r L N ns S:=by
 obtain ⟨v,h1,h2⟩:=h.c5;exact ⟨h.ty.keeps k,k.cell h.c3,⟨v,k.cell h1,h2.keeps k⟩,h.hS⟩
theorem rng_drop (pr:Nat→Bool) (N k:Nat) (h:k<N):idxOf pr ((List.range N).drop k) k=if pr k then (k:Int) else idxOf pr ((List.range N).drop (k+1)) (k+1):=by
 rw [idxOf_drop pr (List.range N) k (by simpa using h)]
 simp
theorem rng_end (pr:Nat→Bool) (N:Nat):idxOf pr ((List.range N).drop N) N = -1:=idxOf_end _ _ _ (by simp)
theorem leastWitness_any (r L N:Nat) (ns:List Nee) (S:List Bool) (n:Nee) (hn:n∈ns) (q:Option Addr) (c:Nat) (m:Nat) (hm:m<N) (w:World) (h:TyA w r L N ns S) (hq:Bools w (.slice q n.inn.length c) n.inn):
  Calls Tryz.prog 234 #[.pointer (some ⟨r,0,none⟩),.agg #[.int .i64 n.ix,.int .i64 n.kd,.slice q n.inn.length c],.int .i64 m] w
   fun e w'=>e=.returned (.int .i64 (idxOf (fun t=>S.getD t false&&nWit L ns m t n) (List.range N) 0))∧Keeps w w':=by
 have hN:=h.ty.hN;have kA:=(Keeps.refl w).alloc (.cells #[.int .i64 n.ix,.int .i64 n.kd,.slice q n.inn.length c] 190);obtain ⟨d0,d1,d2⟩:=box3 w (.int .i64 n.ix) (.int .i64 n.kd) (.slice q n.inn.length c) 190;have HA:=hid (h.keeps kA);have HW:=hid (fun t (ht:t<N) wz (kz:Keeps w wz)=>isWitness_any r L N ns n hn q c m t hm ht wz (h.ty.keeps kz) (hq.keeps kz));have c3:=kA.cell h.c3;have HE:=hid (rng_end (fun t=>S.getD t false&&nWit L ns m t n) N);have HR:=hid (fun k hk=>rng_drop (fun t=>S.getD t false&&nWit L ns m t n) N k hk);have hS:=h.hS;clear h hq hm hn;generalize n.inn.length=l at*;generalize n.kd=kd at*;generalize n.ix=ix at*;generalize hpr:(fun t=>S.getD t false&&nWit L ns m t n)=pr at*;have HPR:Hid (∀ t,pr t=(S.getD t false&&nWit L ns m t n)):=hid (fun t=>by rw [←hpr]);clear hpr;generalize hwr:(fun t=>nWit L ns m t n)=wt at*;have HWT:Hid (∀ t,nWit L ns m t n=wt t):=hid (fun t=>by rw [←hwr]);clear hwr;go_enter Tryz.func234,Tryz.ntmps234;go_wp2_with fail
 go_loopw [6,12] (fun o i' wr=>∃ k:Nat,k≤N∧idxOf pr (List.range N) 0=idxOf pr ((List.range N).drop k) k∧Keeps (w.alloc (.cells #[.int .i64 ix,.int .i64 kd,.slice q l c] 190)) wr∧i'=.int .i64 k∧o=.int .i64 0) (fun _ i _=>N-(intOf i).toNat)
 case atStart=>exact ⟨0,by omega,by simp,Keeps.refl _,rfl,rfl⟩
 case round=>
  obtain ⟨k,hk,hs,kw,rfl,rfl⟩:=hrel;have Hs:=hid hs;clear hs
  by_cases hlt:k<N
  ·have hlt':(k:Int)<N:=by omega
   have hA:=HA.out.keeps kw;obtain ⟨v,c5,hb⟩:=hA.c5;obtain ⟨p5,cap5,rfl,hl5,hx5,hat,-⟩:=hb;unfold maxLen at hx5;obtain ⟨b5,o5,rfl,h5⟩:=hat.bool k (by omega)
   have hkS:(k:Int)<S.length:=by omega
   have e0:=kw.cell d0;have e1:=kw.cell d1;have e2:=kw.cell d2
   have hgd:S.getD k false=S[k]:=by rw [List.getD_eq_getElem?_getD,List.getElem?_eq_getElem (by omega)];rfl
   have hpk:=HPR.out k;have hrd:=HR.out k hlt;rw [hgd,HWT.out k] at hrd;have HRD:=hid hrd;have hwk:=HW.out k hlt wr (kA.trans kw);rw [HWT.out k] at hwk;have HWK:=hid hwk;clear hA hat hpk hgd hrd hwk d0 d1 d2 c3;generalize S[k]=y at*;rw [hS] at hl5 hkS c5;clear hS;generalize wt k=z at*
   cases y
   ·go_wp2_with fail
    go_roundw
    case rel=>exact ⟨k+1,by omega,by rw [Hs.out,HRD.out];rfl,kw,by go_num,rfl⟩
    case measure=>simp [intOf];omega
   ·go_wp2_with fail
    refine HWK.out.mono ?_;rintro e w3 ⟨rfl,k3⟩
    cases z
    ·go_wp2_with fail
     go_roundw
     case rel=>exact ⟨k+1,by omega,by rw [Hs.out,HRD.out];rfl,kw.trans k3,by go_num,rfl⟩
     case measure=>simp [intOf];omega
    ·go_wp2_with fail
     go_ret;exact ⟨ret_int (by rw [Hs.out,HRD.out];rfl),(kA.trans kw).trans k3⟩
  ·have hlt':¬(k:Int)<N:=by omega
   obtain rfl:k=N:=by omega
   go_wp2;go_ret;exact ⟨ret_int (by rw [Hs.out,HE.out]),kA.trans kw⟩
theorem leastSeen_any (r L N:Nat) (ns:List Nee) (S:List Bool) (m:Nat) (hm:m<N) (w:World) (h:TyA w r L N ns S):
  Calls Tryz.prog 232 #[.pointer (some ⟨r,0,none⟩),.int .i64 m] w
   fun e w'=>e=.returned (.int .i64 (idxOf (fun t=>S.getD t false&&nSee L ns m t) (List.range N) 0))∧Keeps w w':=by
 have hN:=h.ty.hN;have HA:=hid h;have HW:=hid (fun t (ht:t<N) wz (kz:Keeps w wz)=>sees_any r L N ns m t hm ht wz (h.ty.keeps kz));have c3:=h.c3;have HE:=hid (rng_end (fun t=>S.getD t false&&nSee L ns m t) N);have HR:=hid (fun k hk=>rng_drop (fun t=>S.getD t false&&nSee L ns m t) N k hk);have hS:=h.hS;clear h hm;generalize hpr:(fun t=>S.getD t false&&nSee L ns m t)=pr at*;have HPR:Hid (∀ t,pr t=(S.getD t false&&nSee L ns m t)):=hid (fun t=>by rw [←hpr]);clear hpr;go_enter Tryz.func232,Tryz.ntmps232;go_wp2_with fail
 go_loopw [4,10] (fun o i' wr=>∃ k:Nat,k≤N∧idxOf pr (List.range N) 0=idxOf pr ((List.range N).drop k) k∧Keeps w wr∧i'=.int .i64 k∧o=.int .i64 0) (fun _ i _=>N-(intOf i).toNat)
 case atStart=>exact ⟨0,by omega,by simp,Keeps.refl _,rfl,rfl⟩
 case round=>
  obtain ⟨k,hk,hs,kw,rfl,rfl⟩:=hrel;have Hs:=hid hs;clear hs
  by_cases hlt:k<N
  ·have hlt':(k:Int)<N:=by omega
   have hA:=HA.out.keeps kw;obtain ⟨v,c5,hb⟩:=hA.c5;obtain ⟨p5,cap5,rfl,hl5,hx5,hat,-⟩:=hb;unfold maxLen at hx5;obtain ⟨b5,o5,rfl,h5⟩:=hat.bool k (by omega)
   have hkS:(k:Int)<S.length:=by omega
   have hgd:S.getD k false=S[k]:=by rw [List.getD_eq_getElem?_getD,List.getElem?_eq_getElem (by omega)];rfl
   have hpk:=HPR.out k;have hrd:=HR.out k hlt;rw [hgd] at hrd;have HRD:=hid hrd;have hwk:=HW.out k hlt wr kw;have HWK:=hid hwk;clear hA hat hpk hgd hrd hwk c3;generalize S[k]=y at*;rw [hS] at hl5 hkS c5;clear hS;generalize nSee L ns m k=z at*
   cases y
   ·go_wp2_with fail
    go_roundw
    case rel=>exact ⟨k+1,by omega,by rw [Hs.out,HRD.out];rfl,kw,by go_num,rfl⟩
    case measure=>simp [intOf];omega
   ·go_wp2_with fail
    refine HWK.out.mono ?_;rintro e w3 ⟨rfl,k3⟩
    cases z
    ·go_wp2_with fail
     go_roundw
     case rel=>exact ⟨k+1,by omega,by rw [Hs.out,HRD.out];rfl,kw.trans k3,by go_num,rfl⟩
     case measure=>simp [intOf];omega
    ·go_wp2_with fail
     go_ret;exact ⟨ret_int (by rw [Hs.out,HRD.out];rfl),kw.trans k3⟩
  ·have hlt':¬(k:Int)<N:=by omega
   obtain rfl:k=N:=by omega
   go_wp2;go_ret;exact ⟨ret_int (by rw [Hs.out,HE.out]),kw⟩
theorem idx_neg {α:Type} (pr:α→Bool) (l:List α) (b:Bool) (h:l.any pr=b):(b=true→0≤idxOf pr l 0)∧(b=false→idxOf pr l 0<0):=by
 have:=idxOf_any pr l 0;rw [h] at this;constructor
 ·rintro rfl;exact of_decide_eq_true this
 ·rintro rfl
  have:=of_decide_eq_false this;omega
theorem survives1_any (r L N:Nat) (ns:List Nee) (S:List Bool) (n:Nee) (hn:n∈ns) (q:Option Addr) (c:Nat) (m:Nat) (hm:m<N) (gm gy:Nat) (w:World) (h:TyA w r L N ns S) (hq:Bools w (.slice q n.inn.length c) n.inn)
  (c1:w.cell? ⟨gm,0,none⟩=some (.int .i64 m)) (c2:w.cell? ⟨gy,0,none⟩=some (.pointer (some ⟨r,0,none⟩))):
  Calls Tryz.prog 233 #[.agg #[.int .i64 n.ix,.int .i64 n.kd,.slice q n.inn.length c],.pointer (some ⟨gm,0,none⟩),.pointer (some ⟨gy,0,none⟩)] w
   fun e w'=>e=.returned (.bool (!(n.dem m||(List.range N).any fun t=>S.getD t false&&nWit L ns m t n)))∧Keeps w w':=by
 have hN:=h.ty.hN;have kA:=(Keeps.refl w).alloc (.cells #[.int .i64 n.ix,.int .i64 n.kd,.slice q n.inn.length c] 190);obtain ⟨d0,d1,d2⟩:=box3 w (.int .i64 n.ix) (.int .i64 n.kd) (.slice q n.inn.length c) 190
 replace c1:=kA.cell c1
 replace c2:=kA.cell c2
 have HD:=hid (fun wz=>demands_any n (h.ty.hi n hn) m (by omega) q n.inn.length c wz);have HL:=hid (fun wz (kz:Keeps w wz)=>leastWitness_any r L N ns S n hn q c m hm wz (h.keeps kz) (hq.keeps kz));obtain ⟨hp,hng⟩:=idx_neg (fun t=>S.getD t false&&nWit L ns m t n) (List.range N) _ rfl;clear h hq hm hn;generalize n.inn.length=l at*;generalize n.kd=kd at*;generalize n.ix=ix at*;generalize n.dem m=x at*;generalize ((List.range N).any fun t=>S.getD t false&&nWit L ns m t n)=y at*;generalize idxOf (fun t=>S.getD t false&&nWit L ns m t n) (List.range N) 0=j at*;go_enter Tryz.func233,Tryz.ntmps233;go_wp2_with fail;refine (HD.out _).mono ?_;rintro e w2 ⟨rfl,k2⟩
 replace d0:=k2.cell d0
 replace d1:=k2.cell d1
 replace d2:=k2.cell d2
 replace c1:=k2.cell c1
 replace c2:=k2.cell c2
 cases x
 ·go_wp2_with fail
  refine (HL.out _ (kA.trans k2)).mono ?_;rintro e w3 ⟨rfl,k3⟩
  cases y
  ·have hj:=hng rfl
   clear hp hng;go_wp2_with fail;go_ret;exact ⟨ret_bool (by simp),(kA.trans k2).trans k3⟩
  ·have hj:=hp rfl
   have hj':¬j<0:=by omega
   clear hp hng;go_wp2_with fail;go_ret;exact ⟨ret_bool (by simpa using hj),(kA.trans k2).trans k3⟩
 ·clear hp hng
  go_wp2_with fail;go_ret;exact ⟨rfl,kA.trans k2⟩
theorem enters_survives1:Enters 233:=fun _ _=>by kernel_rfl
theorem survives_any (r L N:Nat) (ns:List Nee) (S:List Bool) (m:Nat) (hm:m<N) (w:World) (h:TyA w r L N ns S):
  Calls Tryz.prog 210 #[.pointer (some ⟨r,0,none⟩),.int .i64 m] w fun e w'=>e=.returned (.bool (nSur L ns N S m))∧Keeps w w':=by
 obtain ⟨kA,cy,cm⟩:=two w (.pointer (some ⟨r,0,none⟩)) (.int .i64 m) 157 2;have hA:=h.keeps kA;have d0:=hA.ty.c0;have hD:=isD L h.ty.hL;obtain ⟨v,d2,hne⟩:=hA.ty.c2;have HL:=hid (leastSeen_any r L N ns S m hm _ hA)
 have HC:=hid (fun wz (kz:Keeps ((w.alloc (.cells #[.pointer (some ⟨r,0,none⟩)] 157)).alloc (.cells #[.int .i64 m] 2)) wz)=>containsFuncNe (fun n=>!(n.dem m||(List.range N).any fun t=>S.getD t false&&nWit L ns m t n)) 233 #[.pointer (some ⟨w.heap.size+1,0,none⟩),.pointer (some ⟨w.heap.size,0,none⟩)] ns v wz (hne.keeps kz) enters_survives1
  (fun n q c w1 hn k1 hb=>survives1_any r L N ns S n hn q c m hm _ _ w1 (hA.keeps (kz.trans k1)) hb ((kz.trans k1).cell cm) ((kz.trans k1).cell cy)))
 rw [any_not] at HC;obtain ⟨hp,hng⟩:=idx_neg (fun t=>S.getD t false&&nSee L ns m t) (List.range N) _ rfl;have HS:Hid (nSur L ns N S m=((!decide (L=1)||(List.range N).any fun t=>S.getD t false&&nSee L ns m t)&&ns.all fun n=>n.dem m||(List.range N).any fun t=>S.getD t false&&nWit L ns m t n)):=hid (by unfold nSur;rw [decide_not]);obtain ⟨p,c,rfl,-⟩:=hne;clear h hA;generalize nSur L ns N S m=P at*;generalize ((List.range N).any fun t=>S.getD t false&&nSee L ns m t)=y at*;generalize idxOf (fun t=>S.getD t false&&nSee L ns m t) (List.range N) 0=j at*;generalize (ns.all fun n=>n.dem m||(List.range N).any fun t=>S.getD t false&&nWit L ns m t n)=z at*;generalize lgS L=s at*;generalize decide (L=1)=u at*;go_enter Tryz.func210,Tryz.ntmps210
 cases u
 ·clear hp hng
  go_wp2_with fail;refine (HC.out _ (Keeps.refl _)).mono ?_;rintro e w2 ⟨rfl,k2⟩;go_wp2_with fail;go_ret;exact ⟨ret_bool (by rw [HS.out];cases z<;>rfl),kA.trans k2⟩
 ·go_wp2_with fail
  refine HL.out.mono ?_;rintro e w2 ⟨rfl,k2⟩;have ey:=k2.cell cy;have ed:=k2.cell d2
  cases y
  ·have hj:=hng rfl
   clear hp hng;go_wp2_with fail;go_ret;exact ⟨ret_bool (by rw [HS.out];rfl),kA.trans k2⟩
  ·have hj:=hp rfl
   have hj':¬j<0:=by omega
   clear hp hng;go_wp2_with fail;refine (HC.out _ k2).mono ?_;rintro e w3 ⟨rfl,k3⟩;go_wp2_with fail;go_ret;exact ⟨ret_bool (by rw [HS.out];cases z<;>rfl),(kA.trans k2).trans k3⟩
theorem refuting_any (r N:Nat) (hN:N≤256) (S R:List Bool) (hS:S.length=N) (hR:R.length=N) (v4 v5:Value) (w:World) (c3:w.cell? ⟨r,3,none⟩=some (.int .i64 N)) (c4:w.cell? ⟨r,4,none⟩=some v4) (c5:w.cell? ⟨r,5,none⟩=some v5) (h4:Bools w v4 R) (h5:Bools w v5 S):
  Calls Tryz.prog 138 #[.pointer (some ⟨r,0,none⟩)] w
   fun e w'=>e=.returned (.int .i64 (idxOf (fun t=>S.getD t false&&R.getD t false) (List.range N) 0))∧w=w':=by
 have HE:=hid (rng_end (fun t=>S.getD t false&&R.getD t false) N);have HR:=hid (fun k hk=>rng_drop (fun t=>S.getD t false&&R.getD t false) N k hk);generalize hpr:(fun t=>S.getD t false&&R.getD t false)=pr at*;obtain ⟨p4,cap4,rfl,hl4,hx4,hat4,-⟩:=h4;obtain ⟨p5,cap5,rfl,hl5,hx5,hat5,-⟩:=h5;unfold maxLen at hx4 hx5;have HA4:=hid (fun i (h:i<R.length)=>hat4.bool i h);have HA5:=hid (fun i (h:i<S.length)=>hat5.bool i h);have HGS:Hid (∀ i (h:i<S.length),S.getD i false=S[i]):=hid (fun i h=>by rw [List.getD_eq_getElem?_getD,List.getElem?_eq_getElem h];rfl);have HGR:Hid (∀ i (h:i<R.length),R.getD i false=R[i]):=hid (fun i h=>by rw [List.getD_eq_getElem?_getD,List.getElem?_eq_getElem h];rfl);have HS:=hid hS;have HRL:=hid hR;rw [hS] at hl5 c5;rw [hR] at hl4 c4;clear hat4 hat5 hS hR;have HPR:Hid (∀ t,pr t=(S.getD t false&&R.getD t false)):=hid (fun t=>by rw [←hpr]);clear hpr;go_enter Tryz.func138,Tryz.ntmps138;go_wp2_with fail
 go_loopw [2,8] (fun o i' wr=>∃ k:Nat,k≤N∧idxOf pr (List.range N) 0=idxOf pr ((List.range N).drop k) k∧w=wr∧i'=.int .i64 k∧o=.int .i64 0) (fun _ i _=>N-(intOf i).toNat)
 case atStart=>exact ⟨0,by omega,by simp,rfl,rfl,rfl⟩
 case round=>
  obtain ⟨k,hk,hs,rfl,rfl,rfl⟩:=hrel;have Hs:=hid hs;clear hs
  by_cases hlt:k<N
  ·have hlt':(k:Int)<N:=by omega
   have hkS:k<S.length:=by rw [HS.out];exact hlt
   have hkR:k<R.length:=by rw [HRL.out];exact hlt
   obtain ⟨b5,o5,rfl,e5⟩:=HA5.out k hkS;obtain ⟨b4,o4,rfl,e4⟩:=HA4.out k hkR;have hrd:=HR.out k hlt;rw [HGS.out k hkS,HGR.out k hkR] at hrd;have HRD:=hid hrd;clear hrd;generalize S[k]=y at*;generalize R[k]=z at*;clear hkS hkR
   cases y
   ·go_wp2_with fail
    go_roundw
    case rel=>exact ⟨k+1,by omega,by rw [Hs.out,HRD.out];rfl,by trivial,by go_num,rfl⟩
    case measure=>simp [intOf];omega
   ·cases z
    ·go_wp2_with fail
     go_roundw
     case rel=>exact ⟨k+1,by omega,by rw [Hs.out,HRD.out];rfl,by trivial,by go_num,rfl⟩
     case measure=>simp [intOf];omega
    ·go_wp2_with fail
     go_ret;exact ⟨ret_int (by rw [Hs.out,HRD.out];rfl),rfl⟩
  ·have hlt':¬(k:Int)<N:=by omega
   obtain rfl:k=N:=by omega
   go_wp2;go_ret;exact ⟨ret_int (by rw [Hs.out,HE.out]),rfl⟩
theorem cell_off {w w':World} {g b o:Nat} {v:Value} (h:w.grownBy w' (some g)) (hb:b≠g) (hc:w.cell? ⟨b,o,none⟩=some v):w'.cell? ⟨b,o,none⟩=some v:=
 (h.cell_far ⟨b,o,none⟩ (World.block_lt_of_cell? w _ hc) (by simpa using hb)).trans hc
def OffV (g:Nat) (v:Value):Prop:=∀ b o m c,v=.slice (some ⟨b,o,none⟩) m c→b≠g
theorem Bools.off {w w':World} {g:Nat} {v:Value} {a:List Bool} (h:Bools w v a) (hv:OffV g v) (k:w.grownBy w' (some g)):Bools w' v a:=by
 obtain ⟨p,cap,rfl,h1,h2,h3,h4⟩:=h;refine ⟨p,cap,rfl,h1,h2,?_,h4⟩;intro j hj;obtain ⟨b,off,rfl,hc⟩:=h3 j hj;exact ⟨b,off,rfl,cell_off k (hv b off _ _ rfl) hc⟩
def NeeO (w:World) (g:Nat) (v:Value) (ns:List Nee):Prop:=
 ∃ p cap,v=.slice p ns.length cap∧ns.length≤cap∧cap≤maxLen∧ns.length≤8∧
  ∀ i (h:i<ns.length),∃ b off u,p=some ⟨b,off,none⟩∧b≠g∧OffV g u∧w.cell? ⟨b,off+i*3,none⟩=some (.int .i64 ns[i].ix)∧w.cell? ⟨b,off+i*3+1,none⟩=some (.int .i64 ns[i].kd)∧w.cell? ⟨b,off+i*3+2,none⟩=some u∧Bools w u ns[i].inn
theorem NeeO.neeL {w:World} {g:Nat} {v:Value} {ns:List Nee} (h:NeeO w g v ns):NeeL w v ns:=by
 obtain ⟨p,cap,h1,h2,h3,h4,h5⟩:=h;exact ⟨p,cap,h1,h2,h3,h4,fun i a=>by obtain ⟨b,off,u,e1,_,_,e2,e3,e4,e5⟩:=h5 i a;exact ⟨b,off,u,e1,e2,e3,e4,e5⟩⟩
theorem NeeO.off {w w':World} {g:Nat} {v:Value} {ns:List Nee} (h:NeeO w g v ns) (k:w.grownBy w' (some g)):NeeO w' g v ns:=by
 obtain ⟨p,cap,h1,h2,h3,h4,h5⟩:=h
 exact ⟨p,cap,h1,h2,h3,h4,fun i a=>by
  obtain ⟨b,off,u,e1,e6,e7,e2,e3,e4,e5⟩:=h5 i a
  exact ⟨b,off,u,e1,e6,e7,cell_off k e6 e2,cell_off k e6 e3,cell_off k e6 e4,e5.off e7 k⟩⟩
structure TyE (w:World) (r g L N cap:Nat) (ns:List Nee):Prop where
 c0:w.cell? ⟨r,0,none⟩=some (.string (lgS L))
 c2:∃ v,w.cell? ⟨r,2,none⟩=some v∧NeeO w g v ns
 c3:w.cell? ⟨r,3,none⟩=some (.int .i64 N)
 c5:w.cell? ⟨r,5,none⟩=some (.slice (some ⟨g,0,none⟩) N cap)
 hr:r≠g
 hL:L<8
 hi:∀ n∈ns,n.ix≤8
 hl:∀ n∈ns,n.inn.length=N
 hN:N≤256
theorem TyE.off {w w':World} {r g L N cap:Nat} {ns:List Nee} (h:TyE w r g L N cap ns) (k:w.grownBy w' (some g)):TyE w' r g L N cap ns:=by
 obtain ⟨v,h1,h2⟩:=h.c2;exact ⟨cell_off k h.hr h.c0,⟨v,cell_off k h.hr h1,h2.off k⟩,cell_off k h.hr h.c3,cell_off k h.hr h.c5,h.hr,h.hL,h.hi,h.hl,h.hN⟩
theorem TyE.tyA {w:World} {r g L N cap B:Nat} {ns:List Nee} {S:List Bool} (h:TyE w r g L N cap ns) (ho:OwnB w B (.slice (some ⟨g,0,none⟩) N cap) S) (hS:S.length=N):TyA w r L N ns S:=by
 obtain ⟨v,h1,h2⟩:=h.c2;exact ⟨⟨h.c0,⟨v,h1,h2.neeL⟩,h.hL,h.hi,h.hl,h.hN⟩,h.c3,⟨_,h.c5,ho.bools (by have:=h.hN;omega)⟩,hS⟩
theorem keeps_grownN {w w':World} (g:Nat) (k:Keeps w w'):w.grownBy w' (some g):=⟨k.os,k.tape,k.output,k.size,fun _i hi _=>k.block hi⟩
structure InvE (w:World) (r g L N cap B:Nat) (ns:List Nee) (Lv:Nat→Bool) (S:List Bool) (wr:World) (T:List Bool):Prop where
 own:OwnB wr B (.slice (some ⟨g,0,none⟩) N cap) T
 len:T.length=N
 gr:w.grownBy wr (some g)
 ty:TyE wr r g L N cap ns
 lv:∀ t,t<N→Lv t=true→T.getD t false=true
 sub:∀ t,T.getD t false=true→S.getD t false=true
theorem InvE.keeps {w:World} {r g L N cap B:Nat} {ns:List Nee} {Lv:Nat→Bool} {S:List Bool} {wr w':World} {T:List Bool} (h:InvE w r g L N cap B ns Lv S wr T) (k:Keeps wr w'):InvE w r g L N cap B ns Lv S w' T:=
 ⟨h.own.keeps k,h.len,h.gr.trans (keeps_grownN g k),h.ty.off (keeps_grownN g k),h.lv,h.sub⟩
theorem getD_set_b (T:List Bool) (k t:Nat):(T.set k false).getD t false=(if t=k then false else T.getD t false):=by
 rw [List.getD_eq_getElem?_getD,List.getD_eq_getElem?_getD,List.getElem?_set]
 by_cases h:k=t
 ·subst h
  by_cases h2:k<T.length<;>simp [h2]
 ·rw [if_neg h,if_neg (fun e=>h e.symm)]
theorem InvE.drop {w:World} {r g L N cap B:Nat} {ns:List Nee} {Lv:Nat→Bool} {S:List Bool} {wr:World} {T:List Bool} (h:InvE w r g L N cap B ns Lv S wr T) (k:Nat) (hk:k<N) (hn:Lv k=false):
  InvE w r g L N cap B ns Lv S (wr.setCell ⟨g,k,none⟩ (.bool false)) (T.set k false):=by
 obtain ⟨h1,h2⟩:=OwnB.store h.own k (by rw [h.len];exact hk) false;refine ⟨h1,by rw [List.length_set,h.len],h.gr.trans h2,h.ty.off h2,?_,?_⟩
 ·intro t ht hl
  rw [getD_set_b,if_neg (by rintro rfl;rw [hn] at hl;cases hl)];exact h.lv t ht hl
 ·intro t ht
  rw [getD_set_b] at ht
  split at ht
  ·cases ht
  ·exact h.sub t ht
theorem count_drop (T:List Bool) (k:Nat) (h:k<T.length) (hb:T[k]=true):(T.set k false).count true<T.count true:=by
 have hp:0<T.count true:=List.count_pos_iff.2 (hb▸List.getElem_mem h);rw [List.count_set h,hb]
 simp
 omega
noncomputable def readT (w:World) (g N:Nat):List Bool:=(List.range N).map fun i=>@decide (w.cell? ⟨g,i,none⟩=some (.bool true)) (Classical.propDecidable _)
theorem readT_eq {w:World} {B g N cap:Nat} {T:List Bool} (h:OwnB w B (.slice (some ⟨g,0,none⟩) N cap) T) (hl:T.length=N):readT w g N=T:=by
 apply List.ext_getElem?;intro i;unfold readT;rw [List.getElem?_map]
 by_cases hi:i<N
 ·have h2:i<T.length:=by omega
  have hc:=(h.cell i h2).1;rw [List.getElem?_range hi,List.getElem?_eq_getElem h2,Option.map_some]
  congr 1
  cases hT:T[i]
  ·rw [hT] at hc
   exact @decide_eq_false _ (Classical.propDecidable _) (by rw [hc];simp)
  ·rw [hT] at hc
   exact @decide_eq_true _ (Classical.propDecidable _) hc
 ·rw [List.getElem?_eq_none (by simp;omega),List.getElem?_eq_none (by omega)]
  rfl
structure MidE (L N:Nat) (ns:List Nee) (T0 T:List Bool) (k:Nat) (ch:Bool):Prop where
 same:ch=false→T=T0∧∀ m,m<k→T0.getD m false=true→nSur L ns N T0 m=true
 less:ch=true→T.count true<T0.count true
theorem MidE.start (L N:Nat) (ns:List Nee) (T:List Bool):MidE L N ns T T 0 false:=⟨fun _=>⟨rfl,fun m h=>by omega⟩,fun h=>by cases h⟩
theorem MidE.stay {L N:Nat} {ns:List Nee} {T0 T:List Bool} {k:Nat} {ch:Bool} (h:MidE L N ns T0 T k ch) (hs:T.getD k false=true→nSur L ns N T k=true):MidE L N ns T0 T (k+1) ch:=
 ⟨fun hc=>by
  obtain ⟨rfl,h2⟩:=h.same hc;refine ⟨rfl,fun m hm ht=>?_⟩
  rcases Nat.lt_succ_iff_lt_or_eq.1 hm with h3 | rfl
  ·exact h2 m h3 ht
  ·exact hs ht,h.less⟩
theorem MidE.gone {L N:Nat} {ns:List Nee} {T0 T:List Bool} {k:Nat} {ch:Bool} (h:MidE L N ns T0 T k ch) (hk:k<T.length) (hb:T[k]=true):MidE L N ns T0 (T.set k false) (k+1) true:=by
 have h1:=count_drop T k hk hb;refine ⟨fun hc=>?_,fun _=>?_⟩
 ·cases hc
 ·cases ch
  ·obtain ⟨e,_⟩:=h.same rfl
   rw [←e];exact h1
  ·exact Nat.lt_trans h1 (h.less rfl)
def chN:Value→Nat
 | .bool true=>1
 | _=>0
theorem eliminate_any (r g L N cap B:Nat) (ns:List Nee) (S:List Bool) (Lv:Nat→Bool)
  (hLv:∀ T:List Bool,(∀ t,t<N→Lv t=true→T.getD t false=true)→∀ m,m<N→Lv m=true→nSur L ns N T m=true)
  (w:World) (h:TyE w r g L N cap ns) (ho:OwnB w B (.slice (some ⟨g,0,none⟩) N cap) S) (hS:S.length=N) (hl:∀ t,t<N→Lv t=true→S.getD t false=true):
  Calls Tryz.prog 177 #[.pointer (some ⟨r,0,none⟩)] w fun e w'=>∃ T,e=.returned (.tuple #[])∧InvE w r g L N cap B ns Lv S w' T∧∀ m,m<N→T.getD m false=true→nSur L ns N T m=true:=by
 have hN:=h.hN;have HI0:=hid (⟨ho,hS,grown_refl _ _,h,hl,fun _ ht=>ht⟩:InvE w r g L N cap B ns Lv S w S);have HLV:=hid hLv;clear hLv h ho hS hl;go_enter Tryz.func177,Tryz.ntmps177;go_wp2_with fail
 go_loopw [2] (fun ch wr=>∃ (T:List Bool) (cb:Bool),ch=.bool cb∧InvE w r g L N cap B ns Lv S wr T∧(cb=false→∀ m,m<N→T.getD m false=true→nSur L ns N T m=true)) (fun ch wr=>2*(readT wr g N).count true+chN ch)
 case atStart=>exact ⟨S,true,rfl,HI0.out,fun hc=>by cases hc⟩
 case round=>
  obtain ⟨T0,cb,rfl,hI,hself⟩:=hrel;have HI:=hid hI;have HSE:=hid hself;clear hself
  cases cb
  ·clear hI
   go_wp2_with fail;refine bodyPost_end (v:=.tuple #[]) (by simp [results,Tryz.results177,go_sem]) rfl ?_
   first | exact ⟨rfl,T0,HI.out,HSE.out (by trivial)⟩ | exact ⟨T0,rfl,HI.out,HSE.out (by trivial)⟩
  ·have c3:=hI.ty.c3
   have HR0:=hid (readT_eq hI.own hI.len);clear hI;go_wp2_with fail
   go_loopw [2,9] (fun ch i' wq=>∃ (k:Nat) (T:List Bool) (cb:Bool),k≤N∧i'=.int .i64 k∧ch=.bool cb∧InvE w r g L N cap B ns Lv S wq T∧MidE L N ns T0 T k cb) (fun _ i' _=>N-(intOf i').toNat)
   case atStart=>exact ⟨0,T0,false,by omega,rfl,rfl,HI.out,MidE.start L N ns T0⟩
   case round=>
    obtain ⟨k,T,cb,hk,rfl,rfl,hJ,hM⟩:=hrel;have HJ:=hid hJ;have HM:=hid hM;clear hM
    by_cases hlt:k<N
    ·have hlt':(k:Int)<N:=by omega
     have hkT:k<T.length:=by rw [hJ.len];exact hlt
     have c5:=hJ.ty.c5;obtain ⟨ci,fi⟩:=hJ.own.cell k hkT;have HSV:=hid (survives_any r L N ns T k hlt wr (hJ.ty.tyA hJ.own hJ.len))
     have HLK:Hid (nSur L ns N T k=false→Lv k=false):=hid (fun hn=>by
      cases hv:Lv k
      ·rfl
      ·rw [HLV.out T hJ.lv k hlt hv] at hn;cases hn)
     have hcap:N≤cap∧cap≤maxLen:=by
      obtain ⟨_,_,e,_,_,h1,h2⟩:=hJ.own.shape (by omega)
      cases e
      rw [hJ.len] at h1;exact ⟨h1,h2⟩
     obtain ⟨hc1,hc2⟩:=hcap;unfold maxLen at hc2;have HTK:Hid (T.getD k false=T[k]):=hid (by rw [List.getD_eq_getElem?_getD,List.getElem?_eq_getElem hkT];rfl);have HKT:=hid hkT;clear hJ;generalize hbT:T[k]=b at*;generalize hbS:nSur L ns N T k=z at*;have HBS:=hid hbS;clear hbS;have HBT:=hid hbT;clear hbT hkT
     cases b
     ·go_wp2_with fail
      go_roundw
      case rel=>exact ⟨k+1,T,cb,by omega,by go_num,rfl,HJ.out,HM.out.stay (fun e=>by rw [HTK.out] at e;cases e)⟩
      case measure=>simp [intOf];omega
     ·go_wp2_with fail
      refine HSV.out.mono ?_;rintro e w3 ⟨rfl,k3⟩;have hI3:=HJ.out.keeps k3;have e5:=hI3.ty.c5;obtain ⟨ci3,fi3⟩:=hI3.own.cell k HKT.out;have HI3:=hid hI3;clear hI3 ci fi c5
      cases z
      ·have HI4:=hid (HI3.out.drop k hlt (HLK.out rfl))
       replace ci3:w3.cell? ⟨g,k,none⟩=some (.bool true):=ci3.trans (congrArg (fun x=>some (Value.bool x)) HBT.out)
       go_wp2_with fail;go_roundw
       case rel=>exact ⟨k+1,T.set k false,true,by omega,by go_num,rfl,HI4.out,HM.out.gone HKT.out HBT.out⟩
       case measure=>simp [intOf];omega
      ·go_wp2_with fail
       go_roundw
       case rel=>exact ⟨k+1,T,cb,by omega,by go_num,rfl,HI3.out,HM.out.stay (fun _=>HBS.out)⟩
       case measure=>simp [intOf];omega
    ·obtain rfl:k=N:=by omega
     have hlt':¬((k:Int)<k):=by omega
     have hrt:=readT_eq hJ.own hJ.len
     have hm:2*(readT wr g k).count true+chN (.bool cb)<2*T0.count true+1:=by
      rw [hrt]
      cases cb
      ·obtain ⟨e,_⟩:=HM.out.same rfl
       rw [e];simp [chN]
      ·have:=HM.out.less rfl
       simp only [chN];omega
     have HMM:=hid hm;clear hJ hrt hm;go_wp2;go_roundw
     case rel=>exact ⟨T,cb,rfl,HJ.out,fun hc=>by obtain ⟨e,h2⟩:=HM.out.same hc;rw [e];exact h2⟩
     case measure=>have:=HMM.out;rw [HR0.out];simpa [chN] using this
end Go.Proofs.YtbccmdfdclomiaaGreatDoor
