import Derived.Test.YtagoboblkadelaaGreatZGG
import Derived.Test.YtagoboblkadelaaGreatZTE
import Derived.Test.YtagoboblkadelaaGreatZDQ0
/- own -/
namespace Go.Proofs.YtagoboblkadelaaGreat
set_option maxRecDepth 100000
set_option maxHeartbeats 8000000
open Go.RowKit
noncomputable def mcL (lg:ByteArray) (steps:List StT):List ByteArray:=if stE lg steps=0 then (fZ steps).l else []
noncomputable def mcR (lg:ByteArray) (steps:List StT):List ByteArray:=if stE lg steps=0 then (fZ steps).r else []
def uo (w:World) (x y:List ByteArray) (c:Int) (e:Ending) (w':World):Prop:=∃ a b,e=.returned (.tuple #[.agg #[a,b],.int .i64 c])∧aA w' w.heap.size a x∧aA w' w.heap.size b y∧aa w w'
theorem aA.setLow {w:World} {B:Nat} {v:Value} {a:List ByteArray} (h:aA w B v a) {b o:Nat} (hb:b<B) (u:Value):aA (w.setCell ⟨b,o,none⟩ u) B v a:=ownsRow_setCell_below h (a:=⟨b,o,none⟩) hb u
theorem mz {W:World} {r:Nat} {T:TypeId} {c d x y:Value} (hb:aR W r T [c,d]):(((W.setCell ⟨r,0,none⟩ x).setCell ⟨r,1,none⟩ y).cell? ⟨r,0,none⟩=some x∧((W.setCell ⟨r,0,none⟩ x).setCell ⟨r,1,none⟩ y).cell? ⟨r,1,none⟩=some y):=by
 have h:=(hb.set 0 x).set 1 y;exact⟨h.cell 0 qD,h.cell 1 qD⟩
theorem pW (tmps:Array Value) (W:World) (r:Nat) (h4:tmps.getD 4 undef=.pointer (some ⟨r,0,none⟩)) {u v:Value} {c:Int} (h5:tmps.getD 5 undef=.int .i64 c)
  (ha:W.cell? ⟨r,0,none⟩=some u) (hb:W.cell? ⟨r,1,none⟩=some v) (hu:∃ p m q,u=.slice p m q) (hv:∃ p m q,v=.slice p m q):
  (results Tryz.f7 tmps).run Tryz.prog W=.ok (.tuple #[.agg #[u,v],.int .i64 c]) W:=by
 have hr:Tryz.f7.results=#[.cell 4 29,.tmp 5]:=rfl;obtain⟨p,m,q,rfl⟩:=hu;obtain⟨p2,m2,q2,rfl⟩:=hv;unfold results;rw[hr];rw[Array.getD_eq_getD_getElem?] at h4 h5;simp[go_sem,loadVar,h4,h5,ha,hb]
theorem iY (lg:ByteArray) (steps:List StT) (hM:jH steps) (v:Value) (w:World) (hv:StL w v steps):
  Calls Tryz.prog 7 #[.string lg,v] w (uo w (mcL lg steps) (mcR lg steps) (stE lg steps)):=by
 have HV:=hid (fun wz (kz:aa w wz)=>hv.keeps kz);obtain⟨p,cap,rfl,Lf,La,_⟩:=hv.shape;unfold maxLen at La;have kA:=(aa.refl w).alloc (.cells #[.slice none 0 0,.slice none 0 0] 29);have KT:aR (w.alloc (.cells #[.slice none 0 0,.slice none 0 0] 29)) w.heap.size 29 [.slice none 0 0,.slice none 0 0]:=aR.made w _ _ qD qD;have HC:=hid (yj lg steps hM _ _ (hv.keeps kA));have HL:Hid (mcL lg steps=if stE lg steps=0 then (fZ steps).l else []):=hid rfl;have HR:Hid (mcR lg steps=if stE lg steps=0 then (fZ steps).r else []):=hid rfl;have H7:=hid (fun h=>sY (lg:=lg) (steps:=steps) h);generalize mcL lg steps=A at*;generalize mcR lg steps=B at*;generalize stE lg steps=code at*;clear hv hM;go_enter Tryz.func7,Tryz.ntmps7;go_wp2_with fail;refine HC.out.mono ?_;rintro e w2 ⟨rfl,k2'⟩;have k2:=kA.trans k2';have eE:=KT.keeps k2';clear k2' kA KT HC
 by_cases hc:code=0
 ·subst hc
  obtain⟨-,hp,Le,hq⟩:=H7.out rfl
  obtain⟨x,hx⟩:∃ x,steps[steps.length-1]'qB=x:=⟨_,rfl⟩
  have H9:fZ steps=x:=by
   unfold fZ;rw[zi,zn qB];exact hx
  have HA:Hid (A=x.l):=hid (by rw[HL.out,if_pos rfl,H9]);have HB:Hid (B=x.r):=hid (by rw[HR.out,if_pos rfl,H9]);obtain⟨l1,l2,s1,s2⟩:=dx (by have:=hq (steps.length-1) qB;rw[hx] at this;exact this);obtain⟨b,off,p1,n1,c1,p2,n2,c2,p3,n3,c3,eb,⟨z0,z1,z2,z3,z4⟩,-,hl,hr⟩:=(HV.out w2 k2).get (steps.length-1) qB
  cases eb
  rw[hx] at z0 z4 hl hr;have KZ:((steps.length:Nat):Int)-1=((steps.length-1:Nat):Int):=qB;have K0:((steps.length-1:Nat):Int)<steps.length:=qB
  obtain⟨ln,KU⟩:∃ ln,ln=steps.length-1:=⟨_,rfl⟩
  rw[←KU] at z0 z1 z2 z3 z4 KZ K0;have KV:=hid (fun wz (kz:aa w2 wz)=>eX x.l _ wz (hl.keeps kz).1 qB);have KY:=hid (fun wz (kz:aa w2 wz)=>eX x.r _ wz (hr.keeps kz).1 qB);have K2:=hid k2;clear HL HR H7 H9 hx KU s1 s2 hl hr hq k2;have kX:=(aa.refl w2).alloc (.cells #[.int .i64 x.rule,.slice p1 n1 c1,.slice p2 n2 c2,.slice p3 n3 c3,.string x.main] 47);have hX:aR (w2.alloc (.cells #[.int .i64 x.rule,.slice p1 n1 c1,.slice p2 n2 c2,.slice p3 n3 c3,.string x.main] 47)) w2.heap.size 47 [.int .i64 x.rule,.slice p1 n1 c1,.slice p2 n2 c2,.slice p3 n3 c3,.string x.main]:=aR.made w2 _ _ qD qD;have KP:=eE.keeps kX;have Lb:w.heap.size<w2.heap.size:=World.block_lt_of_cell? _ _ (eE.cell 0 qD);go_wp2_with fail;generalize w2.alloc (.cells #[.int .i64 x.rule,.slice p1 n1 c1,.slice p2 n2 c2,.slice p3 n3 c3,.string x.main] 47)=W3 at*;have Lc:=kX.size;generalize w2.heap.size=gX at*;have kd:=(aa.refl W3).drew;have H8:=hX.keeps kd;have KS:=KP.keeps kd;have y2:=H8.cell 2 qD;have y3:=H8.cell 3 qD;simp only[zj,zl] at y2 y3;have KD:=hid (kX.trans kd)
  have Ld:w.heap.size<W3.drew.heap.size:=by have:=kd.size;omega
  have x7:=fun (W:World) (hb:aR W w.heap.size 29 [.slice none 0 0,.slice none 0 0]) (va vb:Value) (h1:aA W (w.heap.size+1) va x.l) (h2:aA W (w.heap.size+1) vb x.r) (k:aa w2 W)=>(show uo w A B 0 (.returned (.tuple #[.agg #[va,vb],.int .i64 0])) ((W.setCell ⟨w.heap.size,0,none⟩ va).setCell ⟨w.heap.size,1,none⟩ vb) from
   ⟨va,vb,rfl,by rw[HA.out];exact((h1.setLow qB _).setLow qB _).mono qB,by rw[HB.out];exact((h2.setLow qB _).setLow qB _).mono qB,((K2.out.trans k).setCell (zm _) _).setCell (zm _) _⟩)
  have x9:=hid x7;clear x7 hX KP kX kd eE HA HB
  go_region_law (first
   | (go_simp;go_at_call 26;(with_reducible refine(KV.out _ KD.out).mono ?_);rintro e w4 ⟨a4,n4,c4,rfl,h4,k4⟩;have y34:=k4.cell y3;have KR:=KS.keeps k4;have K4:=KD.out.trans k4)
   | (go_simp;go_at_call 26;(with_reducible refine(KY.out _ K4).mono ?_);rintro e w5 ⟨a5,n5,c5,rfl,h5,k5⟩;have h9:=KR.keeps k5;have e0:=h9.cell 0 qD;have e1:=h9.cell 1 qD;have g0:=h9.froz 0;have g1:=h9.froz 1;simp only[zj,zl] at e0 e1))
  all_goals
   have Lg:=k4.size;have x8:=hid (x9.out w5 h9 _ _ ((h4.keeps k5).mono qB) (h5.mono qB) (K4.trans k5));have x6:=hid (mz (x:=.slice (some a4) n4 c4) (y:=.slice (some a5) n5 c5) h9);clear h4 h5 k4 k5 K4 KR h9 KS H8 KD e0 e1 g0 g1 y2 y3 y34;go_wp2_with fail;exact bodyPost_ret (pW _ _ w.heap.size rfl rfl x6.out.1 x6.out.2 ⟨_,_,_,rfl⟩ ⟨_,_,_,rfl⟩) rfl x8.out
 ·have HA:Hid (A=[]):=hid (by rw[HL.out,if_neg hc])
  have HB:Hid (B=[]):=hid (by rw[HR.out,if_neg hc])
  have hc':(code==0)=false:=by simp[hc]
  clear HL HR H7;have b0:=eE.cell 0 qD;have b1:=eE.cell 1 qD;have f0:=eE.froz 0;have f1:=eE.froz 1;simp only[zj,zl] at b0 b1;have x6:=hid (mz (x:=.slice none 0 0) (y:=.slice none 0 0) eE)
  have x8:=hid (show uo w A B code (.returned (.tuple #[.agg #[.slice none 0 0,.slice none 0 0],.int .i64 code])) ((w2.setCell ⟨w.heap.size,0,none⟩ (.slice none 0 0)).setCell ⟨w.heap.size,1,none⟩ (.slice none 0 0)) from
   ⟨_,_,rfl,by rw[HA.out];exact aA.nil _ _,by rw[HB.out];exact aA.nil _ _,(k2.setCell (zm _) _).setCell (zm _) _⟩)
  go_wp2_with fail;exact bodyPost_ret (pW _ _ w.heap.size rfl rfl x6.out.1 x6.out.2 ⟨_,_,_,rfl⟩ ⟨_,_,_,rfl⟩) rfl x8.out
theorem pU (tmps:Array Value) (W:World) (r:Nat) (h4:tmps.getD 4 undef=.pointer (some ⟨r,0,none⟩)) {u v:Value} {c:Int} (h5:tmps.getD 5 undef=.int .i64 c)
  (ha:W.cell? ⟨r,0,none⟩=some u) (hb:W.cell? ⟨r,1,none⟩=some v) (hu:∃ p m q,u=.slice p m q) (hv:∃ p m q,v=.slice p m q):
  (results Tryz.f6 tmps).run Tryz.prog W=.ok (.tuple #[.agg #[u,v],.int .i64 c]) W:=by
 have hr:Tryz.f6.results=#[.cell 4 29,.tmp 5]:=rfl;obtain⟨p,m,q,rfl⟩:=hu;obtain⟨p2,m2,q2,rfl⟩:=hv;unfold results;rw[hr];rw[Array.getD_eq_getD_getElem?] at h4 h5;simp[go_sem,loadVar,h4,h5,ha,hb]
theorem iJ (lg:ByteArray) (steps:List StT) (hM:jH steps) (v:Value) (w:World) (hv:StL w v steps):
  Calls Tryz.prog 6 #[.string lg,v] w (uo w (mcL lg steps) (mcR lg steps) (stE lg steps)):=by
 have HV:=hid (fun wz (kz:aa w wz)=>hv.keeps kz);obtain⟨p,cap,rfl,Lc,K0,_⟩:=hv.shape;unfold maxLen at K0;have kR:=(aa.refl w).alloc (.cells #[.slice none 0 0,.slice none 0 0] 29);have KT:aR (w.alloc (.cells #[.slice none 0 0,.slice none 0 0] 29)) w.heap.size 29 [.slice none 0 0,.slice none 0 0]:=aR.made w _ _ qD qD
 have KV:(w.alloc (.cells #[.slice none 0 0,.slice none 0 0] 29)).heap.size=w.heap.size+1:=by simp
 have kS:=(aa.refl (w.alloc (.cells #[.slice none 0 0,.slice none 0 0] 29))).alloc (.cells #[.slice p steps.length cap] 24);have x9:=xt (w.alloc (.cells #[.slice none 0 0,.slice none 0 0] 29)) (.slice p steps.length cap) 24;rw[KV] at x9;have kA:=kR.trans kS;have KS:=KT.keeps kS;have HC:=hid (uf lg steps hM p steps.length cap (w.heap.size+1) _ x9 (HV.out _ kA));clear x9 KV kR kS KT;have HL:Hid (mcL lg steps=if stE lg steps=0 then (fZ steps).l else []):=hid rfl;have HR:Hid (mcR lg steps=if stE lg steps=0 then (fZ steps).r else []):=hid rfl;have x8:=hid (fun h=>sY (lg:=lg) (steps:=steps) h);generalize mcL lg steps=A at*;generalize mcR lg steps=B at*;generalize stE lg steps=code at*;clear hv hM;go_enter Tryz.func6,Tryz.ntmps6;go_wp2_with fail;refine HC.out.mono ?_;rintro e w2 ⟨rfl,k2'⟩;have k2:=kA.trans k2';have eE:=KS.keeps k2';clear k2' kA HC KS
 by_cases hc:code=0
 ·subst hc
  obtain⟨-,hp,Lb,hq⟩:=x8.out rfl
  obtain⟨x,hx⟩:∃ x,steps[steps.length-1]'qB=x:=⟨_,rfl⟩
  have H7:fZ steps=x:=by
   unfold fZ;rw[zi,zn qB];exact hx
  have HA:Hid (A=x.l):=hid (by rw[HL.out,if_pos rfl,H7]);have HB:Hid (B=x.r):=hid (by rw[HR.out,if_pos rfl,H7]);obtain⟨b,off,p1,n1,c1,p2,n2,c2,p3,n3,c3,eb,⟨z0,z1,z2,z3,z4⟩,-,hl,hr⟩:=(HV.out w2 k2).get (steps.length-1) qB
  cases eb
  rw[hx] at z0 z4 hl hr;have KY:((steps.length:Nat):Int)-1=((steps.length-1:Nat):Int):=qB;have KZ:((steps.length-1:Nat):Int)<steps.length:=qB
  obtain⟨ln,KU⟩:∃ ln,ln=steps.length-1:=⟨_,rfl⟩
  rw[←KU] at z0 z1 z2 z3 z4 KY KZ;have H9:=hid (fun wz=>ia x.rule p1 p2 p3 n1 c1 n2 c2 n3 c3 x.main wz);have H8:=hid (fun wz (kz:aa w2 wz)=>pZ x.l x.r _ _ wz (hl.keeps kz) (hr.keeps kz));have K2:=hid k2;clear HL HR x8 H7 hx KU hl hr hq k2;have La:w.heap.size<w2.heap.size:=World.block_lt_of_cell? _ _ (eE.cell 0 qD);go_wp2_with fail;refine(H9.out _).mono ?_;rintro e w3 ⟨rfl,k3⟩;go_wp2_with fail;refine(H8.out _ k3).mono ?_;rintro e w4 ⟨va,vb,rfl,ha,hb,k4⟩;have Ld:=k3.size;have k34:=k3.trans k4;have h9:=eE.keeps k34;have e0:=h9.cell 0 qD;have e1:=h9.cell 1 qD;have g0:=h9.froz 0;have g1:=h9.froz 1;simp only[zj,zl] at e0 e1;have KP:aA w4 (w.heap.size+1) va x.l:=ha.mono qB;have KR:aA w4 (w.heap.size+1) vb x.r:=hb.mono qB
  have x7:=hid (show uo w A B 0 (.returned (.tuple #[.agg #[va,vb],.int .i64 0])) ((w4.setCell ⟨w.heap.size,0,none⟩ va).setCell ⟨w.heap.size,1,none⟩ vb) from
   ⟨va,vb,rfl,by rw[HA.out];exact((KP.setLow qB _).setLow qB _).mono qB,by rw[HB.out];exact((KR.setLow qB _).setLow qB _).mono qB,((K2.out.trans k34).setCell (zm _) _).setCell (zm _) _⟩)
  have x6:=hid (mz (x:=va) (y:=vb) h9)
  obtain⟨pa,na,ca,rfl⟩:∃ p m q,va=.slice p m q:=by obtain⟨p,c,e,_⟩:=At.of_own ha;exact⟨p,_,c,e⟩
  obtain⟨pb,nb,cb,rfl⟩:∃ p m q,vb=.slice p m q:=by obtain⟨p,c,e,_⟩:=At.of_own hb;exact⟨p,_,c,e⟩
  clear ha hb KP KR h9 k34 k4 k3 eE HA HB H8 H9;go_wp2_with fail;exact bodyPost_ret (pU _ _ w.heap.size rfl rfl x6.out.1 x6.out.2 ⟨_,_,_,rfl⟩ ⟨_,_,_,rfl⟩) rfl x7.out
 ·have HA:Hid (A=[]):=hid (by rw[HL.out,if_neg hc])
  have HB:Hid (B=[]):=hid (by rw[HR.out,if_neg hc])
  have hc':(code==0)=false:=by simp[hc]
  clear HL HR x8;have b0:=eE.cell 0 qD;have b1:=eE.cell 1 qD;have f0:=eE.froz 0;have f1:=eE.froz 1;simp only[zj,zl] at b0 b1;have x6:=hid (mz (x:=.slice none 0 0) (y:=.slice none 0 0) eE)
  have x7:=hid (show uo w A B code (.returned (.tuple #[.agg #[.slice none 0 0,.slice none 0 0],.int .i64 code])) ((w2.setCell ⟨w.heap.size,0,none⟩ (.slice none 0 0)).setCell ⟨w.heap.size,1,none⟩ (.slice none 0 0)) from
   ⟨_,_,rfl,by rw[HA.out];exact aA.nil _ _,by rw[HB.out];exact aA.nil _ _,(k2.setCell (zm _) _).setCell (zm _) _⟩)
  go_wp2_with fail;exact bodyPost_ret (pU _ _ w.heap.size rfl rfl x6.out.1 x6.out.2 ⟨_,_,_,rfl⟩ ⟨_,_,_,rfl⟩) rfl x7.out
theorem dI.drT {w w':World} {B b:Nat} {v:Value} {xs:List (List Nat)} (h:dI w b v xs) (k:Dr B w w') (hs:Src w B) (hB:B<b):dI w' b v xs:=by
 obtain⟨us,ho,hr⟩:=h;exact⟨us,aZ ho k.1 (fun i hi e=>by have:=(World.ownsRow.lt ho i hi).1;omega),hr.1,fun i h1 h2=>(hr.2 i h1 h2).drT k hs⟩
theorem mO (v:Value) (n:Nat) (w:World) (hv:Bts w v n):
  Calls Tryz.prog 3 #[v] w fun e w'=>e=.returned (.bool true)∧aa w w':=by
 have h9:=hid (FJ v n w hv);have HV:=hid hv;obtain⟨pv,cv,rfl,-⟩:=hv
 by_cases hn:n≤4096
 rotate_left
 ·rw[show decide (4096<n)=true from decide_eq_true qB] at h9
  clear hn;go_enter Tryz.func3,Tryz.ntmps3;go_wp2_with fail;refine h9.out.mono ?_;rintro e w' ⟨rfl,rfl⟩;go_wp2_with fail;go_ret;exact⟨rfl,aa.refl _⟩
 ·rw[show decide (4096<n)=false from decide_eq_false qB] at h9
  have LZ:=hid (iG _ n w HV.out hn);have x8:=hid (fun wz (kz:aa w wz)=>EH _ n 1101 wz (Bts.keeps HV.out kz) hn qB);rw[show(((1101:Nat):Int))=1101 from rfl] at x8;clear hn HV;go_enter Tryz.func3,Tryz.ntmps3;go_wp2_with fail;refine h9.out.mono ?_;rintro e w' ⟨rfl,rfl⟩;go_wp2_with fail;refine LZ.out.mono ?_;rintro e w1 ⟨lg,v1,xs,rfl,M5,hr,MT,hm,k1⟩;obtain⟨p1,c1,rfl,MS,LK,-⟩:=hr.shape;unfold maxLen at LK;have eE:=hid (fun wz (kz:aa w1 wz)=>hr.keeps kz);have HM:=hid hm;have K1:=hid k1;clear h9 LZ hr hm k1
  -- the four answers
  have LQ:=hid (fun wz (kz:aa w1 wz)=>iJ lg xs HM.out _ wz (eE.out wz kz));have LR:=hid (fun wz (kz:aa w1 wz)=>iY lg xs HM.out _ wz (eE.out wz kz));have LS:=hid (fun wz (kz:aa w1 wz)=>og lg xs HM.out _ wz (eE.out wz kz));have LU:=hid (fun wz (kz:aa w1 wz)=>oQ lg xs HM.out _ wz (eE.out wz kz));have KP:=hid (fun (h:stE lg xs≠0)=>IA h);have LC:=hid (fun (h:stE lg xs=0)=>Ht h);have LD:=hid (fun (h:stE lg xs=0)=>sY h);have LF:=hid (fun (h:stE lg xs=0) i (hi:i<xs.length)=>E2 h i hi)
  have Lu:=hid (show(mcL lg xs).length≤16∧(mcR lg xs).length≤16 from by
   unfold mcL mcR
   by_cases h:stE lg xs=0
   ·rw[if_pos h,if_pos h]
    obtain⟨-,hp,-,hq⟩:=sY h
    have e:fZ xs=xs[xs.length-1]'qB:=by
     unfold fZ;rw[zi,zn qB];rfl
    obtain⟨l1,l2,-,-⟩:=dx (hq (xs.length-1) qB);rw[e];exact⟨l1,l2⟩
   ·rw[if_neg h,if_neg h]
    simp)
  generalize mcL lg xs=ML at*;generalize mcR lg xs=MR at*;generalize stE lg xs=bad at*;generalize fbR lg xs=fb at*;go_wp2_with fail;refine(LQ.out w1 (aa.refl _)).mono ?_;rintro e w2 ⟨a,b,rfl,ha,hb,k2⟩;obtain⟨pa,na,ca,rfl⟩:=ha.sh;obtain⟨pb,nb,cb,rfl⟩:=hb.sh;have Lq:=aR.made w2 29 [.slice pa na ca,.slice pb nb cb] qD qD;have kb:=(aa.refl w2).alloc (.cells #[.slice pa na ca,.slice pb nb cb] 29);have Mi:=hid ((ha.strs (by have:=Lu.out;omega)).keeps kb);have Mj:=hid ((hb.strs (by have:=Lu.out;omega)).keeps kb);have LW:=hid Lq;have KK:=hid (k2.trans kb);clear ha hb Lq kb k2
  go_upto_region 5 with fail
  generalize w2.alloc (.cells #[.slice pa na ca,.slice pb nb cb] 29)=w3 at*;generalize w2.heap.size=r1 at*;go_wp2_with fail;refine(LR.out w3 KK.out).mono ?_;rintro e w4 ⟨a,b,rfl,ha,hb,k4⟩;obtain⟨pc,nc,cc,rfl⟩:=ha.sh;obtain⟨pd,nd,cd,rfl⟩:=hb.sh;have Lq:=aR.made w4 29 [.slice pc nc cc,.slice pd nd cd] qD qD;have kb:=(aa.refl w4).alloc (.cells #[.slice pc nc cc,.slice pd nd cd] 29);have Mk:=hid ((ha.strs (by have:=Lu.out;omega)).keeps kb);have Ml:=hid ((hb.strs (by have:=Lu.out;omega)).keeps kb);have LX:=hid Lq;have kx:=k4.trans kb;have Lm:=hid (Mi.out.keeps kx);have Ln:=hid (Mj.out.keeps kx);have K0:=hid (LW.out.keeps kx);have K5:=hid (KK.out.trans kx);clear ha hb Lq kb k4 kx Mi Mj LW KK
  go_upto_region 6 with fail
  generalize w4.alloc (.cells #[.slice pc nc cc,.slice pd nd cd] 29)=w5 at*;generalize w4.heap.size=r2 at*;go_wp2_with fail;refine(LS.out w5 K5.out).mono ?_;rintro e w6 ⟨rfl,k6⟩;have K6:=hid (K5.out.trans k6);go_wp2_with fail;refine(LU.out w6 K6.out).mono ?_;rintro e w7 ⟨rfl,k7⟩;have kx:=k6.trans k7;have LG:=K0.out.keeps kx;have KV:=LX.out.keeps kx;have x0:=LG.cell 0 qD;have x1:=LG.cell 1 qD;have y0:=KV.cell 0 qD;have y1:=KV.cell 1 qD;simp only[zj,zl] at x0 x1 y0 y1;have L3:=hid (wj ML MR _ _ _ _ w7 (Lm.out.keeps kx) (Ln.out.keeps kx) (Mk.out.keeps kx) (Ml.out.keeps kx));have K7:=hid (K6.out.trans k7)
  have LL:(bad != bad)=false:=by simp
  have LM:(fb.2 != fb.2)=false:=by simp
  have LN:(fb.1 != fb.1)=false:=by simp
  clear kx k6 k7 LG KV Lm Ln Mk Ml K0 LX K5 K6 LQ LR LS LU;go_wp2_with fail;refine L3.out.mono ?_;rintro e w8 ⟨rfl,k8⟩;have K8:=hid (K7.out.trans k8);clear k8 K7 L3 x0 x1 y0 y1
  by_cases Lx:bad=0
  rotate_left
  ·have M1:(bad != 0)=true:=by simpa using Lx
   have hF:=KP.out Lx;have H9:=K1.out.trans K8.out;clear KP LC LD LF Lx
   by_cases h2:fb.2=0
   ·have h1:fb.1≥0:=by
     rcases hF with h | h
     ·exact absurd h2 h
     ·exact h
    have h2':(fb.2 != 0)=false:=by simpa using h2
    clear hF h2;go_wp2_with fail;go_ret;exact⟨rfl,H9⟩
   ·have h2':(fb.2 != 0)=true:=by simpa using h2
    clear hF h2;go_wp2_with fail;go_ret;exact⟨rfl,H9⟩
  ·subst Lx
   obtain⟨-,MO⟩:=LC.out rfl;have KU:=hid (LD.out rfl);have Lo:=hid (fun i (hi:i<xs.length)=>LF.out rfl i hi);subst MO;clear KP LC LD LF LL LM LN;have kL:=(aa.refl w8).alloc (.cells #[.int .i64 2,.int .i64 0] 2);have hL:aV (w8.alloc (.cells #[.int .i64 2,.int .i64 0] 2)) (.slice (some ⟨w8.heap.size,0,none⟩) 2 2) (zs [2,0]):=(aI.lit w8 [2,0] (by simp[maxLen])).ints qD;have LV:=hid (lN _ _ hL);clear hL;go_wp2_with fail;refine LV.out.mono ?_;rintro e w9 ⟨⟨pA,nA,cA,rfl⟩,k9⟩;have kb:=(aa.refl w9).alloc (.cells #[.int .i64 2,.slice pA nA cA] 37);obtain⟨y0,y1⟩:=jf.made w9 2 (.slice pA nA cA) 37;have K9:=hid (K8.out.trans ((kL.trans k9).trans kb));clear kL k9 kb K8 LV
   go_upto_region 15 with fail
   generalize w9.alloc (.cells #[.int .i64 2,.slice pA nA cA] 37)=w10 at*;generalize w9.heap.size=r3 at*;go_wp2_with fail;have Mg:=hid (x8.out w10 (K1.out.trans K9.out));clear y0 y1;refine Mg.out.mono ?_;rintro e w11 ⟨B,rfl,hB,LP,k11⟩;have MY:=KU.out.2.1;have MF:=KU.out.2.2.1;have Lb:=hid (uq ((xs.length:Nat):Int) B w11 LP qB);have K11:=hid (K9.out.trans k11);have MZ:=hid (K1.out.trans (K9.out.trans k11));have Mz:=k11.size;have MX:w.heap.size≤B:=zx (K1.out.trans K9.out).size hB;clear Mg x8 k11;go_wp2_with fail;refine Lb.out.mono ?_;rintro e w12 ⟨i,rfl,hi,d12⟩;have Mp:i<xs.length:=qB;have MP:(i:Int)<xs.length:=qB;have K12:=hid (Dr.keepsOf K11.out (zx K9.out.size hB) d12);have H8:=hid (K1.out.trans K12.out);have Lj:=hid d12.2;have MW:B<w12.heap.size:=d12.2.lt;obtain⟨hq,My,Ls⟩:=Lo.out i Mp;obtain⟨bs,off,q1,u1,e1,q2,u2,e2,q3,u3,e3,eb,⟨z0,z1,z2,z3,z4⟩,-,hl,Mx⟩:=(eE.out w12 K12.out).get i Mp
   cases eb
   generalize xs[i]=x at*;have M3:bs<w12.heap.size:=World.block_lt_of_cell? _ _ z2;have HL:=hid hl;have Mh:=hid Mx;have MG:=hid My;have x9:=hid Ls;have HQ:=hid hq;clear My Ls hq hl Mx K9 K11 d12 hi Lb z0 z1 z4 Lo eE;go_wp2_with fail
   go_region
   have kt:=((aa.refl w12).alloc (.cells #[.slice q2 u2 e2,.slice q3 u3 e3] 29)).drew;have LH:=(aR.made w12 29 [.slice q2 u2 e2,.slice q3 u3 e3] qD qD).keeps ((aa.refl _).drew);generalize (w12.alloc (.cells #[.slice q2 u2 e2,.slice q3 u3 e3] 29)).drew=w13 at*;have MV:w12.heap.size<w13.heap.size:=LH.lt;generalize Mw:w12.heap.size=r4 at*;have M0:=hid Mw;clear Mw;have KR:=hid (HL.out.keeps kt);have KS:=hid (Mh.out.keeps kt);have Lk:=hid (Lj.out.keeps kt);have Lc:=hid (H8.out.trans kt);have Lt:=hid LH
   have KY:=hid (show Mid x.l∧Mid x.r from by
    obtain⟨_,_,s1,s2⟩:=dx HQ.out
    exact⟨fun s hs=>by obtain⟨t,ht⟩:=s1.1 s hs;have:=ht.small;omega,fun s hs=>by obtain⟨t,ht⟩:=s2.1 s hs;have:=ht.small;omega⟩)
   clear kt LH HL Mh Lj H8 K12 z2 z3;have x0:=Lt.out.cell 0 qD;have x1:=Lt.out.cell 1 qD;simp only[zj,zl] at x0 x1;have Mm:=hid (l8 lg x.l x.r _ _ w13 KR.out.1 KS.out.1 KY.out.1 KY.out.2);generalize srC lg x.l x.r=code at*;generalize mtR lg x.l x.r=yes at*;go_wp2_with fail;refine Mm.out.mono ?_;rintro e w14 ⟨rfl,k14⟩;have Lg:=hid (KR.out.keeps k14);have Li:=hid (KS.out.keeps k14);have Ll:=hid (Lk.out.keeps k14);have Ld:=hid (Lc.out.trans k14);have La:=hid (Lt.out.keeps k14);have MA:=k14.size;clear k14 Mm KR KS Lk Lc Lt x0 x1
   go_upto_region 21 with fail
   go_cut [133] (fun v wx=>v=.bool false∧wx=w14)
   case first=>
    rcases MG.out with hc | ⟨hc,hy⟩
    ·subst hc
     go_wp2_with fail
     go_meet
     exact⟨rfl,rfl⟩
    ·subst hc
     subst hy;go_wp2_with fail
     go_meet
     exact⟨rfl,rfl⟩
   case rest=>
    obtain⟨rfl,rfl⟩:=hcut;have x0:=La.out.cell 0 qD;have x1:=La.out.cell 1 qD;simp only[zj,zl] at x0 x1;have L0:=hid (jq x.l x.r _ _ wc Lg.out.1 Li.out.1 KY.out.1 KY.out.2);have L1:=hid (fun wz (kz:aa wc wz)=>jB x.l x.r _ _ wz (Lg.out.keeps kz).1 (Li.out.keeps kz).1 KY.out.1 KY.out.2);have Lp:=hid (fun L (hL:L<8) (hv:dB L (fmL x.l) (fmL x.r)) (h0:(sqR x.l x.r).2=0)=>I1 hL HQ.out hv h0)
    have Lw:=hid (show(sqR x.l x.r).1.length≤40 from by
     unfold sqR;rw[if_pos HQ.out];unfold fR
     by_cases h:(sqF (fmL x.l) (fmL x.r)).enc.length≤40
     ·rw[if_pos h];exact h
     ·rw[if_neg h];simp)
    generalize sqR x.l x.r=sq at*;go_wp2_with fail;refine L0.out.mono ?_;rintro e w15 ⟨f1,rfl,LO,k15⟩;obtain⟨pf,nf,cf,rfl⟩:=LO.own_shape;have L7:=hid LO;have x2:=k15.cell x0;have x3:=k15.cell x1;have H7:=hid k15;clear L0 LO k15 x0 x1;go_wp2_with fail;refine(L1.out w15 H7.out).mono ?_;rintro e w16 ⟨f2,rfl,Ly,k16⟩;obtain⟨pg,ng,cg,rfl⟩:=Ly.own_shape;have Le:=hid (H7.out.trans k16);have MB:=H7.out.size;have L5:=hid ((L7.out.keeps k16).nds (by have:=Lw.out;omega));have L8:=hid Ly;have L6:=hid (Ly.nds (by have:=Lw.out;omega));have Lz:=hid (oC sq.1 sq.1 _ _ w16 L5.out L6.out);rw[show decide (sq.1=sq.1)=true by simp] at Lz
    have M6:(sq.2 != sq.2)=false:=by simp
    clear L1 Ly k16 L7 H7 x2 x3;go_wp2_with fail;refine Lz.out.mono ?_;rintro e w17 ⟨rfl,k17⟩;have L9:=hid (L8.out.keeps k17);have x6:=hid (Le.out.trans k17);obtain⟨L,MH,LJ⟩:=lg7 KU.out.1
    have Mo:lgN lg=L:=by rw[LJ];exact Ia qB
    have L2:=hid (show Calls Tryz.prog 18 #[.string lg,.int .i64 2] w17 (C9 L w17) from by rw[LJ];exact vw L MH w17);have Mn:=hid (show sq.2=0→sq.1=(sqF (fmL x.l) (fmL x.r)).enc∧(sqF (fmL x.l) (fmL x.r)).enc.length≤40∧(sqF (fmL x.l) (fmL x.r)).wf∧∀ b,b.length=2→Bnd 2 b→ofR L b=true→∀ vs,Bnd 2 vs→trB b vs (sqF (fmL x.l) (fmL x.r))=3 from fun h=>Lp.out L qB (by have:=x9.out;rw[Mo] at this;exact this) h);clear LJ Mo Lp x9 k17 L8 Lz L5 L6;go_wp2_with fail;refine L2.out.mono ?_;rintro e w18 ⟨vF,xF,rfl,KZ,MY,Ms,k18⟩;obtain⟨pF,cF,rfl,M4,MN⟩:=KZ.shape;unfold maxLen at MN;have Mc:=hid KZ;have L4:=hid Ms;have Ma:=hid (L9.out.keeps k18);have x7:=hid (Ld.out.trans (x6.out.trans k18));have KT:=hid ((Ll.out.keeps x6.out).keeps k18);have MD:=(x6.out.trans k18).size;have MC:=x6.out.size;clear KZ Ms k18 L9 L2 Ld x6 Le Ll
    by_cases h5:sq.2=0
    rotate_left
    ·have MJ:(sq.2 != 0)=true:=by simpa using h5
     have H9:=x7.out;clear h5;go_wp2_with fail;go_ret;exact⟨rfl,H9⟩
    ·have MJ:(sq.2 != 0)=false:=by simpa using h5
     obtain⟨Mt,Lr,Mv,Mu⟩:=Mn.out h5;have Lh:=hid Lr;have Mf:=hid Mv;have Me:=hid Mu;have Md:=hid Mt;clear Mt Lr Mv Mu Mn h5
     by_cases LI:xF.length=0
     ·have MK:(((xF.length:Nat):Int)==0)=true:=by simpa using LI
      have H9:=x7.out;clear LI;go_wp2_with fail;go_ret;exact⟨rfl,H9⟩
     ·have MK:(((xF.length:Nat):Int)==0)=false:=by simpa using LI
      have LY:=hid (uq ((xF.length:Nat):Int) B w18 KT.out qB);go_wp2_with fail;refine LY.out.mono ?_;rintro e w19 ⟨j,rfl,hj,d19⟩;have Mq:j<xF.length:=qB;have MQ:(j:Int)<xF.length:=qB;have KZ:=Mc.out.drT d19 KT.out qB;obtain⟨bF,oF,uF,eF,cF0,cF1,ME⟩:=KZ.get j Mq
      cases eF
      obtain⟨Mr,MU⟩:=L4.out _ (zo Mq);generalize xF[j]=b at*;obtain⟨KV,MI⟩:=rl b Mr;rw[KV] at cF0;rw[show(((2:Nat)):Int)=2 from rfl] at cF0;have Mb:=hid (Ma.out.dr d19 qB);have Lf:=hid (Dr.keepsOf x7.out MX d19);have hn:=Mb.out.nds (by have:=Lw.out;omega);rw[Md.out] at hn;have x9:=hid (rX b Mr (sqF (fmL x.l) (fmL x.r)) Mf.out Lh.out (fun vs hv _=>Me.out b KV (mQ fun y hy=>by have:=MI y hy;omega) MU vs hv) uF _ w19 (ME.ints (by simp[af,KV])) hn);clear hn ME KZ d19 Mb Ma Mc L4 LY KT hj Lw Md Lh Mf Me;go_wp2_with fail;refine x9.out.mono ?_;rintro e w20 ⟨rfl,k20⟩;have H9:=Lf.out.trans k20;clear k20 x9;go_wp2_with fail;go_ret;exact⟨rfl,H9⟩
end Go.Proofs.YtagoboblkadelaaGreat
