import Derived.Test.YtagoboblkadelaaGreatZFB
import Derived.Test.YtagoboblkadelaaGreatZEP
import Derived.Test.YtagoboblkadelaaGreatZV6
/- own -/
namespace Go.Proofs.YtagoboblkadelaaGreat
section
open Go.RowKit
theorem Ff {ss:List ByteArray} {G:List Fm} (h:ry ss G):ss=G.map txS:=by
 apply fS;rw[show ss.map bts=G.map Fm.body from h,List.map_map]
 exact List.map_congr_left fun t _=>(gU _).symm
def qH (x:ByteArray):Kq:=.pr (fun v w=>∃ ad,v=.pointer (some ad)∧w.cell? ad=some (.string x)) (fun _ _ _ k ⟨ad,e,h⟩=>⟨ad,e,k.cell h⟩)
theorem GC (b off n c i:Nat) (hi:i<n) (w:World):(Instr.indexAt 27 (.slice (some ⟨b,off,none⟩) n c) (.int .i64 (i:Int))).run Tryz.prog w=.ok (.pointer (some ⟨b,off+i,none⟩)) w:=by
 simp[Instr.indexAt,go_sem,hi,Addr.add]
theorem CH (p:Addr) (s:ByteArray) (w:World) (h:w.cell? p=some (.string s)):(Instr.loadAt 9 (.pointer (some p))).run Tryz.prog w=.ok (.string s) w:=by
 simp[Instr.loadAt,go_sem,h]
theorem CF (b:Nat) (p q:Option Addr) (n c m d:Nat) (w:World) (hb:aR w b 29 [.slice p n c,.slice q m d]):(Instr.loadAt 29 (.pointer (some ⟨b,0,none⟩))).run Tryz.prog w=.ok (.agg #[.slice p n c,.slice q m d]) w:=by
 have a0:=hb.cell 0 qD;have a1:=hb.cell 1 qD;simp only[zl,zj] at a0 a1;simp[Instr.loadAt,go_sem,a0,a1]
section
variable {md:Region.Mode} {ops:Array Oper} {Q:Exit→Act→World→Prop} {nt:Nat} {ins:List Nat} {kd:Nat→Kq} {w0:World} {o:Oper}
theorem tS (s i:Nat) (l:List ByteArray) (x:ByteArray) (ho:o.op=.indexAddr 27 (.tmp s) (.const (.int .i64 (i:Int)))) (hg:o.guard=none) (h:az md ops ins o s=true) (hs:kd s=.strs l) (hx:l[i]? = some x) (hk:∀ d,o.dst=some d→kd d=qH x):StQ md ops Q nt ins kd w0 o:=
 cB.plain hg fun a w K x6 hJ h9 eE hK=>by
  have hv:=dv h h9 eE;change (kd s).holds _ w at hv;rw[hs] at hv;have hv:aj w (a.eval (.tmp s)) l:=hv;obtain⟨hi,hx⟩:=List.getElem?_eq_some_iff.1 hx;obtain⟨p,c,e,_⟩:=hv.1.shape;rw[e] at hv;obtain⟨b,off,e2,hc⟩:=hv.1.get i hi
  cases e2
  rw[hx] at hc;have ei:a.eval (.const (.int .i64 (i:Int)))=.int .i64 (i:Int):=rfl;unfold Oper.wp execOp;simp only[ho,e,ei,Sem.run_bind,GC b off l.length c i hi,Result.andThen_ok,Sem.run_pure];exact hK _ _ (aa.refl w) (fun d hd=>by show(kd d).holds _ w;rw[hk d hd];exact⟨_,rfl,hc⟩)
theorem il (s:Nat) (x:ByteArray) (ho:o.op=.load 9 (.tmp s)) (hg:o.guard=none) (h:az md ops ins o s=true) (hs:kd s=qH x) (hk:∀ d,o.dst=some d→kd d=.val (.string x)):StQ md ops Q nt ins kd w0 o:=
 cB.plain hg fun a w K x6 hJ h9 eE hK=>by
  have hv:=dv h h9 eE;change (kd s).holds _ w at hv;rw[hs] at hv;obtain⟨ad,e,hc⟩:=(hv:∃ ad,a.eval (.tmp s)=.pointer (some ad)∧w.cell? ad=some (.string x));unfold Oper.wp execOp;simp only[ho,e,Sem.run_bind,CH ad x w hc,Result.andThen_ok,Sem.run_pure];exact hK _ _ (aa.refl w) (fun d hd=>by show(kd d).holds _ w;rw[hk d hd];exact rfl)
theorem rZ (s b:Nat) (u v:Value) (x y:List ByteArray) (ho:o.op=.load 29 (.tmp s)) (hg:o.guard=none) (h:az md ops ins o s=true) (hs:kd s=.val (.pointer (some ⟨b,0,none⟩))) (hb:aR w0 b 29 [u,v]) (hu:aj w0 u x) (hv:aj w0 v y) (hk:∀ d,o.dst=some d→kd d=.sq x y):StQ md ops Q nt ins kd w0 o:=
 cB.plain hg fun a w K x7 hJ x6 h9 hK=>by
  have eE:=dv h x6 h9;change (kd s).holds _ w at eE;rw[hs] at eE;have eE:a.eval (.tmp s)=.pointer (some ⟨b,0,none⟩):=eE;obtain⟨p,n,c,rfl⟩:=hu.sh;obtain⟨q,m,d,rfl⟩:=hv.sh;unfold Oper.wp execOp;simp only[ho,eE,Sem.run_bind,CF b p q n c m d w (hb.keeps hJ),Result.andThen_ok,Sem.run_pure];exact hK _ _ (aa.refl w) (fun d hd=>by show(kd d).holds _ w;rw[hk d hd];exact⟨_,_,rfl,hu.keeps hJ,hv.keeps hJ⟩)
theorem zP:aG 156:=fun _ _=>by kernel_rfl
theorem JN (s s':Nat) (x y:List ByteArray) (ho:o.op=.call { callee:=.value (.func 156),args:=#[.tmp s,.tmp s'],argTypes:=#[27,27] }) (hg:o.guard=none) (h:az md ops ins o s=true) (h':az md ops ins o s'=true) (hs:kd s=.strs x) (hs':kd s'=.strs y) (hl:x.length+y.length≤1000000) (hk:∀ d,o.dst=some d→kd d=.strs (fW x y)):StQ md ops Q nt ins kd w0 o:=
 dV 156 _ _ ho zP hg (fun a w1 _ hv=>by
  have g1:=hv s h;have g2:=hv s' h';rw[hs] at g1;rw[hs'] at g2;have g1:aj w1 (a.eval (.tmp s)) x:=g1;have g2:aj w1 (a.eval (.tmp s')) y:=g2;rw[Aj];refine(lD x y _ _ w1 g1.1 g2.1 qB).mono ?_;rintro e w2 ⟨v3,rfl,h3,k3⟩;have:=nk x y
  exact⟨_,rfl,k3,fun d hd=>by rw[hk d hd];exact h3.strsP qB⟩)
theorem jL (s s':Nat) (x:List ByteArray) (y:ByteArray) (ho:o.op=.call { callee:=.value (.func 156),args:=#[.tmp s,.tmp s'],argTypes:=#[27,27] }) (hg:o.guard=none) (h:az md ops ins o s=true) (h':az md ops ins o s'=true) (hs:kd s=.strs x) (hs':kd s'=.strs [y]) (hl:x.length≤100000) (hA:Asc (x.map bts)) (hk:∀ d,o.dst=some d→kd d=.strs (ae x y)):StQ md ops Q nt ins kd w0 o:=
 JN s s' x [y] ho hg h h' hs hs' (by simp;omega) (fun d hd=>by rw[hk d hd,yL hA])
theorem Hy (s s':Nat) (x:List ByteArray) (y z:ByteArray) (ho:o.op=.call { callee:=.value (.func 156),args:=#[.tmp s,.tmp s'],argTypes:=#[27,27] }) (hg:o.guard=none) (h:az md ops ins o s=true) (h':az md ops ins o s'=true) (hs:kd s=.strs x) (hs':kd s'=.strs [y,z]) (hl:x.length≤100000) (hA:Asc (x.map bts)) (hk:∀ d,o.dst=some d→kd d=.strs (ae (ae x y) z)):StQ md ops Q nt ins kd w0 o:=
 JN s s' x [y,z] ho hg h h' hs hs' (by simp;omega) (fun d hd=>by rw[hk d hd,EB hA])
theorem u6:aG 197:=fun _ _=>by kernel_rfl
theorem DT (s s':Nat) (x:List ByteArray) (y:ByteArray) (ho:o.op=.call { callee:=.value (.func 197),args:=#[.tmp s,.tmp s'],argTypes:=#[27,9] }) (hg:o.guard=none) (h:az md ops ins o s=true) (h':az md ops ins o s'=true) (hs:kd s=.strs x) (hs':kd s'=.val (.string y)) (hl:x.length≤1000000) (hk:∀ d,o.dst=some d→kd d=.strs (ah x y)):StQ md ops Q nt ins kd w0 o:=
 dV 197 _ _ ho u6 hg (fun a w1 _ hv=>by
  have g1:=hv s h;have g2:=hv s' h';rw[hs] at g1;rw[hs'] at g2;have g1:aj w1 (a.eval (.tmp s)) x:=g1;have g2:a.eval (.tmp s')=.string y:=g2;rw[Aj,g2];refine(uu x y _ w1 g1.1 qB).mono ?_;rintro e w2 ⟨v3,rfl,h3,k3⟩;have:=dj x y
  exact⟨_,rfl,k3,fun d hd=>by rw[hk d hd];exact h3.strsP qB⟩)
theorem vj:aG 161:=fun _ _=>by kernel_rfl
theorem JQ (s:Nat) (t:Fm) (ho:o.op=.call { callee:=.value (.func 161),args:=#[.tmp s],argTypes:=#[50] }) (hg:o.guard=none) (h:az md ops ins o s=true) (hs:kd s=.nd t) (hw:t.wf) (hl:t.enc.length≤100000000) (hk:∀ d,o.dst=some d→kd d=.val (.string (txS t))):StQ md ops Q nt ins kd w0 o:=
 dV 161 _ _ ho vj hg (fun a w1 _ hv=>by
  have g1:=hv s h;rw[hs] at g1;have g1:Nds w1 (a.eval (.tmp s)) t.enc:=g1;rw[wu];refine(gR t hw hl _ w1 g1).mono ?_;rintro e w2 ⟨s3,rfl,h3,k3⟩
  exact⟨_,rfl,k3,fun d hd=>by rw[hk d hd,iB h3];exact rfl⟩)
theorem u9:aG 198:=fun _ _=>by kernel_rfl
theorem DY (s:Nat) (t:Fm) (ho:o.op=.call { callee:=.value (.func 198),args:=#[.tmp s],argTypes:=#[50] }) (hg:o.guard=none) (h:az md ops ins o s=true) (hs:kd s=.nd t) (hw:t.wf) (hl:t.enc.length≤100000000) (hk:∀ d,o.dst=some d→kd d=.strs ((bS t).map txS)):StQ md ops Q nt ins kd w0 o:=
 dV 198 _ _ ho u9 hg (fun a w1 _ hv=>by
  have g1:=hv s h;rw[hs] at g1;have g1:Nds w1 (a.eval (.tmp s)) t.enc:=g1;rw[wu];refine(ue t hw hl _ w1 g1).mono ?_;rintro e w2 ⟨u,ss,rfl,h3,h4,k3⟩;have h2:=sL t;have h5:=h4.length
  exact⟨_,rfl,k3,fun d hd=>by rw[hk d hd,←Ff h4];exact h3.strsP qB⟩)
end
end
section
open Go.RowKit
theorem nh (X:List ByteArray) (hX:Asc (X.map bts)) (v:Value) (y:ByteArray) (w:World) (hv:aj w v X) (hl:X.length≤100000):
  Calls Tryz.prog 156 #[v,.slice (some ⟨w.heap.size,0,none⟩) 1 1] (w.alloc (.cells #[.string y] 9)) fun e w'=>∃ v',e=.returned v'∧aj w' v' (ae X y)∧aa w w':=by
 have k:=(aa.refl w).alloc (.cells #[.string y] 9);refine(lD X [y] v _ _ (hv.1.keeps k) (au.lit1 w y) (by simp;omega)).mono ?_;rintro e w' ⟨v',rfl,h,k'⟩;rw[yL hX] at h;have:=(aX X y).1;exact⟨v',rfl,h.strsP qB,k.trans k'⟩
def Ky (B b0:Nat) (lg main:ByteArray) (L R L' R':List ByteArray) (s:Nat):Kq:=
 if s=0∨s=10∨s=15 then .val (.string lg) else if s=2∨s=13∨s=18 then .val (.string main) else if s=4∨s=11 then .val (.pointer (some ⟨b0,0,none⟩)) else if s=16 then .val (.pointer (some ⟨b0,1,none⟩)) else
 if s=12 then .strs L else if s=17 then .strs R else if s=14 then .strs L' else if s=19 then .strs R' else if s=20 then .sq L' R' else if s=7 then Iy B else .any
theorem ur {w:World} {r i g o:Nat} {x:Value} (h:g≠r):(w.setCell ⟨r,i,none⟩ x).cell? ⟨g,o,none⟩=w.cell? ⟨g,o,none⟩:=by
 rw[World.cell?_setCell_other];intro e;injection e with e1;exact h e1.symm
theorem j9:aG 196:=fun _ _=>by kernel_rfl
set_option maxRecDepth 20000 in
set_option maxHeartbeats 4000000 in
theorem iS (lg main:ByteArray) (ss tt:List ByteArray) (hs:aW ss) (ht:aW tt) (a b:Value) (w:World) (ha:aj w a ss) (hb:aj w b tt) (hl:ss.length≤1000∧tt.length≤1000) (hm:main=⟨#[]⟩∨∃ t,ck main t∧(t.kind=5∨t.kind=6)):
  Calls Tryz.prog 155 #[.string lg,.agg #[a,b],.string main] w (Il w (mdQ (lgN lg) ss tt main).1 (mdQ (lgN lg) ss tt main).2):=by
 obtain⟨p,n,c,rfl⟩:=ha.sh;obtain⟨q,m,d,rfl⟩:=hb.sh;have k1:=(aa.refl w).alloc (.cells #[.slice p n c,.slice q m d] 29);have b1:=aR.made w 29 [.slice p n c,.slice q m d] qD qD
 have Lm:(w.alloc (.cells #[.slice p n c,.slice q m d] 29)).heap.size=w.heap.size+1:=by simp
 have k2:=(aa.refl (w.alloc (.cells #[.slice p n c,.slice q m d] 29))).alloc (.cells #[.slice none 0 0,.slice none 0 0] 29);have b2:=aR.made (w.alloc (.cells #[.slice p n c,.slice q m d] 29)) 29 [.slice none 0 0,.slice none 0 0] qD qD;rw[Lm] at b2
 have Ln:((w.alloc (.cells #[.slice p n c,.slice q m d] 29)).alloc (.cells #[.slice none 0 0,.slice none 0 0] 29)).heap.size=w.heap.size+2:=by simp
 have K2:=k1.trans k2;have KZ:=hid (b1.keeps k2);have KT:=hid b2;have HA:=hid (ha.keeps K2);have HC:=hid (hb.keeps K2);have HS:=hid hs;have HT:=hid ht;have HM:=hid hm;have HZ:=hid Ln;clear ha hb b1 b2 k1 k2 hs ht hm Lm Ln;go_enter Tryz.func155,Tryz.ntmps155
 go_upto_region 1 with fail
 generalize (w.alloc (.cells #[.slice p n c,.slice q m d] 29)).alloc (.cells #[.slice none 0 0,.slice none 0 0] 29)=w1 at*
 go_cut [7] from 10 to 20 (fun p7 wx=>∃ r x y,p7=.pointer (some ⟨r,0,none⟩)∧w.heap.size+2≤r∧aR wx r 29 [x,y]∧aj wx x (eJ (lgN lg) ss main)∧aj wx y (eQ (lgN lg) tt main)∧aR wx (w.heap.size+1) 29 [.slice none 0 0,.slice none 0 0]∧aa w wx)
 case first=>
  have kd:=(aa.refl w1).drew;have c0:=(KZ.out.keeps kd).cell 0 qD;have c1:=(KZ.out.keeps kd).cell 1 qD;simp only[zj,zl] at c0 c1
  refine la (L:=12) (nt:=70) (ins:=[0,2,4]) (ds:=[10,11,12,13,14,15,16,17,18,19,20,7]) qA qA (fun s v w'=>(Ky (w.heap.size+2) w.heap.size lg main ss tt (eJ (lgN lg) ss main) (eQ (lgN lg) tt main) s).holds v w') (fun _ _ _ _ h hv=>Kq.keeps h hv)
   (fun f w'=>∃ r x y,f 7=.pointer (some ⟨r,0,none⟩)∧w.heap.size+2≤r∧aR w' r 29 [x,y]∧aj w' x (eJ (lgN lg) ss main)∧aj w' y (eQ (lgN lg) tt main)∧aR w' (w.heap.size+1) 29 [.slice none 0 0,.slice none 0 0]∧aa w w') ?_ qA rfl ?_ ?_
  ·have Lr:=zx (Nat.le_of_eq HZ.out.symm) kd.size
   refine lF qC (ai 0 (.inl rfl) rfl qA (dd rfl)) ?_;refine lF qC (aD 4 (.pointer (some ⟨w.heap.size,0,none⟩)) (.pointer (some ⟨w.heap.size,0,none⟩)) rfl qA rfl (fun a w1 h1=>by unfold execOp;simp only[h1,Sem.run_bind,aM w.heap.size];rfl) (dd rfl)) ?_;refine lF qC (aJ 11 _ _ _ rfl rfl qA rfl c0 (HA.out.keeps kd) (dd rfl)) ?_;refine lF qC (ai 2 (.inl rfl) rfl qA (dd rfl)) ?_;refine lF qC (dV 196 _ _ rfl j9 rfl (fun a w1 h1 x9=>?_)) ?_
   ·have g1:a.eval (.tmp 10)=.string lg:=x9 10 qA
    have g2:aj w1 (a.eval (.tmp 12)) ss:=x9 12 qA;have g3:a.eval (.tmp 13)=.string main:=x9 13 qA;have g4:a.eval (.const (.int .i64 5))=.int .i64 5:=rfl;rw[Gl,g1,g3,g4];refine(pw lg ss HS.out _ 5 (.inl rfl) main w1 g2.1 hl.1).mono ?_;rintro e w2 ⟨v3,rfl,h3,k3⟩;exact⟨_,rfl,k3,fun d hd=>by cases hd;rw[gz] at h3;exact h3⟩
   refine lF qC (ai 0 (.inl rfl) rfl qA (dd rfl)) ?_;refine lF qC (aD 4 (.pointer (some ⟨w.heap.size,0,none⟩)) (.pointer (some ⟨w.heap.size,1,none⟩)) rfl qA rfl (fun a w1 h1=>by unfold execOp;simp only[h1,Sem.run_bind,aL w.heap.size];rfl) (dd rfl)) ?_;refine lF qC (aJ 16 _ _ _ rfl rfl qA rfl c1 (HC.out.keeps kd) (dd rfl)) ?_;refine lF qC (ai 2 (.inl rfl) rfl qA (dd rfl)) ?_;refine lF qC (dV 196 _ _ rfl j9 rfl (fun a w1 h1 x9=>?_)) ?_
   ·have g1:a.eval (.tmp 15)=.string lg:=x9 15 qA
    have g2:aj w1 (a.eval (.tmp 17)) tt:=x9 17 qA;have g3:a.eval (.tmp 18)=.string main:=x9 18 qA;have g4:a.eval (.const (.int .i64 6))=.int .i64 6:=rfl;rw[Gl,g1,g3,g4];refine(pw lg tt HT.out _ 6 (.inr rfl) main w1 g2.1 hl.2).mono ?_;rintro e w2 ⟨v3,rfl,h3,k3⟩;exact⟨_,rfl,k3,fun d hd=>by cases hd;rw[hO] at h3;exact h3⟩
   refine lF qC (eP 14 19 (eJ (lgN lg) ss main) (eQ (lgN lg) tt main) rfl rfl qA qA rfl rfl (dd rfl)) ?_;refine lF qC (JK (w.heap.size+2) rfl rfl Lr (dd rfl)) ?_;refine lG ?_;intro a w2 K Lx h1 Lk hK
   have h7:∃ r,a.eval (.tmp 7)=.pointer (some ⟨r,0,none⟩)∧w.heap.size+2≤r∧aR w2 r 29 [.slice none 0 0,.slice none 0 0]:=Lk 7 qC
   have Lp:∃ x y,a.eval (.tmp 20)=.agg #[x,y]∧aj w2 x (eJ (lgN lg) ss main)∧aj w2 y (eQ (lgN lg) tt main):=Lk 20 qC
   obtain⟨r,e7,hr,x8⟩:=h7;obtain⟨x,y,e21,hx,hy⟩:=Lp;obtain⟨px,nx,cx,rfl⟩:=hx.sh;obtain⟨py,ny,cy,rfl⟩:=hy.sh;have b3:=x8.set 0 (.slice px nx cx);have b4:=b3.set 1 (.slice py ny cy);have Lu:=(KT.out.keeps kd).keeps h1;have KS:w.heap.size+1≠r:=qB;unfold Oper.wp execOp;simp only[e7,e21,Sem.run_bind,kT r _ _ px py nx cx ny cy w2 x8,Result.andThen_ok]
   show K (a.put none undef) _
   refine hK undef _ ⟨r,_,_,by simpa using e7,hr,b4,(hx.box x8 (i:=0) qD ⟨_,_,_,rfl⟩).box b3 (i:=1) qD ⟨_,_,_,rfl⟩,(hy.box x8 (i:=0) qD ⟨_,_,_,rfl⟩).box b3 (i:=1) qD ⟨_,_,_,rfl⟩,(Lu.next x8 KS).next b3 KS,?_⟩;exact(((K2.trans kd).trans h1).setCell (p:=⟨r,0,none⟩) (by show w.heap.size≤r;omega) _).setCell (p:=⟨r,1,none⟩) (by show w.heap.size≤r;omega) _
  ·intro s hs
   have:s=0∨s=2∨s=4:=by simpa using hs
   rcases this with rfl | rfl | rfl<;>rfl
  ·intro f w' hF
   obtain⟨r,x,y,e7,hr,j1,j2,j3,j4,j5⟩:=hF;have HJ:=hid (And.intro hr (And.intro j1 (And.intro j2 (And.intro j3 (And.intro j4 j5)))));clear hr j1 j2 j3 j4 j5;simp only[aN,Act.put,za,zb,zc,e7];go_wp2_with fail
   go_meet
   exact⟨r,x,y,rfl,HJ.out⟩
 case rest=>
  obtain⟨r,x,y,rfl,hr,j1,j2,j3,j4,j5⟩:=hcut;obtain⟨px,nx,cx,rfl⟩:=j2.sh;obtain⟨py,ny,cy,rfl⟩:=j3.sh;have h9:Hid (mdQ (lgN lg) ss tt main=if main=⟨#[]⟩ then (eJ (lgN lg) ss main,eQ (lgN lg) tt main) else if bg (txF main) then oE (lgN lg) ss tt main else oG (lgN lg) ss tt main):=hid rfl;generalize mdQ (lgN lg) ss tt main=R at*;have Lj:MoB w wc r (.slice px nx cx) (.slice py ny cy) (eJ (lgN lg) ss main) (eQ (lgN lg) tt main):=⟨j1,j2,j3,j4,j5,hr⟩
  have l1:(eJ (lgN lg) ss main).length≤2000:=by have:=iO (lgN lg) bg ss main;unfold eJ;omega
  have l2:(eQ (lgN lg) tt main).length≤2000:=by have:=iO (lgN lg) bR tt main;unfold eQ;omega
  have Lb:=hid (show Asc ((eJ (lgN lg) ss main).map bts) from(dO HS.out).2);have Lc:=hid (show Asc ((eQ (lgN lg) tt main).map bts) from(dO HT.out).2);have Lo:=hid (World.ownsRow.lt j1 r rfl).2;have HB:=hid Lj;clear j1 j2 j3 j4 j5 KZ KT HA HC HS HT HZ Lj
  rcases HM.out with h0 | ⟨t,ht,hk⟩
  ·subst h0
   rw[if_pos rfl] at h9;obtain⟨c0,c1,f0,f1⟩:=HB.out.cells;obtain⟨d0,d1,g0,g1⟩:=HB.out.rcells;go_wp2_with fail;obtain⟨⟨y0,y1⟩,hR⟩:=HB.out.fin;refine bodyPost_ret (v:=.agg #[.slice px nx cx,.slice py ny cy]) (by simp[results,Tryz.results155,go_sem,y0,y1]) rfl ?_;rw[h9.out];exact hR
  ·have KS:main≠⟨#[]⟩:=fun e=>by
    subst e;have h1:=ht.2.1;have h2:=my t;rw[←h1] at h2;exact absurd h2 qC
   rw[if_neg KS] at h9;have Lt:=mm KS;have HG:=hid (fun wz=>lA t main wz ht);have KU:=hid ht;have HK:=hid hk;clear ht hk KS;have e2:=Gu lg;have Lh:Hid (paI main=txS (bH t)):=hid (by rw[←gi KU.out];rfl);have Ld:Hid (bg (txF main)=bg t):=hid (by rw[gi KU.out]);unfold oE oG at h9;rw[Lh.out,Ld.out] at h9;clear Lh Ld
   have Lf:Hid (∀ v wz,Nds wz v t.enc→Calls Tryz.prog 120 #[v] wz fun e w'=>∃ v,e=.returned v∧Nds wz v (bH t).enc∧wz=w'):=hid (fun v wz hz=>by
    have Ls:=HK.out
    cases t with
    | box x=>
     refine(bu _ ⟨5,0⟩ x [] _ _ hz (by simp[Fm.enc])).mono ?_;rintro e w' ⟨v1,rfl,x9,rfl⟩;exact⟨v1,rfl,x9,rfl⟩
    | dia x=>
     refine(bu _ ⟨6,0⟩ x [] _ _ hz (by simp[Fm.enc])).mono ?_;rintro e w' ⟨v1,rfl,x9,rfl⟩;exact⟨v1,rfl,x9,rfl⟩
    | _=>simp[Fm.kind] at Ls)
   have Li:=hid (fun v wz (hz:Nds wz v (bH t).enc)=>gR (bH t) (jZ KU.out.1) (by have:=KU.out.2.2;have:=jY (t:=t);omega) v wz hz);generalize eJ (lgN lg) ss main=X at*;generalize eQ (lgN lg) tt main=Y at*;clear hl HM;go_wp2_with fail;refine(HG.out _).mono ?_;rintro e w2 ⟨v2,rfl,KY,k2⟩
   have h0:0<t.enc.length:=by cases t<;>simp[Fm.enc]
   obtain⟨g,cap,rfl,_,_,Lw,Lq⟩:=KY.shape h0;have Lg:Hid (g≠r):=hid (by have a:=(World.ownsRow.lt KY g rfl).1;have b:=Lo.out;omega);have K0:=KY.nds (by have:=KU.out.2.2;omega);obtain⟨b9,o9,n9,c9,e9,g0,g1,g2,g3,z0,_⟩:=K0.root
   cases e9
   have Le:=hid (Lf.out _ _ K0);unfold maxLen at Lq;have KT:=hid (HB.out.keeps k2);clear HB KY K0 HG Lf;go_wp2_with fail;refine Le.out.mono ?_;rintro e w3 ⟨v3,rfl,La,rfl⟩;have KV:=hid (Li.out _ _ La);obtain⟨p3,n3,c3,rfl⟩:=La.shape;clear La Li Le;go_wp2_with fail;refine KV.out.mono ?_;rintro e w3 ⟨s3,rfl,Ll,k3⟩;obtain rfl:=iB Ll;have H7:=hid (KT.out.keeps k3);have z3:=k3.cell z0;clear Ll KT z0 KV;generalize txS (bH t)=pt at*
   rcases HK.out with h5 | h6
   ·have x8:bg t=true:=by cases t<;>simp[Fm.kind] at h5<;>rfl
    rw[if_pos x8] at h9;rw[h5] at z3;clear x8 h5 HK;obtain⟨c0,c1,f0,f1⟩:=H7.out.cells;have HI:=hid (nh Y Lc.out _ pt w3 H7.out.sy qB);go_wp2_with fail;refine HI.out.mono ?_;rintro e w4 ⟨v4,rfl,KP,k4⟩;obtain⟨p4,n4,c4,rfl⟩:=KP.sh;clear c0 c1 f0 f1;have H8:=H7.out.keeps k4;obtain⟨c0,c1,f0,f1⟩:=H8.cells;have x6:=hid (H8.set1 KP)
    have z4:(w4.setCell ⟨r,1,none⟩ (.slice p4 n4 c4)).cell? ⟨g,0,none⟩=some (.int .i64 5):=by rw[ur Lg.out];exact k4.cell z3
    clear H8 KP HI H7 z3 k4
    by_cases x7:lgN lg=5
    ·rw[decide_eq_true x7] at e2
     rw[if_pos x7] at h9;clear x7
     go_upto_region 9 with fail
     clear c0 c1 f0 f1;generalize w4.setCell ⟨r,1,none⟩ (.slice p4 n4 c4)=w5 at*;obtain⟨c0,c1,f0,f1⟩:=x6.out.cells;have HI:=hid (nh X Lb.out _ main w5 x6.out.sx qB);go_wp2_with fail;refine HI.out.mono ?_;rintro e w6 ⟨v6,rfl,KR,k6⟩;obtain⟨p6,n6,c6,rfl⟩:=KR.sh;clear c0 c1 f0 f1 z4;have H9:=x6.out.keeps k6;obtain⟨c0,c1,f0,f1⟩:=H9.cells;have eE:=hid (H9.set0 KR);clear H9 KR HI x6 k6
     go_upto_region 13 with fail
     clear c0 c1 f0 f1;generalize w6.setCell ⟨r,0,none⟩ (.slice p6 n6 c6)=w7 at*;obtain⟨c0,c1,f0,f1⟩:=eE.out.cells;obtain⟨d0,d1,g0,g1⟩:=eE.out.rcells;go_wp2_with fail;obtain⟨⟨y0,y1⟩,hR⟩:=eE.out.fin;refine bodyPost_ret (v:=.agg #[.slice p6 n6 c6,.slice p4 n4 c4]) (by simp[results,Tryz.results155,go_sem,y0,y1]) rfl ?_;rw[h9.out];exact hR
    ·rw[decide_eq_false x7] at e2
     rw[if_neg x7] at h9;clear x7
     go_upto_region 9 with fail
     clear c0 c1 f0 f1 z4;generalize w4.setCell ⟨r,1,none⟩ (.slice p4 n4 c4)=w5 at*;have eE:=hid x6.out;clear x6;obtain⟨c0,c1,f0,f1⟩:=eE.out.cells;obtain⟨d0,d1,g0,g1⟩:=eE.out.rcells;go_wp2_with fail;obtain⟨⟨y0,y1⟩,hR⟩:=eE.out.fin;refine bodyPost_ret (v:=.agg #[.slice px nx cx,.slice p4 n4 c4]) (by simp[results,Tryz.results155,go_sem,y0,y1]) rfl ?_;rw[h9.out];exact hR
   ·have x8:bg t=false:=by cases t<;>simp[Fm.kind] at h6<;>rfl
    rw[if_neg (by rw[x8];simp)] at h9;rw[h6] at z3;clear x8 h6 HK;obtain⟨c0,c1,f0,f1⟩:=H7.out.cells;have HI:=hid (nh X Lb.out _ pt w3 H7.out.sx qB);go_wp2_with fail;refine HI.out.mono ?_;rintro e w4 ⟨v4,rfl,KP,k4⟩;obtain⟨p4,n4,c4,rfl⟩:=KP.sh;clear c0 c1 f0 f1;have H8:=H7.out.keeps k4;obtain⟨c0,c1,f0,f1⟩:=H8.cells;have x6:=hid (H8.set0 KP)
    have z4:(w4.setCell ⟨r,0,none⟩ (.slice p4 n4 c4)).cell? ⟨g,0,none⟩=some (.int .i64 6):=by rw[ur Lg.out];exact k4.cell z3
    clear H8 KP HI H7 z3 k4
    by_cases x7:lgN lg=5
    ·rw[decide_eq_true x7] at e2
     rw[if_pos x7] at h9;clear x7
     go_upto_region 9 with fail
     clear c0 c1 f0 f1;generalize w4.setCell ⟨r,0,none⟩ (.slice p4 n4 c4)=w5 at*;obtain⟨c0,c1,f0,f1⟩:=x6.out.cells;have HI:=hid (nh Y Lc.out _ main w5 x6.out.sy qB);go_wp2_with fail;refine HI.out.mono ?_;rintro e w6 ⟨v6,rfl,KR,k6⟩;obtain⟨p6,n6,c6,rfl⟩:=KR.sh;clear c0 c1 f0 f1 z4;have H9:=x6.out.keeps k6;obtain⟨c0,c1,f0,f1⟩:=H9.cells;have eE:=hid (H9.set1 KR);clear H9 KR HI x6 k6
     go_upto_region 13 with fail
     clear c0 c1 f0 f1;generalize w6.setCell ⟨r,1,none⟩ (.slice p6 n6 c6)=w7 at*;obtain⟨c0,c1,f0,f1⟩:=eE.out.cells;obtain⟨d0,d1,g0,g1⟩:=eE.out.rcells;go_wp2_with fail;obtain⟨⟨y0,y1⟩,hR⟩:=eE.out.fin;refine bodyPost_ret (v:=.agg #[.slice p4 n4 c4,.slice p6 n6 c6]) (by simp[results,Tryz.results155,go_sem,y0,y1]) rfl ?_;rw[h9.out];exact hR
    ·rw[decide_eq_false x7] at e2
     rw[if_neg x7] at h9;clear x7
     go_upto_region 9 with fail
     clear c0 c1 f0 f1 z4;generalize w4.setCell ⟨r,0,none⟩ (.slice p4 n4 c4)=w5 at*;have eE:=hid x6.out;clear x6;obtain⟨c0,c1,f0,f1⟩:=eE.out.cells;obtain⟨d0,d1,g0,g1⟩:=eE.out.rcells;go_wp2_with fail;obtain⟨⟨y0,y1⟩,hR⟩:=eE.out.fin;refine bodyPost_ret (v:=.agg #[.slice p4 n4 c4,.slice py ny cy]) (by simp[results,Tryz.results155,go_sem,y0,y1]) rfl ?_;rw[h9.out];exact hR
end
end Go.Proofs.YtagoboblkadelaaGreat
