import Derived.Test.YtagoboblkadelaaGreatZGD
import Derived.Test.YtagoboblkadelaaGreatZTL
/- own -/
namespace Go.Proofs.YtagoboblkadelaaGreat
set_option maxRecDepth 100000
set_option maxHeartbeats 8000000
section
open Go.RowKit
def CS (q:SqT):Kq:=.pr (fun v w=>∃ b o x y,v=.pointer (some ⟨b,o,none⟩)∧w.cell? ⟨b,o,none⟩=some x∧w.cell? ⟨b,o+1,none⟩=some y∧aj w x q.1∧aj w y q.2) (fun _ _ _ k ⟨b,o,x,y,e,h1,h2,h3,h4⟩=>⟨b,o,x,y,e,k.cell h1,k.cell h2,h3.keeps k,h4.keeps k⟩)
def Cv (l:List ByteArray):Kq:=.pr (fun v w=>∃ ad x,v=.pointer (some ad)∧w.cell? ad=some x∧aj w x l) (fun _ _ _ k ⟨ad,x,e,h1,h2⟩=>⟨ad,x,e,k.cell h1,h2.keeps k⟩)
def stv (x:StT):Kq:=.pr (fun v w=>∃ p l q,v=.agg #[.int .i64 x.rule,p,l,q,.string x.main]∧(∃ a n c,p=.slice a n c)∧aj w l x.l∧aj w q x.r) (fun _ _ _ k ⟨p,l,q,e,h1,h2,h3⟩=>⟨p,l,q,e,h1,h2.keeps k,h3.keeps k⟩)
theorem EM (b off n c i:Nat) (hi:i<n) (w:World):(Instr.indexAt 109 (.slice (some ⟨b,off,none⟩) n c) (.int .i64 (i:Int))).run Tryz.prog w=.ok (.pointer (some ⟨b,off+i*2,none⟩)) w:=by
 simp[Instr.indexAt,go_sem,hi,Addr.add]
theorem CC (b o:Nat) (w:World):(Instr.fieldAt 29 (.pointer (some ⟨b,o,none⟩)) 0).run Tryz.prog w=.ok (.pointer (some ⟨b,o,none⟩)) w:=by
 simp[Instr.fieldAt,go_sem,Addr.add]
theorem CD (b o:Nat) (w:World):(Instr.fieldAt 29 (.pointer (some ⟨b,o,none⟩)) 1).run Tryz.prog w=.ok (.pointer (some ⟨b,o+1,none⟩)) w:=by
 simp[Instr.fieldAt,go_sem,Addr.add]
section
variable {md:Region.Mode} {ops:Array Oper} {Q:Exit→Act→World→Prop} {nt:Nat} {ins:List Nat} {kd:Nat→Kq} {w0:World} {o:Oper}
theorem DV (s:Nat) (ps:List SqT) (q:SqT) (ho:o.op=.indexAddr 109 (.tmp s) (.const (.int .i64 0))) (hg:o.guard=none) (h:az md ops ins o s=true) (hs:kd s=.sqs ps) (hq:ps[0]? = some q) (hk:∀ d,o.dst=some d→kd d=CS q):StQ md ops Q nt ins kd w0 o:=
 cB.plain hg fun a w K x6 hJ h9 eE hK=>by
  have hv:=dv h h9 eE;change (kd s).holds _ w at hv;rw[hs] at hv;have hv:SqL w (a.eval (.tmp s)) ps:=hv;obtain⟨hi,hq⟩:=List.getElem?_eq_some_iff.1 hq;obtain⟨p,c,e,_⟩:=hv.shape;rw[e] at hv;obtain⟨b,off,p1,n1,c1,p2,n2,c2,e2,h1,h2,h3,h4⟩:=hv.get 0 hi
  cases e2
  rw[hq] at h3 h4;have ei:a.eval (.const (.int .i64 0))=.int .i64 ((0:Nat):Int):=rfl;unfold Oper.wp execOp;simp only[ho,e,ei,Sem.run_bind,EM b off ps.length c 0 hi,Result.andThen_ok,Sem.run_pure];exact hK _ _ (aa.refl w) (fun d hd=>by show(kd d).holds _ w;rw[hk d hd];exact⟨b,off+0*2,_,_,rfl,h1,h2,h3,h4⟩)
theorem DU (s:Nat) (q:SqT) (ho:o.op=.fieldAddr 29 (.tmp s) 0) (hg:o.guard=none) (h:az md ops ins o s=true) (hs:kd s=CS q) (hk:∀ d,o.dst=some d→kd d=Cv q.1):StQ md ops Q nt ins kd w0 o:=
 cB.plain hg fun a w K x6 hJ h9 eE hK=>by
  have hv:=dv h h9 eE;change (kd s).holds _ w at hv;rw[hs] at hv;obtain⟨b,o',x,y,e,h1,h2,h3,h4⟩:=(hv:∃ b o x y,a.eval (.tmp s)=.pointer (some ⟨b,o,none⟩)∧w.cell? ⟨b,o,none⟩=some x∧w.cell? ⟨b,o+1,none⟩=some y∧aj w x q.1∧aj w y q.2);unfold Oper.wp execOp;simp only[ho,e,Sem.run_bind,CC,Result.andThen_ok,Sem.run_pure];exact hK _ _ (aa.refl w) (fun d hd=>by show(kd d).holds _ w;rw[hk d hd];exact⟨_,x,rfl,h1,h3⟩)
theorem IK (s:Nat) (q:SqT) (ho:o.op=.fieldAddr 29 (.tmp s) 1) (hg:o.guard=none) (h:az md ops ins o s=true) (hs:kd s=CS q) (hk:∀ d,o.dst=some d→kd d=Cv q.2):StQ md ops Q nt ins kd w0 o:=
 cB.plain hg fun a w K x6 hJ h9 eE hK=>by
  have hv:=dv h h9 eE;change (kd s).holds _ w at hv;rw[hs] at hv;obtain⟨b,o',x,y,e,h1,h2,h3,h4⟩:=(hv:∃ b o x y,a.eval (.tmp s)=.pointer (some ⟨b,o,none⟩)∧w.cell? ⟨b,o,none⟩=some x∧w.cell? ⟨b,o+1,none⟩=some y∧aj w x q.1∧aj w y q.2);unfold Oper.wp execOp;simp only[ho,e,Sem.run_bind,CD,Result.andThen_ok,Sem.run_pure];exact hK _ _ (aa.refl w) (fun d hd=>by show(kd d).holds _ w;rw[hk d hd];exact⟨_,y,rfl,h2,h4⟩)
theorem Ac (s:Nat) (l:List ByteArray) (ho:o.op=.load 27 (.tmp s)) (hg:o.guard=none) (h:az md ops ins o s=true) (hs:kd s=Cv l) (hk:∀ d,o.dst=some d→kd d=.strs l):StQ md ops Q nt ins kd w0 o:=
 cB.plain hg fun a w K x7 hJ h9 eE hK=>by
  have hv:=dv h h9 eE;change (kd s).holds _ w at hv;rw[hs] at hv;obtain⟨ad,x,e,h1,h2⟩:=(hv:∃ ad x,a.eval (.tmp s)=.pointer (some ad)∧w.cell? ad=some x∧aj w x l);obtain⟨p,n,c,rfl⟩:=h2.sh
  have x6:(Instr.loadAt 27 (.pointer (some ad))).run Tryz.prog w=.ok (.slice p n c) w:=by simp[Instr.loadAt,go_sem,h1]
  unfold Oper.wp execOp;simp only[ho,e,Sem.run_bind,x6,Result.andThen_ok,Sem.run_pure];exact hK _ _ (aa.refl w) (fun d hd=>by show(kd d).holds _ w;rw[hk d hd];exact h2)
theorem IM (s:Nat) (ad:Addr) (n:Int) (ho:o.op=.load 2 (.tmp s)) (hg:o.guard=none) (h:az md ops ins o s=true) (hs:kd s=.val (.pointer (some ad))) (hc:w0.cell? ad=some (.int .i64 n)) (hk:∀ d,o.dst=some d→kd d=.val (.int .i64 n)):StQ md ops Q nt ins kd w0 o:=
 cB.plain hg fun a w K x7 hJ h9 eE hK=>by
  have hv:=dv h h9 eE;change (kd s).holds _ w at hv;rw[hs] at hv;have hv:a.eval (.tmp s)=.pointer (some ad):=hv;have hc':=hJ.cell hc
  have x6:(Instr.loadAt 2 (.pointer (some ad))).run Tryz.prog w=.ok (.int .i64 n) w:=by simp[Instr.loadAt,go_sem,hc']
  unfold Oper.wp execOp;simp only[ho,hv,Sem.run_bind,x6,Result.andThen_ok,Sem.run_pure];exact hK _ _ (aa.refl w) (fun d hd=>by show(kd d).holds _ w;rw[hk d hd];exact rfl)
theorem AB (b:Nat) (r:Int) (p q s:Option Addr) (n c m d k e:Nat) (u:ByteArray) (w:World) (hb:aR w b 47 [.int .i64 r,.slice p n c,.slice q m d,.slice s k e,.string u]):(Instr.loadAt 47 (.pointer (some ⟨b,0,none⟩))).run Tryz.prog w=.ok (.agg #[.int .i64 r,.slice p n c,.slice q m d,.slice s k e,.string u]) w:=by
 have a0:=hb.cell 0 qD;have a1:=hb.cell 1 qD;have a2:=hb.cell 2 qD;have a3:=hb.cell 3 qD;have a4:=hb.cell 4 qD;simp only[zl,zj] at a0 a1 a2 a3 a4;simp[Instr.loadAt,go_sem,a0,a1,a2,a3,a4]
theorem Gc (s b:Nat) (x:StT) (p l q:Value) (ho:o.op=.load 47 (.tmp s)) (hg:o.guard=none) (h:az md ops ins o s=true) (hs:kd s=.val (.pointer (some ⟨b,0,none⟩))) (hb:StB w0 b x p l q) (hk:∀ d,o.dst=some d→kd d=stv x):StQ md ops Q nt ins kd w0 o:=
 cB.plain hg fun a w K x6 hJ h9 eE hK=>by
  have hv:=dv h h9 eE;change (kd s).holds _ w at hv;rw[hs] at hv;have hv:a.eval (.tmp s)=.pointer (some ⟨b,0,none⟩):=hv;have hb':=hb.keeps hJ;obtain⟨p1,c1,rfl,_⟩:=hb'.pr.sh5;obtain⟨p2,n2,c2,rfl⟩:=hb'.sl.sh;obtain⟨p3,n3,c3,rfl⟩:=hb'.sr.sh;unfold Oper.wp execOp;simp only[ho,hv,Sem.run_bind,AB b _ _ _ _ _ _ _ _ _ _ _ w hb'.box,Result.andThen_ok,Sem.run_pure];exact hK _ _ (aa.refl w) (fun d hd=>by show(kd d).holds _ w;rw[hk d hd];exact⟨_,_,_,rfl,⟨_,_,_,rfl⟩,hb'.sl,hb'.sr⟩)
theorem xI:aG 24:=fun _ _=>by kernel_rfl
theorem JP (s:Nat) (x:StT) (ho:o.op=.call { callee:=.value (.func 24),args:=#[.tmp s],argTypes:=#[47] }) (hg:o.guard=none) (h:az md ops ins o s=true) (hs:kd s=stv x) (hk:∀ d,o.dst=some d→kd d=.sq x.l x.r):StQ md ops Q nt ins kd w0 o:=
 dV 24 _ _ ho xI hg (fun a w1 _ hv=>by
  have g1:=hv s h;rw[hs] at g1;obtain⟨p,l,q,e,⟨p1,n1,c1,rfl⟩,h2,h3⟩:=(g1:∃ p l q,a.eval (.tmp s)=.agg #[.int .i64 x.rule,p,l,q,.string x.main]∧(∃ a n c,p=.slice a n c)∧aj w1 l x.l∧aj w1 q x.r);obtain⟨p2,n2,c2,rfl⟩:=h2.sh;obtain⟨p3,n3,c3,rfl⟩:=h3.sh;rw[wu,e];refine(ia x.rule p1 p2 p3 n1 c1 n2 c2 n3 c3 x.main w1).mono ?_;rintro e w2 ⟨rfl,k2⟩
  exact⟨_,rfl,k2,fun d hd=>by rw[hk d hd];exact⟨_,_,rfl,h2.keeps k2,h3.keeps k2⟩⟩)
theorem tM:aG 105:=fun _ _=>by kernel_rfl
theorem vE (s s':Nat) (P X:List ByteArray) (b:Bool) (hb:ja P X=b) (ho:o.op=.call { callee:=.value (.func 105),args:=#[.tmp s,.tmp s'],argTypes:=#[27,27] }) (hg:o.guard=none) (h:az md ops ins o s=true) (h':az md ops ins o s'=true) (hs:kd s=.strs P) (hs':kd s'=.strs X) (hk:∀ d,o.dst=some d→kd d=.val (.bool b)):StQ md ops Q nt ins kd w0 o:=
 dV 105 _ _ ho tM hg (fun a w1 _ hv=>by
  have g1:=hv s h;have g2:=hv s' h';rw[hs] at g1;rw[hs'] at g2;have g1:aj w1 (a.eval (.tmp s)) P:=g1;have g2:aj w1 (a.eval (.tmp s')) X:=g2;rw[Aj];refine(AK P X _ _ w1 g1.1 g2.1).mono ?_;rintro e w2 ⟨rfl,k2⟩
  exact⟨_,rfl,k2,fun d hd=>by rw[hk d hd,hb];exact rfl⟩)
theorem xG:aG 106:=fun _ _=>by kernel_rfl
theorem JM (s1 s2 s3 s4:Nat) (lg:ByteArray) (r:Int) (main:ByteArray) (ss tt:List ByteArray) (ho:o.op=.call { callee:=.value (.func 106),args:=#[.tmp s1,.tmp s2,.tmp s3,.tmp s4],argTypes:=#[9,2,29,9] }) (hg:o.guard=none) (h1:az md ops ins o s1=true) (h2:az md ops ins o s2=true) (h3:az md ops ins o s3=true) (h4:az md ops ins o s4=true)
  (e1:kd s1=.val (.string lg)) (e2:kd s2=.val (.int .i64 r)) (e3:kd s3=.sq ss tt) (e4:kd s4=.val (.string main)) (eE:lg∈aT) (hs:aW ss) (ht:aW tt) (hl:ss.length≤1000∧tt.length≤1000) (h9:main.size≤10000000) (hk:∀ d,o.dst=some d→kd d=qI (bM (lgN lg) r.toNat ss tt main)):StQ md ops Q nt ins kd w0 o:=
 dV 106 _ _ ho xG hg (fun a w1 _ hv=>by
  have g1:=hv s1 h1;have g2:=hv s2 h2;have g3:=hv s3 h3;have g4:=hv s4 h4;rw[e1] at g1;rw[e2] at g2;rw[e3] at g3;rw[e4] at g4;have g1:a.eval (.tmp s1)=.string lg:=g1;have g2:a.eval (.tmp s2)=.int .i64 r:=g2;have g4:a.eval (.tmp s4)=.string main:=g4;obtain⟨x,y,g3,hx,hy⟩:=g3;rw[Eh,g1,g2,g3,g4];refine(sO lg r main eE ss tt hs ht x y w1 hx hy hl h9).mono ?_;rintro e w2 hR;obtain⟨v,rfl,k2,h⟩:=hR.tup
  exact⟨v,rfl,k2,fun d hd=>by rw[hk d hd];exact h⟩)
theorem EN (T:TypeId) (p:Option Addr) (n c:Nat) (w:World):(Builtin.len_ #[109] T #[.slice p n c]).run Tryz.prog w=.ok (.int .i64 (n:Int)) w:=qA
theorem DW (s:Nat) (ps:List SqT) (ho:o.op=.call { callee:=.builtin .len,args:=#[.tmp s],argTypes:=#[109] }) (hg:o.guard=none) (h:az md ops ins o s=true) (hs:kd s=.sqs ps) (hk:∀ d,o.dst=some d→kd d=.val (.int .i64 ((ps.length:Nat):Int))):StQ md ops Q nt ins kd w0 o:=
 cB.plain hg fun a w K x6 hJ h9 eE hK=>by
  have hv:=dv h h9 eE;change (kd s).holds _ w at hv;rw[hs] at hv;have hv:SqL w (a.eval (.tmp s)) ps:=hv;obtain⟨p,c,e,_⟩:=hv.shape;unfold Oper.wp execOp;simp only[ho,resolve,invoke,builtin,Sem.run_bind,Sem.run_pure,Result.andThen_ok,List.map_toArray,List.map_cons,List.map_nil,e,EN];exact hK _ _ (aa.refl w) (fun d hd=>by show(kd d).holds _ w;rw[hk d hd];exact rfl)
theorem II (s n:Nat) (b:Bool) (hb:decide (n=1)=b) (ho:o.op=.binOp .eql 3 (.tmp s) (.const (.int .i64 1)) 3) (hg:o.guard=none) (h:az md ops ins o s=true) (hs:kd s=.val (.int .i64 (n:Int))) (hk:∀ d,o.dst=some d→kd d=.val (.bool b)):StQ md ops Q nt ins kd w0 o:=
 aD s _ (.bool b) hg h hs (fun a w e1=>by
  unfold execOp;have ec:a.eval (.const (.int .i64 1))=.int .i64 ((1:Nat):Int):=rfl;simp only[ho,e1,ec,Sem.run_bind,BF n 1];rw[hb]
  rfl) hk
theorem GB (m:ByteArray) (w:World):(binOp .eql 9 (.string m) (.string ⟨#[]⟩)).run Tryz.prog w=.ok (.bool (m.toList==[])) w:=by
 have h:(binOp .eql 9 (.string m) (.string ⟨#[]⟩)).run Tryz.prog w=.ok (.bool (m.toList==(⟨#[]⟩:ByteArray).toList)) w:=qA;rw[h,show(⟨#[]⟩:ByteArray).toList=[] from ByteArray.toList_eq _]
theorem Gb (s:Nat) (m:ByteArray) (b:Bool) (hb:(m.toList==[])=b) (ho:o.op=.binOp .eql 9 (.tmp s) (.const (.string ⟨#[]⟩)) 9) (hg:o.guard=none) (h:az md ops ins o s=true) (hs:kd s=.val (.string m)) (hk:∀ d,o.dst=some d→kd d=.val (.bool b)):StQ md ops Q nt ins kd w0 o:=
 aD s _ (.bool b) hg h hs (fun a w e1=>by
  unfold execOp;have ec:a.eval (.const (.string ⟨#[]⟩))=.string ⟨#[]⟩:=rfl;simp only[ho,e1,ec,Sem.run_bind,GB m];rw[hb]
  rfl) hk
end
open scoped Classical in
theorem tO (lg:ByteArray) (Lp:lg∈aT) (bef:List StT) (x:StT) (hm:Mid x.l∧Mid x.r∧x.main.size≤10000000) (v p l q:Value) (w:World) (hv:StL w v bef) (hp:aV w p x.pr) (hl:aj w l x.l) (hr:aj w q x.r):
  Calls Tryz.prog 64 #[.string lg,v,.agg #[.int .i64 x.rule,p,l,q,.string x.main]] w fun e w'=>e=.returned (.bool (iF (lgN lg) bef bef.length x))∧aa w w':=by
 obtain⟨p1,c1,rfl,LQ⟩:=hp.sh5;obtain⟨p2,n2,c2,rfl⟩:=hl.sh;obtain⟨p3,n3,c3,rfl⟩:=hr.sh;obtain⟨m1,m2,m3⟩:=hm;have kA:=(aa.refl w).alloc (.cells #[.int .i64 x.rule,.slice p1 x.pr.length c1,.slice p2 n2 c2,.slice p3 n3 c3,.string x.main] 47);have HX:=hid (StB.made w x _ _ _ hp hl hr);have HV:=hid (hv.keeps kA);obtain⟨pv,cv,rfl,LX,LO,LZ⟩:=hv.shape;unfold maxLen at LO;have HE:Hid (iF (lgN lg) bef bef.length x=(isQ x.l x.r&&(x.pr.all (fun i=>inR i 0 ((bef.length:Int)-1))&&ob (lgN lg) bef x))):=hid rfl;generalize iF (lgN lg) bef bef.length x=R at*;have Ly:=hid Lp;have Ln:=hid (fun wz=>ia x.rule p1 p2 p3 x.pr.length c1 n2 c2 n3 c3 x.main wz);have Lz:=hid m1;have LC:=hid m2;clear hv hp hl hr Lp m1 m2;go_enter Tryz.func64,Tryz.ntmps64
 go_upto_region 1 with fail
 generalize w.alloc (.cells #[.int .i64 x.rule,.slice p1 x.pr.length c1,.slice p2 n2 c2,.slice p3 n3 c3,.string x.main] 47)=w1 at*;have Lm:=hid (fun wz (kz:aa w1 wz)=>eO x.l x.r _ _ wz (HX.out.keeps kz).sl.1 (HX.out.keeps kz).sr.1 Lz.out LC.out);obtain⟨y0,y1,y2,y3,y4⟩:=HX.out.cells;go_wp2_with fail;refine(Ln.out _).mono ?_;rintro e w2 ⟨rfl,k2⟩;go_wp2_with fail;refine(Lm.out _ k2).mono ?_;rintro e w3 ⟨rfl,k3⟩;have Ld:=hid ((HX.out.keeps k2).keeps k3);have LJ:=hid ((HV.out.keeps k2).keeps k3);have K3:=(kA.trans k2).trans k3;clear y0 y1 y2 y3 y4 HX HV Lm Ln kA k2 k3
 cases hq:isQ x.l x.r
 ·rw[hq] at HE
  have HR:Hid (R=false):=hid HE.out;clear HE hq;go_wp2_with fail;go_ret;exact⟨ab HR.out.symm,K3⟩
 ·obtain⟨l1,l2,s1,s2⟩:=dx hq
  rw[hq,Bool.true_and] at HE;have LG:=hid s1;have LH:=hid s2;clear hq s1 s2;obtain⟨y0,y1,y2,y3,y4⟩:=Ld.out.cells
  obtain⟨npr,KZ⟩:∃ npr,npr=x.pr.length:=⟨_,rfl⟩
  rw[←KZ] at y1 LQ;have La:=hid KZ;rw[←KZ];clear KZ;go_wp2_with fail
  go_loopw [7,19] (fun g i' wr=>∃ i:Nat,i≤npr∧i'=.int .i64 i∧SqR w3 wr w3.heap.size g ((x.pr.take i).map (ej bef))∧(∀ j (h:j<x.pr.length),j<i→inR x.pr[j] 0 ((bef.length:Int)-1)=true)∧aa w3 wr) (fun _ i' _=>npr-(intOf i').toNat)
  case atStart=>exact⟨0,qB,rfl,by simpa using SqR.nil w3 w3 w3.heap.size,fun j _ h=>by omega,aa.refl _⟩
  case round=>
   obtain⟨i,hi,rfl,Lo,KP,kw⟩:=hrel;have HA:=hid KP;have HG:=hid Lo;clear KP Lo
   by_cases LY:i<npr
   ·have Lh:(i:Int)<npr:=qB
    have Lg:i<x.pr.length:=by have:=La.out;omega
    obtain⟨bp,op,ep,zp⟩:=(Ld.out.keeps kw).pr.int i Lg
    cases ep
    have HI:=hid (fun wz=>eU x.pr[i] 0 ((bef.length:Int)-1) wz)
    have x8:Hid (inR x.pr[i] 0 ((bef.length:Int)-1)=true→∀ j (h:j<x.pr.length),j<i+1→inR x.pr[j] 0 ((bef.length:Int)-1)=true):=hid (fun h j hj LV=>by
     by_cases e:j=i
     ·subst e;exact h
     ·exact HA.out j hj qB)
    have K0:Hid (inR x.pr[i] 0 ((bef.length:Int)-1)=false→R=false):=hid (fun h=>by
     rw[HE.out,show x.pr.all (fun i=>inR i 0 ((bef.length:Int)-1))=false from List.all_eq_false.2 ⟨x.pr[i],zo Lg,by rw[h];simp⟩,Bool.false_and])
    have Lc:Hid ((x.pr.take (i+1)).map (ej bef)=(x.pr.take i).map (ej bef)++[ej bef x.pr[i]]):=hid (by rw[zq Lg,List.map_append];rfl)
    have Lb:Hid (inR x.pr[i] 0 ((bef.length:Int)-1)=true→0≤x.pr[i]∧x.pr[i].toNat<bef.length):=hid (fun h=>by
     unfold inR at h;have:=of_decide_eq_true h
     omega)
    have KS:((x.pr.take i).map (ej bef)).length≤npr:=by simp;omega
    have H9:=hid KS;generalize LP:x.pr[i]=pi at*;generalize inR pi 0 ((bef.length:Int)-1)=bb at*;clear LP KS
    cases bb
    ·have HR:=hid (K0.out rfl)
     clear K0 x8 HE Lc Lb;go_wp2_with fail;refine(HI.out _).mono ?_;rintro e w' ⟨rfl,rfl⟩;go_wp2_with fail;go_ret;exact⟨ab HR.out.symm,K3.trans kw⟩
    ·have Lu:=hid (x8.out rfl)
     obtain⟨h0,h1⟩:=Lb.out rfl
     obtain⟨j0,LN⟩:∃ j0:Nat,pi=(j0:Int):=⟨pi.toNat,qB⟩
     subst LN;rw[Int.toNat_natCast] at h1
     have Lt:ej bef ((j0:Nat):Int)=(bef[j0].l,bef[j0].r):=by
      unfold ej;rw[i6 h0 (by rw[Int.toNat_natCast];exact h1)];rfl
     rw[Lt] at Lc;obtain⟨b',o',q1,u1,e1,q2,u2,e2,q3,u3,e3,eo,⟨f0,f1,f2,f3,f4⟩,-,jl,jr⟩:=(LJ.out).get j0 h1
     cases eo
     have LW:(j0:Int)<bef.length:=qB;have HJ:=hid (And.intro jl jr)
     replace f0:=kw.cell f0
     replace f1:=kw.cell f1
     replace f2:=kw.cell f2
     replace f3:=kw.cell f3
     replace f4:=kw.cell f4
     have LI:=hid (fun wz=>ia bef[j0].rule q1 q2 q3 u1 e1 u2 e2 u3 e3 bef[j0].main wz);clear K0 x8 Lb Lt jl jr h0 HE;generalize bef[j0]=y at*;generalize (x.pr.take i).map (ej bef)=GV at*;go_wp2_with fail;refine(HI.out _).mono ?_;rintro e w' ⟨rfl,rfl⟩;go_wp2_with fail;refine(LI.out _).mono ?_;rintro e w5 ⟨rfl,k5⟩;have k6:=k5.alloc (.cells #[.slice q2 u2 e2,.slice q3 u3 e3] 29);have LK:=HG.out.keeps k6;have LL:=At.lit2q w5 (.slice q2 u2 e2) (.slice q3 u3 e3) 29;have K6:=kw.trans k6;have LS:=K6.size;clear f0 f1 f2 f3 f4
     go_wp2_with (at_builtin;refine Kj rfl (.tmp 29) (.tmp 35) rfl w3.heap.size _ GV rfl LK _ _ _ _ y.l y.r rfl LL HJ.out.1 HJ.out.2 LS (by have:=H9.out;omega) ?_;intro v7 w7 LU LM LR)
     have K7:=K6.grown LM LR;go_roundw
     case rel=>exact⟨i+1,qB,by go_num,by rw[Lc.out];exact LU,Lu.out,K7⟩
     case measure=>simp[intOf];omega
   ·obtain rfl:i=npr:=qB
    have Lh:¬((i:Int)<i):=qB
    obtain⟨gv,KY⟩:∃ gv,x.pr.map (ej bef)=gv:=⟨_,rfl⟩
    have Lf:SqL wr _ gv:=HG.out.sql kw (by simp;omega) |> (fun h=>by rw[List.take_of_length_le (by have:=La.out;omega),KY] at h;exact h)
    have KS:gv.length=x.pr.length:=by rw[←KY,List.length_map]
    obtain⟨pg,cg,eg,_⟩:=Lf.shape;subst eg;have Lk:=hid Lf;have H9:=hid KS;have Ll:=hid KY
    have KT:Hid (R=ob (lgN lg) bef x):=hid (by
     rw[HE.out,show x.pr.all (fun i=>inR i 0 ((bef.length:Int)-1))=true from List.all_eq_true.2 (fun q hq=>by
      obtain⟨j,hj,rfl⟩:=List.getElem_of_mem hq
      exact HA.out j hj (by have:=La.out;omega)),Bool.true_and])
    have Le:=hid (Ld.out.keeps kw);clear Lf KS KY HG HA HE y0 y1 y2 y3 y4;obtain⟨y0,y1,y2,y3,y4⟩:=Le.out.cells
    by_cases h9:x.rule=13
    ·rw[h9] at y0
     have eE:Hid (R=(decide (x.pr.length=1)&&decide (x.main=⟨#[]⟩)&&(ja (jU bef (x.pr.getD 0 0)).l x.l&&ja (jU bef (x.pr.getD 0 0)).r x.r))):=hid (by
      rw[KT.out];unfold ob
      rw[if_pos h9])
     clear KT h9
     go_upto_region 12 with fail
     have kd:=(aa.refl wr).drew;have KD:=kw.trans kd;have x7:=Le.out.keeps kd;obtain⟨-,-,c2',c3',c4⟩:=x7.cells;have sl:=x7.sl;have sr:=x7.sr;have i7:=Lk.out.keeps kd
     obtain⟨rx,H8⟩:∃ rx,rx=w.heap.size:=⟨_,rfl⟩
     rw[←H8] at c2' c3' c4 x7 ⊢;clear H8 y0 y1 y2 y3 y4
     by_cases x9:x.main=⟨#[]⟩
     ·have KR:(x.main.toList==[])=true:=by rw[x9,ByteArray.toList_eq];rfl
      by_cases KV:gv.length=1
      ·have KU:decide (gv.length=1)=true:=decide_eq_true KV
       obtain⟨q0,H7⟩:∃ q0,gv[0]? = some q0:=⟨gv[0]'qB,zn qB⟩
       have Lq:q0=ej bef (x.pr.getD 0 0):=by
        have:=Ll.out;rw[←this,List.getElem?_map] at H7
        have h0:0<x.pr.length:=by have:=H9.out;omega
        rw[zn h0] at H7;rw[zi,zn h0];exact(Option.some.inj H7).symm
       have Lj:Hid (R=(ja q0.1 x.l&&ja q0.2 x.r)):=hid (by
        rw[eE.out,decide_eq_true (by have:=H9.out;omega),decide_eq_true x9,Lq]
        rfl)
       clear eE Lq x9 KV;generalize Ls:ja q0.2 x.r=b2 at*;generalize Lr:ja q0.1 x.l=s1 at*;have x6:=hid Lj.out;clear Lj
       cases s1
       ·refine ao (L:=27) (nt:=84) (ins:=[5,7]) (ds:=[41,42,43,44,45,46,47,48,49,50,51,52,53,54,55,56,57,58,59,60,61,62,63,64,65,66,6]) qA qA (fun s v w'=>((fun s=>if s=5 then .val (.pointer (some ⟨rx,0,none⟩)) else if s=6 then .val (.bool false) else if s=7 then .sqs gv else if s=41 then .val (.pointer (some ⟨rx,4,none⟩)) else if s=42 then .val (.string x.main) else if s=43 then .val (.bool true) else if s=44 then .val (.bool true) else if s=45 then .sqs gv else if s=46 then .val (.int .i64 ((gv.length:Nat):Int)) else if s=47 then .val (.bool true) else if s=48 then .val (.bool true) else if s=49 then .val (.bool true) else if s=50 then .sqs gv else if s=51 then CS q0 else if s=52 then Cv (q0.1) else if s=53 then .strs (q0.1) else if s=54 then .val (.pointer (some ⟨rx,2,none⟩)) else if s=55 then .strs (x.l) else if s=56 then .val (.bool false) else if s=57 then .val (.bool false) else if s=58 then .val (.bool false) else if s=66 then .val (.bool false) else .any:Nat→Kq) s).holds v w') (fun _ _ _ _ h hv=>Kq.keeps h hv) ?_ qA rfl ?_ ?_
        ·refine lK (aD 5 (.pointer (some ⟨rx,0,none⟩)) (.pointer (some ⟨rx,4,none⟩)) rfl qA rfl (fun a w1 h1=>by unfold execOp;simp only[h1,Sem.run_bind,fw rx];rfl) (dd rfl)) ?_
         refine lK (r7 41 _ _ rfl rfl qA rfl c4 (dd rfl)) ?_;refine lK (Gb 42 x.main true KR rfl rfl qA rfl (dd rfl)) ?_;refine lK (ai 43 (.inl rfl) rfl qA (dd rfl)) ?_;refine lK (kOn 3 44 true rfl rfl qC qA rfl (ai 7 (.inl rfl) rfl qA (dd rfl))) ?_;refine lK (kOn 3 44 true rfl rfl qC qA rfl (DW 45 gv rfl rfl qA rfl (dd rfl))) ?_;refine lK (kOn 3 44 true rfl rfl qC qA rfl (II 46 gv.length true KU rfl rfl qA rfl (dd rfl))) ?_;refine lK (iq 44 47 _ (.bool true) rfl rfl qA qA rfl rfl (dd rfl)) ?_;refine lK (ai 48 (.inl rfl) rfl qA (dd rfl)) ?_;refine lK (kOn 8 49 true rfl rfl qC qA rfl (ai 7 (.inl rfl) rfl qA (dd rfl))) ?_;refine lK (kOn 8 49 true rfl rfl qC qA rfl (DV 50 gv q0 rfl rfl qA rfl H7 (dd rfl))) ?_;refine lK (kOn 8 49 true rfl rfl qC qA rfl (DU 51 q0 rfl rfl qA rfl (dd rfl))) ?_;refine lK (kOn 8 49 true rfl rfl qC qA rfl (Ac 52 (q0.1) rfl rfl qA rfl (dd rfl))) ?_;refine lK (kOn 8 49 true rfl rfl qC qA rfl (aD 5 (.pointer (some ⟨rx,0,none⟩)) (.pointer (some ⟨rx,2,none⟩)) rfl qA rfl (fun a w1 h1=>by unfold execOp;simp only[h1,Sem.run_bind,dk rx];rfl) (dd rfl))) ?_;refine lK (kOn 8 49 true rfl rfl qC qA rfl (aJ 54 _ _ _ rfl rfl qA rfl c2' sl (dd rfl))) ?_;refine lK (kOn 8 49 true rfl rfl qC qA rfl (vE 53 55 (q0.1) (x.l) false Lr rfl rfl qA qA rfl rfl (dd rfl))) ?_;refine lK (iq 49 56 _ (.bool false) rfl rfl qA qA rfl rfl (dd rfl)) ?_;refine lK (ai 57 (.inl rfl) rfl qA (dd rfl)) ?_;refine lK (cJ 17 58 false rfl rfl qC qA rfl (dd rfl)) ?_;refine lK (cJ 17 58 false rfl rfl qC qA rfl (dd rfl)) ?_;refine lK (cJ 17 58 false rfl rfl qC qA rfl (dd rfl)) ?_;refine lK (cJ 17 58 false rfl rfl qC qA rfl (dd rfl)) ?_;refine lK (cJ 17 58 false rfl rfl qC qA rfl (dd rfl)) ?_;refine lK (cJ 17 58 false rfl rfl qC qA rfl (dd rfl)) ?_;refine lK (cJ 17 58 false rfl rfl qC qA rfl (dd rfl)) ?_;refine lK (im 58 _ (.bool false) rfl rfl qA rfl (dd rfl)) ?_;refine lK (ai 66 (.inr rfl) rfl qA (dd rfl)) True.intro
        ·intro s hs
         have:s=5∨s=7:=by simpa using hs
         rcases this with rfl | rfl
         ·exact rfl
         ·exact i7
        ·intro f w' hk hv
         have g6:f 6=.bool false:=hv 6 qC;clear hv
         skip
         simp only[aN,Act.put,za,zb,zc,g6];clear g6;go_wp2_with fail;go_ret;exact⟨ab (by rw[x6.out];try rfl),(K3.trans KD).trans hk⟩
       ·refine ao (L:=27) (nt:=84) (ins:=[5,7]) (ds:=[41,42,43,44,45,46,47,48,49,50,51,52,53,54,55,56,57,58,59,60,61,62,63,64,65,66,6]) qA qA (fun s v w'=>((fun s=>if s=5 then .val (.pointer (some ⟨rx,0,none⟩)) else if s=6 then .val (.bool b2) else if s=7 then .sqs gv else if s=41 then .val (.pointer (some ⟨rx,4,none⟩)) else if s=42 then .val (.string x.main) else if s=43 then .val (.bool true) else if s=44 then .val (.bool true) else if s=45 then .sqs gv else if s=46 then .val (.int .i64 ((gv.length:Nat):Int)) else if s=47 then .val (.bool true) else if s=48 then .val (.bool true) else if s=49 then .val (.bool true) else if s=50 then .sqs gv else if s=51 then CS q0 else if s=52 then Cv (q0.1) else if s=53 then .strs (q0.1) else if s=54 then .val (.pointer (some ⟨rx,2,none⟩)) else if s=55 then .strs (x.l) else if s=56 then .val (.bool true) else if s=57 then .val (.bool true) else if s=58 then .val (.bool true) else if s=59 then .sqs gv else if s=60 then CS q0 else if s=61 then Cv (q0.2) else if s=62 then .strs (q0.2) else if s=63 then .val (.pointer (some ⟨rx,3,none⟩)) else if s=64 then .strs (x.r) else if s=65 then .val (.bool b2) else if s=66 then .val (.bool b2) else .any:Nat→Kq) s).holds v w') (fun _ _ _ _ h hv=>Kq.keeps h hv) ?_ qA rfl ?_ ?_
        ·refine lK (aD 5 (.pointer (some ⟨rx,0,none⟩)) (.pointer (some ⟨rx,4,none⟩)) rfl qA rfl (fun a w1 h1=>by unfold execOp;simp only[h1,Sem.run_bind,fw rx];rfl) (dd rfl)) ?_
         refine lK (r7 41 _ _ rfl rfl qA rfl c4 (dd rfl)) ?_;refine lK (Gb 42 x.main true KR rfl rfl qA rfl (dd rfl)) ?_;refine lK (ai 43 (.inl rfl) rfl qA (dd rfl)) ?_;refine lK (kOn 3 44 true rfl rfl qC qA rfl (ai 7 (.inl rfl) rfl qA (dd rfl))) ?_;refine lK (kOn 3 44 true rfl rfl qC qA rfl (DW 45 gv rfl rfl qA rfl (dd rfl))) ?_;refine lK (kOn 3 44 true rfl rfl qC qA rfl (II 46 gv.length true KU rfl rfl qA rfl (dd rfl))) ?_;refine lK (iq 44 47 _ (.bool true) rfl rfl qA qA rfl rfl (dd rfl)) ?_;refine lK (ai 48 (.inl rfl) rfl qA (dd rfl)) ?_;refine lK (kOn 8 49 true rfl rfl qC qA rfl (ai 7 (.inl rfl) rfl qA (dd rfl))) ?_;refine lK (kOn 8 49 true rfl rfl qC qA rfl (DV 50 gv q0 rfl rfl qA rfl H7 (dd rfl))) ?_;refine lK (kOn 8 49 true rfl rfl qC qA rfl (DU 51 q0 rfl rfl qA rfl (dd rfl))) ?_;refine lK (kOn 8 49 true rfl rfl qC qA rfl (Ac 52 (q0.1) rfl rfl qA rfl (dd rfl))) ?_;refine lK (kOn 8 49 true rfl rfl qC qA rfl (aD 5 (.pointer (some ⟨rx,0,none⟩)) (.pointer (some ⟨rx,2,none⟩)) rfl qA rfl (fun a w1 h1=>by unfold execOp;simp only[h1,Sem.run_bind,dk rx];rfl) (dd rfl))) ?_;refine lK (kOn 8 49 true rfl rfl qC qA rfl (aJ 54 _ _ _ rfl rfl qA rfl c2' sl (dd rfl))) ?_;refine lK (kOn 8 49 true rfl rfl qC qA rfl (vE 53 55 (q0.1) (x.l) true Lr rfl rfl qA qA rfl rfl (dd rfl))) ?_;refine lK (iq 49 56 _ (.bool true) rfl rfl qA qA rfl rfl (dd rfl)) ?_;refine lK (ai 57 (.inl rfl) rfl qA (dd rfl)) ?_;refine lK (kOn 17 58 true rfl rfl qC qA rfl (ai 7 (.inl rfl) rfl qA (dd rfl))) ?_;refine lK (kOn 17 58 true rfl rfl qC qA rfl (DV 59 gv q0 rfl rfl qA rfl H7 (dd rfl))) ?_;refine lK (kOn 17 58 true rfl rfl qC qA rfl (IK 60 q0 rfl rfl qA rfl (dd rfl))) ?_;refine lK (kOn 17 58 true rfl rfl qC qA rfl (Ac 61 (q0.2) rfl rfl qA rfl (dd rfl))) ?_;refine lK (kOn 17 58 true rfl rfl qC qA rfl (aD 5 (.pointer (some ⟨rx,0,none⟩)) (.pointer (some ⟨rx,3,none⟩)) rfl qA rfl (fun a w1 h1=>by unfold execOp;simp only[h1,Sem.run_bind,gC rx];rfl) (dd rfl))) ?_;refine lK (kOn 17 58 true rfl rfl qC qA rfl (aJ 63 _ _ _ rfl rfl qA rfl c3' sr (dd rfl))) ?_;refine lK (kOn 17 58 true rfl rfl qC qA rfl (vE 62 64 (q0.2) (x.r) b2 Ls rfl rfl qA qA rfl rfl (dd rfl))) ?_;refine lK (iq 58 65 _ (.bool b2) rfl rfl qA qA rfl rfl (dd rfl)) ?_;refine lK (ai 66 (.inr rfl) rfl qA (dd rfl)) True.intro
        ·intro s hs
         have:s=5∨s=7:=by simpa using hs
         rcases this with rfl | rfl
         ·exact rfl
         ·exact i7
        ·intro f w' hk hv
         have g6:f 6=.bool b2:=hv 6 qC;clear hv;clear Ls;simp only[aN,Act.put,za,zb,zc,g6];clear g6;go_wp2_with fail;go_ret;exact⟨ab (by rw[x6.out];try rfl),(K3.trans KD).trans hk⟩
      ·have KU:decide (gv.length=1)=false:=decide_eq_false KV
       have x6:Hid (R=false):=hid (by rw[eE.out,decide_eq_false (by have:=H9.out;omega),Bool.false_and,Bool.false_and]);clear eE x9 KV;refine ao (L:=27) (nt:=84) (ins:=[5,7]) (ds:=[41,42,43,44,45,46,47,48,49,50,51,52,53,54,55,56,57,58,59,60,61,62,63,64,65,66,6]) qA qA (fun s v w'=>((fun s=>if s=5 then .val (.pointer (some ⟨rx,0,none⟩)) else if s=6 then .val (.bool false) else if s=7 then .sqs gv else if s=41 then .val (.pointer (some ⟨rx,4,none⟩)) else if s=42 then .val (.string x.main) else if s=43 then .val (.bool true) else if s=44 then .val (.bool true) else if s=45 then .sqs gv else if s=46 then .val (.int .i64 ((gv.length:Nat):Int)) else if s=47 then .val (.bool false) else if s=48 then .val (.bool false) else if s=49 then .val (.bool false) else if s=57 then .val (.bool false) else if s=58 then .val (.bool false) else if s=66 then .val (.bool false) else .any:Nat→Kq) s).holds v w') (fun _ _ _ _ h hv=>Kq.keeps h hv) ?_ qA rfl ?_ ?_
       ·refine lK (aD 5 (.pointer (some ⟨rx,0,none⟩)) (.pointer (some ⟨rx,4,none⟩)) rfl qA rfl (fun a w1 h1=>by unfold execOp;simp only[h1,Sem.run_bind,fw rx];rfl) (dd rfl)) ?_
        refine lK (r7 41 _ _ rfl rfl qA rfl c4 (dd rfl)) ?_;refine lK (Gb 42 x.main true KR rfl rfl qA rfl (dd rfl)) ?_;refine lK (ai 43 (.inl rfl) rfl qA (dd rfl)) ?_;refine lK (kOn 3 44 true rfl rfl qC qA rfl (ai 7 (.inl rfl) rfl qA (dd rfl))) ?_;refine lK (kOn 3 44 true rfl rfl qC qA rfl (DW 45 gv rfl rfl qA rfl (dd rfl))) ?_;refine lK (kOn 3 44 true rfl rfl qC qA rfl (II 46 gv.length false KU rfl rfl qA rfl (dd rfl))) ?_;refine lK (iq 44 47 _ (.bool false) rfl rfl qA qA rfl rfl (dd rfl)) ?_;refine lK (ai 48 (.inl rfl) rfl qA (dd rfl)) ?_;refine lK (cJ 8 49 false rfl rfl qC qA rfl (dd rfl)) ?_;refine lK (cJ 8 49 false rfl rfl qC qA rfl (dd rfl)) ?_;refine lK (cJ 8 49 false rfl rfl qC qA rfl (dd rfl)) ?_;refine lK (cJ 8 49 false rfl rfl qC qA rfl (dd rfl)) ?_;refine lK (cJ 8 49 false rfl rfl qC qA rfl (dd rfl)) ?_;refine lK (cJ 8 49 false rfl rfl qC qA rfl (dd rfl)) ?_;refine lK (cJ 8 49 false rfl rfl qC qA rfl (dd rfl)) ?_;refine lK (im 49 _ (.bool false) rfl rfl qA rfl (dd rfl)) ?_;refine lK (ai 57 (.inl rfl) rfl qA (dd rfl)) ?_;refine lK (cJ 17 58 false rfl rfl qC qA rfl (dd rfl)) ?_;refine lK (cJ 17 58 false rfl rfl qC qA rfl (dd rfl)) ?_;refine lK (cJ 17 58 false rfl rfl qC qA rfl (dd rfl)) ?_;refine lK (cJ 17 58 false rfl rfl qC qA rfl (dd rfl)) ?_;refine lK (cJ 17 58 false rfl rfl qC qA rfl (dd rfl)) ?_;refine lK (cJ 17 58 false rfl rfl qC qA rfl (dd rfl)) ?_;refine lK (cJ 17 58 false rfl rfl qC qA rfl (dd rfl)) ?_;refine lK (im 58 _ (.bool false) rfl rfl qA rfl (dd rfl)) ?_;refine lK (ai 66 (.inr rfl) rfl qA (dd rfl)) True.intro
       ·intro s hs
        have:s=5∨s=7:=by simpa using hs
        rcases this with rfl | rfl
        ·exact rfl
        ·exact i7
       ·intro f w' hk hv
        have g6:f 6=.bool false:=hv 6 qC;clear hv
        skip
        simp only[aN,Act.put,za,zb,zc,g6];clear g6;go_wp2_with fail;go_ret;exact⟨ab (by rw[x6.out];try rfl),(K3.trans KD).trans hk⟩
     ·have KR:=mm x9
      have x6:Hid (R=false):=hid (by rw[eE.out,decide_eq_false x9,Bool.and_false,Bool.false_and]);clear eE x9;refine ao (L:=27) (nt:=84) (ins:=[5,7]) (ds:=[41,42,43,44,45,46,47,48,49,50,51,52,53,54,55,56,57,58,59,60,61,62,63,64,65,66,6]) qA qA (fun s v w'=>((fun s=>if s=5 then .val (.pointer (some ⟨rx,0,none⟩)) else if s=6 then .val (.bool false) else if s=7 then .sqs gv else if s=41 then .val (.pointer (some ⟨rx,4,none⟩)) else if s=42 then .val (.string x.main) else if s=43 then .val (.bool false) else if s=44 then .val (.bool false) else if s=48 then .val (.bool false) else if s=49 then .val (.bool false) else if s=57 then .val (.bool false) else if s=58 then .val (.bool false) else if s=66 then .val (.bool false) else .any:Nat→Kq) s).holds v w') (fun _ _ _ _ h hv=>Kq.keeps h hv) ?_ qA rfl ?_ ?_
      ·refine lK (aD 5 (.pointer (some ⟨rx,0,none⟩)) (.pointer (some ⟨rx,4,none⟩)) rfl qA rfl (fun a w1 h1=>by unfold execOp;simp only[h1,Sem.run_bind,fw rx];rfl) (dd rfl)) ?_
       refine lK (r7 41 _ _ rfl rfl qA rfl c4 (dd rfl)) ?_;refine lK (Gb 42 x.main false KR rfl rfl qA rfl (dd rfl)) ?_;refine lK (ai 43 (.inl rfl) rfl qA (dd rfl)) ?_;refine lK (cJ 3 44 false rfl rfl qC qA rfl (dd rfl)) ?_;refine lK (cJ 3 44 false rfl rfl qC qA rfl (dd rfl)) ?_;refine lK (cJ 3 44 false rfl rfl qC qA rfl (dd rfl)) ?_;refine lK (im 44 _ (.bool false) rfl rfl qA rfl (dd rfl)) ?_;refine lK (ai 48 (.inl rfl) rfl qA (dd rfl)) ?_;refine lK (cJ 8 49 false rfl rfl qC qA rfl (dd rfl)) ?_;refine lK (cJ 8 49 false rfl rfl qC qA rfl (dd rfl)) ?_;refine lK (cJ 8 49 false rfl rfl qC qA rfl (dd rfl)) ?_;refine lK (cJ 8 49 false rfl rfl qC qA rfl (dd rfl)) ?_;refine lK (cJ 8 49 false rfl rfl qC qA rfl (dd rfl)) ?_;refine lK (cJ 8 49 false rfl rfl qC qA rfl (dd rfl)) ?_;refine lK (cJ 8 49 false rfl rfl qC qA rfl (dd rfl)) ?_;refine lK (im 49 _ (.bool false) rfl rfl qA rfl (dd rfl)) ?_;refine lK (ai 57 (.inl rfl) rfl qA (dd rfl)) ?_;refine lK (cJ 17 58 false rfl rfl qC qA rfl (dd rfl)) ?_;refine lK (cJ 17 58 false rfl rfl qC qA rfl (dd rfl)) ?_;refine lK (cJ 17 58 false rfl rfl qC qA rfl (dd rfl)) ?_;refine lK (cJ 17 58 false rfl rfl qC qA rfl (dd rfl)) ?_;refine lK (cJ 17 58 false rfl rfl qC qA rfl (dd rfl)) ?_;refine lK (cJ 17 58 false rfl rfl qC qA rfl (dd rfl)) ?_;refine lK (cJ 17 58 false rfl rfl qC qA rfl (dd rfl)) ?_;refine lK (im 58 _ (.bool false) rfl rfl qA rfl (dd rfl)) ?_;refine lK (ai 66 (.inr rfl) rfl qA (dd rfl)) True.intro
      ·intro s hs
       have:s=5∨s=7:=by simpa using hs
       rcases this with rfl | rfl
       ·exact rfl
       ·exact i7
      ·intro f w' hk hv
       have g6:f 6=.bool false:=hv 6 qC;clear hv
       skip
       simp only[aN,Act.put,za,zb,zc,g6];clear g6;go_wp2_with fail;go_ret;exact⟨ab (by rw[x6.out];try rfl),(K3.trans KD).trans hk⟩
    ·have hr':(x.rule==13)=false:=by simpa using h9
     have eE:Hid (R=match bM (lgN lg) x.rule.toNat x.l x.r x.main with
      | none=>false
      | some ps=>decide (ps=gv)):=hid (by
      rw[KT.out];unfold ob;rw[if_neg h9,Ll.out]
      rfl)
     clear KT h9
     go_upto_region 13 with fail
     go_cut [10,11] from 67 to 77 (fun v10 v11 wx=>(iw (bM (lgN lg) x.rule.toNat x.l x.r x.main)).holds v10 wx∧v11=.bool (bM (lgN lg) x.rule.toNat x.l x.r x.main).isSome∧aa wr wx)
     case first=>
      have kd:=(aa.refl wr).drew;have x7:=Le.out.keeps kd;obtain⟨c0,-,-,-,c4⟩:=x7.cells
      obtain⟨rx,H8⟩:∃ rx,rx=w.heap.size:=⟨_,rfl⟩
      rw[←H8] at c0 c4 x7 ⊢;have LF:=hid H8;clear H8 y0 y1 y2 y3 y4;refine ao (L:=13) (nt:=84) (ins:=[0,5]) (ds:=[68,69,70,71,72,73,74,75,67,76,77,10,11]) qA qA (fun s v w'=>((fun s=>if s=0 then .val (.string lg) else if s=5 then .val (.pointer (some ⟨rx,0,none⟩)) else if s=10 then iw (bM (lgN lg) x.rule.toNat x.l x.r x.main) else if s=11 then .val (.bool (bM (lgN lg) x.rule.toNat x.l x.r x.main).isSome) else if s=67 then qI (bM (lgN lg) x.rule.toNat x.l x.r x.main) else if s=68 then .val (.string lg) else if s=69 then .val (.pointer (some ⟨rx,0,none⟩)) else if s=70 then .val (.int .i64 x.rule) else if s=71 then stv x else if s=72 then .sq (x.l) (x.r) else if s=73 then .val (.pointer (some ⟨rx,4,none⟩)) else if s=74 then .val (.string x.main) else if s=75 then qI (bM (lgN lg) x.rule.toNat x.l x.r x.main) else if s=76 then iw (bM (lgN lg) x.rule.toNat x.l x.r x.main) else if s=77 then .val (.bool (bM (lgN lg) x.rule.toNat x.l x.r x.main).isSome) else .any:Nat→Kq) s).holds v w') (fun _ _ _ _ h hv=>Kq.keeps h hv) ?_ qA rfl ?_ ?_
      ·refine lK (ai 0 (.inl rfl) rfl qA (dd rfl)) ?_
       refine lK (aD 5 (.pointer (some ⟨rx,0,none⟩)) (.pointer (some ⟨rx,0,none⟩)) rfl qA rfl (fun a w1 h1=>by unfold execOp;simp only[h1,Sem.run_bind,wP rx];rfl) (dd rfl)) ?_;refine lK (IM 69 _ _ rfl rfl qA rfl c0 (dd rfl)) ?_;refine lK (Gc 5 rx x _ _ _ rfl rfl qA rfl x7 (dd rfl)) ?_;refine lK (JP 71 x rfl rfl qA rfl (dd rfl)) ?_;refine lK (aD 5 (.pointer (some ⟨rx,0,none⟩)) (.pointer (some ⟨rx,4,none⟩)) rfl qA rfl (fun a w1 h1=>by unfold execOp;simp only[h1,Sem.run_bind,fw rx];rfl) (dd rfl)) ?_;refine lK (r7 73 _ _ rfl rfl qA rfl c4 (dd rfl)) ?_;refine lK (JM 68 70 72 74 lg x.rule x.main x.l x.r rfl rfl qA qA qA qA rfl rfl rfl rfl Ly.out LG.out LH.out ⟨qB,qB⟩ m3 (dd rfl)) ?_;refine lK (ai 75 (.inl rfl) rfl qA (dd rfl)) ?_;refine lK (Br 67 (bM (lgN lg) x.rule.toNat x.l x.r x.main) rfl rfl qA rfl (dd rfl)) ?_;refine lK (Bs 67 (bM (lgN lg) x.rule.toNat x.l x.r x.main) rfl rfl qA rfl (dd rfl)) ?_;refine lK (ai 76 (.inr rfl) rfl qA (dd rfl)) ?_;refine lK (ai 77 (.inr rfl) rfl qA (dd rfl)) True.intro
      ·intro s hs
       have:s=0∨s=5:=by simpa using hs
       rcases this with rfl | rfl
       ·exact rfl
       ·exact rfl
      ·intro f w' hk hv
       have g10:(iw (bM (lgN lg) x.rule.toNat x.l x.r x.main)).holds (f 10) w':=hv 10 qC;have g11:f 11=.bool (bM (lgN lg) x.rule.toNat x.l x.r x.main).isSome:=hv 11 qC;have G10:=hid g10;clear hv g10 eE
       obtain⟨ok,Li⟩:∃ ok,(bM (lgN lg) x.rule.toNat x.l x.r x.main).isSome=ok:=⟨_,rfl⟩
       rw[Li] at g11;have LD:=hid Li;clear Li;simp only[aN,Act.put,za,zb,zc,g11];clear g11;go_wp2_with fail;have erx:=LF.out;subst erx
       go_meet
       exact⟨G10.out,(congrArg Value.bool LD.out).symm,kd.trans hk⟩
     case rest=>
      obtain⟨g10,rfl,kx⟩:=hcut;obtain⟨p6,n6,c6,rfl⟩:=g10.1;have G10:=hid g10;have KX:=(K3.trans kw).trans kx;have Lx:=hid (Lk.out.keeps kx);clear g10 y0 y1 y2 y3 y4
      cases hlp:bM (lgN lg) x.rule.toNat x.l x.r x.main with
      | none=>
       rw[hlp] at eE;have x6:Hid (R=false):=hid eE.out;clear eE hlp;go_wp2_with fail;go_ret;exact⟨ab x6.out.symm,KX⟩
      | some ps=>
       rw[hlp] at eE G10
       have x6:Hid (R=decide (gv=ps)):=hid (by
        rw[eE.out,Bool.eq_iff_iff,decide_eq_true_eq,decide_eq_true_eq]
        exact⟨Eq.symm,Eq.symm⟩)
       have Lw:=hid (xK gv ps _ _ wc Lx.out (G10.out.2 ps rfl));clear eE hlp;go_wp2_with fail;refine Lw.out.mono ?_;rintro e w9 ⟨rfl,k9⟩;go_wp2_with fail;go_ret;exact⟨ab (by rw[x6.out]),KX.trans k9⟩
end
section
open Go.RowKit
theorem StL.take {w:World} {p:Option Addr} {n cap:Nat} {xs:List StT} (h:StL w (.slice p n cap) xs) (i:Nat) (hi:i≤xs.length):StL w (.slice p i cap) (xs.take i):=by
 obtain⟨p',cap',hv,h1,h2,h3,h4⟩:=h
 cases hv
 have hl:(xs.take i).length=i:=by simp;omega
 refine⟨p,cap,by rw[hl],qB,h2,qB,fun j hj=>?_⟩;obtain⟨b,off,f,hp,hc,hr⟩:=h4 j qB;exact⟨b,off,f,hp,hc,by rw[List.getElem_take];exact hr⟩
theorem uM {steps:List StT} {i:Int} {k:Nat} (h0:0≤i) (h1:i.toNat<k) (hk:k≤steps.length):jU (steps.take k) i=jU steps i:=by
 rw[i6 h0 (by simp;omega),i6 h0 qB,List.getElem_take]
theorem BZ {L:Nat} {steps:List StT} {k:Nat} {x:StT} (hk:k≤steps.length):iF L (steps.take k) k x=iF L steps k x:=by
 unfold iF
 cases h1:x.pr.all (fun i=>inR i 0 ((k:Int)-1))
 ·rw[Bool.false_and,Bool.false_and]
 ·have x6:∀ i∈x.pr,0≤i∧i.toNat<k:=fun i hi=>by
   have:=List.all_eq_true.1 h1 i hi;unfold inR at this;have:=of_decide_eq_true this;omega
  have h9:x.pr.map (ej (steps.take k))=x.pr.map (ej steps):=List.map_congr_left fun i hi=>by
   obtain⟨a,b⟩:=x6 i hi;unfold ej;rw[uM a b hk]
  have eE:ob L (steps.take k) x=ob L steps x:=by
   unfold ob;rw[h9]
   by_cases hr:x.rule=13
   ·rw[if_pos hr,if_pos hr]
    by_cases hl:x.pr.length=1
    ·have h0:x.pr.getD 0 0∈x.pr:=by
      rw[zi,zn qB];exact zo _
     obtain⟨a,b⟩:=x6 _ h0;rw[uM a b hk]
    ·simp[hl]
   ·rw[if_neg hr,if_neg hr]
  rw[eE]
theorem yN (a:Addr) (m cap h:Nat) (hh:h≤cap) (wx:World):(Instr.slice 24 (.slice (some a) m cap) none (some (.int .i64 (h:Int))) none).run Tryz.prog wx=.ok (.slice (some a) h cap) wx:=by
 have hT:Tryz.prog.underlying 24=some (.slice (Tryz.prog.elem 24)):=qA;have hE:Tryz.prog.elem 24=47:=qA;have hS:(sizeOf 47).run Tryz.prog wx=.ok 5 wx:=qA;rw[run_slice_h (P:=Tryz.prog) wx 24 (some a) m cap hT .i64 h qB qB,hE,hS]
 have ha:a.add 0=a:=by
  obtain⟨b,o,s⟩:=a;unfold Addr.add
  split<;>simp_all
 simp[sliced,ha]
theorem mE (lg:ByteArray) (H8:lg∈aT) (steps:List StT) (hM:jH steps) (v:Value) (w:World) (hv:StL w v steps):
  Calls Tryz.prog 28 #[.string lg,v] w fun e w'=>e=.returned (.int .i64 (dK (lgN lg) steps steps 0))∧aa w w':=by
 have HV:=hid (fun wz (kz:aa w wz)=>hv.keeps kz);obtain⟨p,cap,rfl,K0,KY,La⟩:=hv.shape;unfold maxLen at KY;have KT:=hid hM;have KS:=hid H8;have KV:=hid (fun k (h:k<steps.length)=>nV (lgN lg) steps k h);have KR:=hid (fun k (h:steps.length≤k)=>xq (lgN lg) steps k h)
 have x8:dK (lgN lg) steps steps 0=dK (lgN lg) steps (steps.drop 0) 0:=by rw[List.drop_zero]
 generalize dK (lgN lg) steps steps 0=R at*;have KP:=hid x8;clear hv hM x8 H8;go_enter Tryz.func28,Tryz.ntmps28;go_wp2
 go_loopw [9] (fun i' wr=>∃ k:Nat,k≤steps.length∧i'=.int .i64 k∧R=dK (lgN lg) steps (steps.drop k) k∧aa w wr) (fun i' _=>steps.length-(intOf i').toNat)
 case atStart=>exact⟨0,qB,rfl,KP.out,aa.refl _⟩
 case round=>
  obtain⟨k,hk,rfl,hR,kw⟩:=hrel;have HR:=hid hR;clear hR
  by_cases h9:k<steps.length
  ·have x6:(k:Int)<steps.length:=qB
   obtain⟨b,off,p1,n1,c1,p2,n2,c2,p3,n3,c3,rfl,⟨z0,z1,z2,z3,z4⟩,H9,hl,hr⟩:=(HV.out wr kw).get k h9;have hs:=KV.out k h9;rw[hs] at HR;obtain⟨m1,m2,m3⟩:=KT.out steps[k] (zo h9);have x9:=BZ (L:=lgN lg) (steps:=steps) (k:=k) (x:=steps[k]) hk
   have H7:(steps.take k).length=k:=by simp;omega
   have kA:=(aa.refl wr).alloc (.cells #[.int .i64 steps[k].rule,.slice p1 n1 c1,.slice p2 n2 c2,.slice p3 n3 c3,.string steps[k].main] 47);have hX:=StB.made wr steps[k] _ _ _ H9 hl hr;have x7:=hid (fun wz (kz:aa (wr.alloc (.cells #[.int .i64 steps[k].rule,.slice p1 n1 c1,.slice p2 n2 c2,.slice p3 n3 c3,.string steps[k].main] 47)) wz)=>tO lg KS.out (steps.take k) steps[k] ⟨m1,m2,m3⟩ _ _ _ _ wz (((HV.out wr kw).take k hk).keeps (kA.trans kz)) (hX.keeps kz).pr (hX.keeps kz).sl (hX.keeps kz).sr);rw[H7,x9] at x7;have KU:=hid (fun wx=>yN ⟨b,off,none⟩ steps.length cap k qB wx);have HX:=hid hX;have KA:=kw.trans kA;clear hs x9 H7 H9 hl hr hX m1 m2 m3;generalize iF (lgN lg) steps k steps[k]=c at*;generalize steps[k]=x at*
   go_upto_region 4 with fail
   generalize wr.alloc (.cells #[.int .i64 x.rule,.slice p1 n1 c1,.slice p2 n2 c2,.slice p3 n3 c3,.string x.main] 47)=wA at*;have kd:=(aa.refl wA).drew;obtain⟨y0,y1,y2,y3,y4⟩:=(HX.out.keeps kd).cells;have KZ:=KU.out;clear z0 z1 z2 z3 z4
   go_region_held3 (fun w'=>w'.cell? ⟨wr.heap.size,0,none⟩=some (.int .i64 x.rule)∧w'.cell? ⟨wr.heap.size,1,none⟩=some (.slice p1 n1 c1)∧w'.cell? ⟨wr.heap.size,2,none⟩=some (.slice p2 n2 c2)∧w'.cell? ⟨wr.heap.size,3,none⟩=some (.slice p3 n3 c3)∧w'.cell? ⟨wr.heap.size,4,none⟩=some (.string x.main)) (first | exact⟨y0,y1,y2,y3,y4⟩ | exact⟨y0',y1',y2',y3',y4'⟩) (first | (go_at_call 64;refine(x7.out _ kd).mono ?_;rintro e w6 ⟨rfl,k6⟩;have y0':=k6.cell y0;have y1':=k6.cell y1;have y2':=k6.cell y2;have y3':=k6.cell y3;have y4':=k6.cell y4))
   have K6:=(KA.trans kd).trans k6
   cases c
   ·have eE:Hid (R=(k:Int)):=hid HR.out
    clear HR;go_wp2_with fail;go_ret;exact⟨aK eE.out.symm,K6⟩
   ·have eE:Hid (R=dK (lgN lg) steps (steps.drop (k+1)) (k+1)):=hid HR.out
    clear HR;go_wp2_with fail;go_roundw
    case rel=>exact⟨k+1,qB,by go_num,eE.out,K6⟩
    case measure=>simp[intOf];omega
  ·obtain rfl:k=steps.length:=qB
   have x6:¬((steps.length:Int)<steps.length):=qB;have eE:Hid (R = -1):=hid (by rw[HR.out,KR.out _ (zm _)]);clear HR;go_wp2_with fail;go_ret;exact⟨aK eE.out.symm,kw⟩
theorem td (n:Nat) (p:Option Addr) (c:Nat) (w:World):
  Calls Tryz.prog 63 #[.slice p n c] w fun e w'=>e=.returned (.bool (decide (n=0∨60<n)))∧aa w w':=by
 have HD:Hid (decide (n=0∨60<n)=(decide (n=0)||decide (60<n))):=hid (by rw[Bool.eq_iff_iff];simp);generalize decide (n=0∨60<n)=r at*
 by_cases h0:n=0
 ·have HR:Hid (r=true):=hid (by rw[HD.out,decide_eq_true h0,Bool.true_or])
  subst h0;clear HD;go_enter Tryz.func63,Tryz.ntmps63;go_wp2_with fail;go_ret;exact⟨ab HR.out.symm,aa.refl _⟩
 ·have h0':((n:Int)==0)=false:=by simp;omega
  by_cases h6:60<n
  ·have HR:Hid (r=true):=hid (by rw[HD.out,decide_eq_true h6,Bool.or_true])
   have h6':(n:Int)>60:=qB;clear HD h0;go_enter Tryz.func63,Tryz.ntmps63;go_wp2_with fail;go_ret;exact⟨ab HR.out.symm,aa.refl _⟩
  ·have HR:Hid (r=false):=hid (by rw[HD.out,decide_eq_false h0,decide_eq_false h6];rfl)
   have h6':¬(n:Int)>60:=qB;clear HD h0;go_enter Tryz.func63,Tryz.ntmps63;go_wp2_with fail;go_ret;exact⟨ab HR.out.symm,aa.refl _⟩
theorem tL:aG 63:=fun _ _=>by kernel_rfl
theorem xS (b:Bool) (f:FuncId) (cp:Array Value) (q:Option Addr) (n c:Nat) (g:Nat) (w:World) (c0:w.cell? ⟨g,0,none⟩=some (.slice q n c)) (h9:aG f)
  (hf:∀ w1,aa w w1→Calls Tryz.prog f (#[.slice q n c]++cp) w1 fun e w2=>e=.returned (.bool b)∧aa w1 w2):
  Calls Tryz.prog 103 #[.slice (some ⟨g,0,none⟩) 1 1,.func (.func f) #[] cp] w fun e w'=>e=.returned (.int .i64 (if b then 0 else -1))∧aa w w':=by
 have HF:=hid hf;clear hf
 have x6:∀ args w,(callFunc f args).run Tryz.prog w=.ok (.enter f args) w:=h9
 clear h9
 cases b
 ·go_enter Tryz.func103,Tryz.ntmps103
  go_wp2
  go_loopw [4,8] (fun r i' wr=>∃ k:Nat,k≤1∧aa w wr∧i'=.int .i64 k∧r=.int .i64 0) (fun _ i _=>1-(intOf i).toNat)
  case atStart=>exact⟨0,qB,aa.refl w,rfl,rfl⟩
  case round=>
   obtain⟨k,hk,kw,rfl,rfl⟩:=hrel
   by_cases x7:k=0
   ·subst x7
    have e0:=kw.cell c0;have eE:=hid (HF.out wr kw)
    go_wp2_with ((with_reducible refine eE.out.mono ?_);rintro e w2 ⟨rfl,k2⟩)
    go_roundw
    case rel=>exact⟨1,qB,kw.trans k2,by go_num,rfl⟩
    case measure=>simp[intOf]
   ·obtain rfl:k=1:=qB
    go_wp2;go_ret;exact⟨rfl,kw⟩
 ·go_enter Tryz.func103,Tryz.ntmps103
  go_wp2
  go_loopw [4,8] (fun r i' wr=>aa w wr∧i'=.int .i64 0∧r=.int .i64 0) (fun _ i _=>1-(intOf i).toNat)
  case atStart=>exact⟨aa.refl w,rfl,rfl⟩
  case round=>
   obtain⟨kw,rfl,rfl⟩:=hrel;have e0:=kw.cell c0;have eE:=hid (HF.out wr kw)
   go_wp2_with ((with_reducible refine eE.out.mono ?_);rintro e w2 ⟨rfl,k2⟩)
   go_ret;exact⟨rfl,kw.trans k2⟩
theorem j7 (b:Bool) (f:FuncId) (cp:Array Value) (q:Option Addr) (n c:Nat) (g:Nat) (w:World) (c0:w.cell? ⟨g,0,none⟩=some (.slice q n c)) (eE:aG f)
  (hf:∀ w1,aa w w1→Calls Tryz.prog f (#[.slice q n c]++cp) w1 fun e w2=>e=.returned (.bool b)∧aa w1 w2):
  Calls Tryz.prog 58 #[.slice (some ⟨g,0,none⟩) 1 1,.func (.func f) #[] cp] w fun e w'=>e=.returned (.bool b)∧aa w w':=by
 have H:=hid (xS b f cp q n c g w c0 eE hf);clear hf eE c0
 cases b
 ·go_enter Tryz.func58,Tryz.ntmps58
  go_wp2_with fail;refine H.out.mono ?_;rintro e w2 ⟨rfl,k2⟩;go_wp2_with fail;go_ret;exact⟨rfl,k2⟩
 ·go_enter Tryz.func58,Tryz.ntmps58
  go_wp2_with fail;refine H.out.mono ?_;rintro e w2 ⟨rfl,k2⟩;go_wp2_with fail;go_ret;exact⟨rfl,k2⟩
open scoped Classical in
theorem lY (lg:ByteArray) (n:Nat) (q:Option Addr) (c g:Nat) (w:World) (c0:w.cell? ⟨g,0,none⟩=some (.slice q n c)):
  Calls Tryz.prog 27 #[.string lg,.slice (some ⟨g,0,none⟩) 1 1] w fun e w'=>e=.returned (.int .i64 (if decide (lg∈aT)=true then (if n=0∨60<n then 3 else 0) else 2))∧aa w w':=by
 have HL:=hid (tN lg w)
 obtain⟨R,hR⟩:∃ R:Int,(if decide (lg∈aT)=true then (if n=0∨60<n then 3 else 0) else 2)=R:=⟨_,rfl⟩
 rw[hR];have HR:=hid hR;clear hR;have x6:=hid (fun wz (kz:aa w wz)=>j7 (decide (n=0∨60<n)) 63 #[] q n c g wz (kz.cell c0) tL (fun w1 _=>td n q c w1));generalize decide (lg∈aT)=bn at*;go_enter Tryz.func27,Tryz.ntmps27;go_wp2_with fail;refine HL.out.mono ?_;rintro e w2 ⟨rfl,k2⟩
 cases bn
 ·have eE:Hid (2=R):=hid HR.out
  clear HR x6;go_wp2_with fail;go_ret;exact⟨aK eE.out,k2⟩
 ·have eE:Hid ((if n=0∨60<n then 3 else 0)=R):=hid HR.out
  have h9:=hid (x6.out w2 k2);clear HR x6
  by_cases h:n=0∨60<n
  ·rw[decide_eq_true h] at h9
   rw[if_pos h] at eE;clear h;go_wp2_with fail;refine h9.out.mono ?_;rintro e w3 ⟨rfl,k3⟩;go_wp2_with fail;go_ret;exact⟨aK eE.out,k2.trans k3⟩
  ·rw[decide_eq_false h] at h9
   rw[if_neg h] at eE;clear h;go_wp2_with fail;refine h9.out.mono ?_;rintro e w3 ⟨rfl,k3⟩;go_wp2_with fail;go_ret;exact⟨aK eE.out,k2.trans k3⟩
theorem sP (lg:ByteArray) (eE:lg∈aT) (steps:List StT) (hM:jH steps) (v:Value) (b:Nat) (w:World) (hc:w.cell? ⟨b,0,none⟩=some (.string lg)) (hv:StL w v steps):
  Calls Tryz.prog 59 #[v,.pointer (some ⟨b,0,none⟩)] w fun e w'=>e=.returned (.bool (decide (0≤dK (lgN lg) steps steps 0)))∧aa w w':=by
 have HB:=hid (mE lg eE steps hM v w hv);obtain⟨p,cap,rfl,_⟩:=hv.shape;clear hv hM;generalize dK (lgN lg) steps steps 0=x at*;go_enter Tryz.func59,Tryz.ntmps59;go_wp2_with fail;refine HB.out.mono ?_;rintro e w2 ⟨rfl,k2⟩;go_wp2_with fail;go_ret;exact⟨ab qD,k2⟩
theorem tJ:aG 59:=fun _ _=>by kernel_rfl
open scoped Classical in
theorem uf (lg:ByteArray) (steps:List StT) (hM:jH steps) (q:Option Addr) (n c g:Nat) (w:World) (c0:w.cell? ⟨g,0,none⟩=some (.slice q n c)) (hv:StL w (.slice q n c) steps):
  Calls Tryz.prog 22 #[.string lg,.slice (some ⟨g,0,none⟩) 1 1] w fun e w'=>e=.returned (.int .i64 (stE lg steps))∧aa w w':=by
 have kA:=(aa.refl w).alloc (.cells #[.string lg] 9);have hb:=xt w (.string lg) 9;have HS:=hid (lY lg n q c g _ (kA.cell c0));obtain⟨_,_,en,_⟩:=hv.shape
 cases en
 have HE:Hid (stE lg steps=if decide (lg∈aT)=true then (if steps.length=0∨60<steps.length then 3 else if 0≤dK (lgN lg) steps steps 0 then 5 else 0) else 2):=hid rfl;have x8:=hid (fun (eE:lg∈aT) wz (kz:aa (w.alloc (.cells #[.string lg] 9)) wz)=>j7 (decide (0≤dK (lgN lg) steps steps 0)) 59 #[.pointer (some ⟨w.heap.size,0,none⟩)] q steps.length c g wz (kz.cell (kA.cell c0)) tJ (fun w1 k1=>sP lg eE steps hM _ w.heap.size w1 (k1.cell (kz.cell hb)) (((hv.keeps kA).keeps kz).keeps k1)));generalize stE lg steps=R at*;generalize dK (lgN lg) steps steps 0=bd at*;clear hM
 by_cases eE:lg∈aT
 ·rw[decide_eq_true eE,if_pos rfl] at HE HS
  have x7:=hid (x8.out eE);clear x8 eE
  by_cases h:steps.length=0∨60<steps.length
  ·rw[if_pos h] at HE HS
   clear h x7;go_enter Tryz.func22,Tryz.ntmps22;go_wp2_with fail;refine HS.out.mono ?_;rintro e w2 ⟨rfl,k2⟩;go_wp2_with fail;go_ret;exact⟨aK HE.out.symm,kA.trans k2⟩
  ·rw[if_neg h] at HE HS
   clear h;go_enter Tryz.func22,Tryz.ntmps22;go_wp2_with fail;refine HS.out.mono ?_;rintro e w2 ⟨rfl,k2⟩;have x6:=hid (x7.out w2 k2);clear x7
   by_cases h9:0≤bd
   ·rw[decide_eq_true h9] at x6
    rw[if_pos h9] at HE;clear h9;go_wp2_with fail;refine x6.out.mono ?_;rintro e w3 ⟨rfl,k3⟩;go_wp2_with fail;go_ret;exact⟨aK HE.out.symm,(kA.trans k2).trans k3⟩
   ·rw[decide_eq_false h9] at x6
    rw[if_neg h9] at HE;clear h9;go_wp2_with fail;refine x6.out.mono ?_;rintro e w3 ⟨rfl,k3⟩;go_wp2_with fail;go_ret;exact⟨aK HE.out.symm,(kA.trans k2).trans k3⟩
 ·have x9:Hid (R=2):=hid (by rw[HE.out,decide_eq_false eE];rfl)
  rw[decide_eq_false eE,if_neg qD] at HS;clear eE HE x8;go_enter Tryz.func22,Tryz.ntmps22;go_wp2_with fail;refine HS.out.mono ?_;rintro e w2 ⟨rfl,k2⟩;go_wp2_with fail;go_ret;exact⟨aK x9.out.symm,kA.trans k2⟩
noncomputable def fbE (lg:ByteArray) (n:Nat):Int:=if @decide (lg∈aT) (Classical.propDecidable _)=true then (if n=0∨60<n then 3 else 0) else 2
noncomputable def fbR (lg:ByteArray) (steps:List StT):Int×Int:=if fbE lg steps.length=0 then (dK (lgN lg) steps steps 0,0) else (0,fbE lg steps.length)
theorem Dx {lg:ByteArray} {n:Nat} (h:fbE lg n=0):lg∈aT∧0<n∧n≤60:=by
 unfold fbE at h
 split at h
 ·rename_i h1
  split at h
  ·cases h
  ·rename_i h2
   exact⟨@of_decide_eq_true _ (Classical.propDecidable _) h1,qB,qB⟩
 ·cases h
open scoped Classical in
theorem vX (lg:ByteArray) (n:Nat) (p:Option Addr) (cap:Nat) (hn:n≤cap) (_h9:cap≤maxLen) (w:World):
  Calls Tryz.prog 25 #[.string lg,.slice p n cap,.bool false] w fun e w'=>e=.returned (.int .i64 (fbE lg n))∧aa w w':=by
 have HL:=hid (gI lg w);have HE:Hid (fbE lg n=if decide (lg∈aT)=true then (if n=0∨60<n then 3 else 0) else 2):=hid rfl;generalize fbE lg n=R at*;generalize decide (lg∈aT)=bn at*;go_enter Tryz.func25,Tryz.ntmps25;go_wp2_with fail;refine HL.out.mono ?_;rintro e w2 ⟨rfl,k2⟩
 cases bn
 ·have HR:Hid (R=2):=hid HE.out
  clear HE;go_wp2_with fail;go_ret;exact⟨aK HR.out.symm,k2⟩
 ·have eE:Hid (R=if n=0∨60<n then 3 else 0):=hid HE.out
  clear HE
  by_cases h0:n=0
  ·have HR:Hid (R=3):=hid (by rw[eE.out,if_pos (.inl h0)])
   subst h0;clear eE;go_wp2_with fail;go_ret;exact⟨aK HR.out.symm,k2⟩
  ·have h0':((n:Int)==0)=false:=by simp;omega
   by_cases h6:60<n
   ·have HR:Hid (R=3):=hid (by rw[eE.out,if_pos (.inr h6)])
    have h6':(n:Int)>60:=qB;clear eE h0;go_wp2_with fail;go_ret;exact⟨aK HR.out.symm,k2⟩
   ·have h6':¬(n:Int)>60:=qB
    have HR:Hid (R=0):=hid (by rw[eE.out,if_neg qB]);clear eE h0;go_wp2_with fail;go_ret;exact⟨aK HR.out.symm,k2⟩
theorem oQ (lg:ByteArray) (steps:List StT) (hM:jH steps) (v:Value) (w:World) (hv:StL w v steps):
  Calls Tryz.prog 9 #[.string lg,v] w fun e w'=>e=.returned (.tuple #[.int .i64 (fbR lg steps).1,.int .i64 (fbR lg steps).2])∧aa w w':=by
 have HV:=hid (fun wz (kz:aa w wz)=>hv.keeps kz);obtain⟨p,cap,rfl,h9,x6,_⟩:=hv.shape;have HC:=hid (vX lg steps.length p cap h9 x6 w);have HE:Hid (fbR lg steps=if fbE lg steps.length=0 then (dK (lgN lg) steps steps 0,0) else (0,fbE lg steps.length)):=hid rfl;have HB:=hid (fun (h:fbE lg steps.length=0) wz (kz:aa w wz)=>sC lg steps (by have:=(Dx h).2.2;omega) hM _ wz (HV.out wz kz));generalize fbR lg steps=R at*;generalize dK (lgN lg) steps steps 0=bd at*;generalize fbE lg steps.length=code at*;clear hv hM HV
 by_cases hc:code=0
 ·subst hc
  have HR:Hid (R=(bd,0)):=hid (by rw[HE.out,if_pos rfl]);have eE:=hid (HB.out rfl);clear HE HB;go_enter Tryz.func9,Tryz.ntmps9;go_wp2_with fail;refine HC.out.mono ?_;rintro e w2 ⟨rfl,k2⟩;go_wp2_with fail;refine(eE.out _ k2).mono ?_;rintro e w3 ⟨rfl,k3⟩;go_wp2_with fail
  go_ret2
  exact⟨by rw[HR.out];rfl,k2.trans k3⟩
 ·have HR:Hid (R=(0,code)):=hid (by rw[HE.out,if_neg hc])
  have hc':(code==0)=false:=by simp[hc]
  clear HE HB;go_enter Tryz.func9,Tryz.ntmps9;go_wp2_with fail;refine HC.out.mono ?_;rintro e w2 ⟨rfl,k2⟩;go_wp2_with fail
  go_ret2
  exact⟨by rw[HR.out];rfl,k2⟩
theorem og (lg:ByteArray) (steps:List StT) (hM:jH steps) (v:Value) (w:World) (hv:StL w v steps):
  Calls Tryz.prog 8 #[.string lg,v] w fun e w'=>e=.returned (.tuple #[.int .i64 (fbR lg steps).1,.int .i64 (fbR lg steps).2])∧aa w w':=by
 have HV:=hid (fun wz (kz:aa w wz)=>hv.keeps kz);obtain⟨p,cap,rfl,x8,x7,_⟩:=hv.shape;unfold maxLen at x7;have kA:=(aa.refl w).alloc (.cells #[.slice p steps.length cap] 24);have eE:=lY lg steps.length p cap w.heap.size _ (xt w (.slice p steps.length cap) 24)
 have h9:Calls Tryz.prog 27 #[.string lg,.slice (some ⟨w.heap.size,0,none⟩) 1 1] (w.alloc (.cells #[.slice p steps.length cap] 24)) fun e w'=>e=.returned (.int .i64 (fbE lg steps.length))∧aa (w.alloc (.cells #[.slice p steps.length cap] 24)) w':=by
  refine eE.mono ?_;rintro e w' ⟨he,hk⟩;exact⟨by rw[he];unfold fbE;congr,hk⟩
 have HC:=hid h9;clear eE h9;have HE:Hid (fbR lg steps=if fbE lg steps.length=0 then (dK (lgN lg) steps steps 0,0) else (0,fbE lg steps.length)):=hid rfl;have HB:=hid (fun (h:fbE lg steps.length=0) wz (kz:aa w wz)=>mE lg (Dx h).1 steps hM _ wz (HV.out wz kz));generalize fbR lg steps=R at*;generalize dK (lgN lg) steps steps 0=bd at*;generalize fbE lg steps.length=code at*;clear hv hM HV
 by_cases hc:code=0
 ·subst hc
  have HR:Hid (R=(bd,0)):=hid (by rw[HE.out,if_pos rfl]);have x6:=hid (HB.out rfl);clear HE HB;go_enter Tryz.func8,Tryz.ntmps8;go_wp2_with fail;refine HC.out.mono ?_;rintro e w2 ⟨rfl,k2⟩;go_wp2_with fail;refine(x6.out _ (kA.trans k2)).mono ?_;rintro e w3 ⟨rfl,k3⟩;go_wp2_with fail
  go_ret2
  exact⟨by rw[HR.out];rfl,(kA.trans k2).trans k3⟩
 ·have HR:Hid (R=(0,code)):=hid (by rw[HE.out,if_neg hc])
  have hc':(code==0)=false:=by simp[hc]
  clear HE HB;go_enter Tryz.func8,Tryz.ntmps8;go_wp2_with fail;refine HC.out.mono ?_;rintro e w2 ⟨rfl,k2⟩;go_wp2_with fail
  go_ret2
  exact⟨by rw[HR.out];rfl,kA.trans k2⟩
theorem uS {L:Nat} {steps:List StT}:∀ (l:List StT) (k:Nat),0≤dK L steps l k∨dK L steps l k = -1
 | [],_=>.inr rfl
 | x::l,k=>by
  unfold dK
  split
  ·exact uS l (k+1)
  ·exact .inl qB
theorem IA {lg:ByteArray} {steps:List StT} (h:stE lg steps≠0):(fbR lg steps).2≠0∨0≤(fbR lg steps).1:=by
 unfold stE at h;unfold fbR fbE
 by_cases h1:@decide (lg∈aT) (Classical.propDecidable _)=true
 ·rw[if_pos h1] at h
  rw[if_pos h1]
  by_cases h2:steps.length=0∨60<steps.length
  ·rw[if_pos h2,if_neg qC]
   exact .inl (by show(3:Int)≠0;decide)
  ·rw[if_neg h2] at h
   rw[if_neg h2,if_pos rfl];refine .inr ?_
   show 0≤dK (lgN lg) steps steps 0
   rcases uS (L:=lgN lg) (steps:=steps) steps 0 with h3 | h3
   ·exact h3
   ·rw[h3,if_neg qC] at h
    exact absurd rfl h
 ·rw[if_neg h1,if_neg qC]
  exact .inl (by show(2:Int)≠0;decide)
theorem Ht {lg:ByteArray} {steps:List StT} (h:stE lg steps=0):dK (lgN lg) steps steps 0 = -1∧fbR lg steps=(-1,0):=by
 have h0:=h;unfold stE at h;unfold fbR fbE
 by_cases h1:@decide (lg∈aT) (Classical.propDecidable _)=true
 ·rw[if_pos h1] at h
  rw[if_pos h1]
  by_cases h2:steps.length=0∨60<steps.length
  ·rw[if_pos h2] at h
   exact absurd h qC
  ·rw[if_neg h2] at h
   rw[if_neg h2,if_pos rfl]
   rcases uS (L:=lgN lg) (steps:=steps) steps 0 with h3 | h3
   ·rw[if_pos h3] at h
    exact absurd h qC
   ·exact⟨h3,by rw[h3]⟩
 ·rw[if_neg h1] at h
  exact absurd h qC
theorem lg7 {lg:ByteArray} (h:lg∈aT):∃ L,L<7∧lg=lgS L:=by
 unfold aT at h;simp only[List.mem_cons,List.not_mem_nil,or_false] at h
 rcases h with rfl | rfl | rfl | rfl | rfl | rfl | rfl
 ·exact⟨0,qB,rfl⟩
 ·exact⟨1,qB,rfl⟩
 ·exact⟨2,qB,rfl⟩
 ·exact⟨3,qB,rfl⟩
 ·exact⟨4,qB,rfl⟩
 ·exact⟨5,qB,rfl⟩
 ·exact⟨6,qB,rfl⟩
theorem E2 {lg:ByteArray} {steps:List StT} (h:stE lg steps=0) (i:Nat) (hi:i<steps.length):isQ steps[i].l steps[i].r=true∧(srC lg steps[i].l steps[i].r=3∨(srC lg steps[i].l steps[i].r=0∧mtR lg steps[i].l steps[i].r=true))∧dB (lgN lg) (fmL steps[i].l) (fmL steps[i].r):=by
 obtain⟨h1,-⟩:=Ht h;obtain⟨eE,-,-,-⟩:=sY h;obtain⟨hq,hm⟩:=yJ h1 i hi;refine⟨hq,?_,(sH hq lg).1 hm⟩
 have h9:srC lg steps[i].l steps[i].r=0∨srC lg steps[i].l steps[i].r=3:=by
  unfold srC;rw[if_pos (oH eE),if_pos hq]
  by_cases h:(elT (fmL (steps[i].l++steps[i].r))).length≤8
  ·exact .inl (if_pos h)
  ·exact .inr (if_neg h)
 rcases h9 with h | h
 ·refine .inr ⟨h,?_⟩
  unfold mtR;rw[if_pos h,hm]
 ·exact .inl h
theorem A5:∀ (l:List Fm) (a:Fm),a.wf→(∀ x∈l,x.wf)→(l.foldl Fm.and a).wf
 | [],_,ha,_=>ha
 | x::l,a,ha,h=>A5 l (.and a x) ⟨ha,h x qD⟩ (fun y hy=>h y (zw _ hy))
theorem A6:∀ (l:List Fm) (a:Fm),a.wf→(∀ x∈l,x.wf)→(l.foldl Fm.or a).wf
 | [],_,ha,_=>ha
 | x::l,a,ha,h=>A6 l (.or a x) ⟨ha,h x qD⟩ (fun y hy=>h y (zw _ hy))
theorem I0 {A B:List Fm} (ha:∀ x∈A,x.wf) (hb:∀ x∈B,x.wf):(sqF A B).wf:=by
 have h1:(zH A).wf:=by
  cases A with
  | nil=>simp[zH,Fm.wf]
  | cons a l=>exact A5 l a (ha a qD) (fun y hy=>ha y (zw _ hy))
 have h2:(zL B).wf:=by
  cases B with
  | nil=>simp[zL,Fm.wf]
  | cons a l=>exact A6 l a (hb a qD) (fun y hy=>hb y (zw _ hy))
 exact⟨h1,h2⟩
theorem I1 {L:Nat} (hL:L<8) {ss tt:List ByteArray} (hq:isQ ss tt=true) (hv:dB L (fmL ss) (fmL tt)) (h0:(sqR ss tt).2=0):
  (sqR ss tt).1=(sqF (fmL ss) (fmL tt)).enc∧(sqF (fmL ss) (fmL tt)).enc.length≤40∧(sqF (fmL ss) (fmL tt)).wf∧∀ b,b.length=2→Bnd 2 b→ofR L b=true→∀ vs,Bnd 2 vs→trB b vs (sqF (fmL ss) (fmL tt))=3:=by
 obtain⟨_,_,hs,ht⟩:=dx hq;unfold sqR at h0 ⊢;rw[if_pos hq] at h0 ⊢
 have eE:(sqF (fmL ss) (fmL tt)).enc.length≤40:=by
  unfold fR at h0
  by_cases h:(sqF (fmL ss) (fmL tt)).enc.length≤40
  ·exact h
  ·rw[if_neg h] at h0
   exact absurd h0 qC
 refine⟨by unfold fR;rw[if_pos eE],eE,I0 (fun x hx=>(cZ hs x hx).1) (fun x hx=>(cZ ht x hx).1),fun b hb h9 x6 vs x7=>?_⟩;have h:=GI hv (b:=b) (vs:=vs) (by rw[hb];exact h9) (by rw[hb];exact x7) (Gv hL x6);rw[hb] at h;exact h
end
end Go.Proofs.YtagoboblkadelaaGreat
