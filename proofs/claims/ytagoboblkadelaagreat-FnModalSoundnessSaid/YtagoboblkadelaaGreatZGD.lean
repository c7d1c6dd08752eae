import Derived.Test.YtagoboblkadelaaGreatZD40
/- own -/
namespace Go.Proofs.YtagoboblkadelaaGreat
set_option maxRecDepth 100000
set_option maxHeartbeats 8000000
section
open Go.RowKit
section
variable {md:Region.Mode} {ops:Array Oper} {Q:Exit→Act→World→Prop} {nt:Nat} {ins:List Nat} {kd:Nat→Kq} {w0:World} {o:Oper}
theorem wP (b:Nat) (w:World):(Instr.fieldAt 47 (.pointer (some ⟨b,0,none⟩)) 0).run Tryz.prog w=.ok (.pointer (some ⟨b,0,none⟩)) w:=qA
theorem dk (b:Nat) (w:World):(Instr.fieldAt 47 (.pointer (some ⟨b,0,none⟩)) 2).run Tryz.prog w=.ok (.pointer (some ⟨b,2,none⟩)) w:=qA
theorem gC (b:Nat) (w:World):(Instr.fieldAt 47 (.pointer (some ⟨b,0,none⟩)) 3).run Tryz.prog w=.ok (.pointer (some ⟨b,3,none⟩)) w:=qA
theorem fw (b:Nat) (w:World):(Instr.fieldAt 47 (.pointer (some ⟨b,0,none⟩)) 4).run Tryz.prog w=.ok (.pointer (some ⟨b,4,none⟩)) w:=qA
theorem vk:aG 99:=fun _ _=>by kernel_rfl
theorem Ad (s s':Nat) (x y:List ByteArray) (ho:o.op=.call { callee:=.value (.func 99),args:=#[.tmp s,.tmp s'],argTypes:=#[27,27] }) (hg:o.guard=none) (h:az md ops ins o s=true) (h':az md ops ins o s'=true) (hs:kd s=.strs x) (hs':kd s'=.strs y) (hl:x.length+y.length≤1000000) (hk:∀ d,o.dst=some d→kd d=.strs (bU x y)):StQ md ops Q nt ins kd w0 o:=
 dV 99 _ _ ho vk hg (fun a w1 _ hv=>by
  have g1:=hv s h;have g2:=hv s' h';rw[hs] at g1;rw[hs'] at g2;have g1:aj w1 (a.eval (.tmp s)) x:=g1;have g2:aj w1 (a.eval (.tmp s')) y:=g2;rw[Aj];refine(tX x y _ _ w1 g1.1 g2.1 hl).mono ?_;rintro e w2 ⟨b3,n3,c3,rfl,h3,k3⟩;have:=jd x y
  exact⟨_,rfl,k3,fun d hd=>by rw[hk d hd];exact h3.strsP qB⟩)
theorem EO (T:TypeId) (p:Option Addr) (n c:Nat) (w:World):(Builtin.len_ #[27] T #[.slice p n c]).run Tryz.prog w=.ok (.int .i64 (n:Int)) w:=qA
theorem Cj (s:Nat) (x:List ByteArray) (ho:o.op=.call { callee:=.builtin .len,args:=#[.tmp s],argTypes:=#[27] }) (hg:o.guard=none) (h:az md ops ins o s=true) (hs:kd s=.strs x) (hk:∀ d,o.dst=some d→kd d=.val (.int .i64 ((x.length:Nat):Int))):StQ md ops Q nt ins kd w0 o:=
 cB.plain hg fun a w K x6 hJ h9 eE hK=>by
  have hv:=dv h h9 eE;change (kd s).holds _ w at hv;rw[hs] at hv;have hv:aj w (a.eval (.tmp s)) x:=hv;obtain⟨p,c,e,_⟩:=hv.1.shape;unfold Oper.wp execOp;simp only[ho,resolve,invoke,builtin,Sem.run_bind,Sem.run_pure,Result.andThen_ok,List.map_toArray,List.map_cons,List.map_nil,e,EO];exact hK _ _ (aa.refl w) (fun d hd=>by show(kd d).holds _ w;rw[hk d hd];exact rfl)
theorem BF (m n:Nat) (w:World):(binOp .eql 3 (.int .i64 (m:Int)) (.int .i64 (n:Int))).run Tryz.prog w=.ok (.bool (decide (m=n))) w:=by
 have h:(binOp .eql 3 (.int .i64 (m:Int)) (.int .i64 (n:Int))).run Tryz.prog w=.ok (.bool ((m:Int)==(n:Int))) w:=qA;rw[h]
 congr 2
 rw[Bool.eq_iff_iff,beq_iff_eq,decide_eq_true_eq];omega
theorem IJ (s s' m n:Nat) (b:Bool) (hb:decide (m=n)=b) (ho:o.op=.binOp .eql 3 (.tmp s) (.tmp s') 3) (hg:o.guard=none) (h:az md ops ins o s=true) (h':az md ops ins o s'=true) (hs:kd s=.val (.int .i64 (m:Int))) (hs':kd s'=.val (.int .i64 (n:Int))) (hk:∀ d,o.dst=some d→kd d=.val (.bool b)):StQ md ops Q nt ins kd w0 o:=
 DZ s s' _ _ (.bool b) hg h h' hs hs' (fun a w e1 e2=>by
  unfold execOp;simp only[ho,e1,e2,Sem.run_bind,BF m n];rw[hb]
  rfl) hk
end
open scoped Classical in
theorem pO (X Y X' Y':List ByteArray) (a b c d:Value) (w:World) (ha:au w a X) (hb:au w b Y) (hc:au w c X') (hd:au w d Y'):
  Calls Tryz.prog 101 #[.agg #[a,b],.agg #[c,d]] w fun e w'=>e=.returned (.bool (decide (((X,Y):SqT)=(X',Y'))))∧aa w w':=by
 have kA:=(aa.refl w).alloc (.cells #[a,b] 29);obtain⟨c0,c1⟩:=BoxQ.made w a b 29;have kB:=(aa.refl (w.alloc (.cells #[a,b] 29))).alloc (.cells #[c,d] 29);obtain⟨d0,d1⟩:=BoxQ.made (w.alloc (.cells #[a,b] 29)) c d 29
 have hz:(w.alloc (.cells #[a,b] 29)).heap.size=w.heap.size+1:=by simp
 rw[hz] at d0 d1;have K:=kA.trans kB;have H1:=hid (mK X X' a c _ (ha.keeps K) (hc.keeps K));have H2:=hid (fun wz (kz:aa w wz)=>mK Y Y' b d wz (hb.keeps kz) (hd.keeps kz))
 have HE:Hid (decide (((X,Y):SqT)=(X',Y'))=(decide (X=X')&&decide (Y=Y'))):=hid (by
  rw[Bool.eq_iff_iff,zk,decide_eq_true_eq,decide_eq_true_eq,decide_eq_true_eq]
  exact Prod.mk.injEq _ _ _ _▸Iff.rfl)
 generalize decide (((X,Y):SqT)=(X',Y'))=r at*;generalize decide (X=X')=b1 at*;generalize decide (Y=Y')=b2 at*
 replace c0:=kB.cell c0
 replace c1:=kB.cell c1
 obtain⟨p1,m1,q1,rfl⟩:=ha.sh;obtain⟨p2,m2,q2,rfl⟩:=hb.sh;obtain⟨p3,m3,q3,rfl⟩:=hc.sh;obtain⟨p4,m4,q4,rfl⟩:=hd.sh;have HC:=hid (And.intro c1 d1);clear ha hb hc hd hz kA kB c1 d1
 cases b1
 ·have HR:Hid (r=false):=hid HE.out
  go_enter Tryz.func101,Tryz.ntmps101;go_wp2_with fail;refine H1.out.mono ?_;rintro e w2 ⟨rfl,k2⟩;go_wp2_with fail;go_ret;exact⟨ab HR.out.symm,K.trans k2⟩
 ·have HR:Hid (r=b2):=hid (by rw[HE.out,Bool.true_and])
  go_enter Tryz.func101,Tryz.ntmps101;go_wp2_with fail;refine H1.out.mono ?_;rintro e w2 ⟨rfl,k2⟩;have e1:=k2.cell HC.out.1;have e2:=k2.cell HC.out.2;have H3:=hid (H2.out _ (K.trans k2));clear H1 H2;go_wp2_with fail;refine H3.out.mono ?_;rintro e w3 ⟨rfl,k3⟩;go_wp2_with fail;go_ret;exact⟨ab HR.out.symm,(K.trans k2).trans k3⟩
open scoped Classical in
theorem sD (lg:ByteArray) (steps:List StT) (k:Nat) (hk:k<steps.length) (_hk60:steps.length≤1000) (hM:jH steps) (KV:∀ j (h:j<steps.length),j<k→isQ steps[j].l steps[j].r=true) (v:Value) (w:World) (hv:StL w v steps):
  Calls Tryz.prog 65 #[.string lg,v,.int .i64 k] w fun e w'=>e=.returned (.bool (iF (lgN lg) steps k steps[k]))∧aa w w':=by
 have HV:=hid (fun wz (kz:aa w wz)=>hv.keeps kz);obtain⟨p,cap,rfl,L6,L1,_⟩:=hv.shape;unfold maxLen at L1;obtain⟨b,off,p1,n1,c1,p2,n2,c2,p3,n3,c3,rfl,⟨z0,z1,z2,z3,z4⟩,LL,hl,hr⟩:=hv.get k hk;have LR:=hid KV;obtain⟨m1,m2,m3⟩:=hM steps[k] (zo hk);have HE:Hid (iF (lgN lg) steps k steps[k]=(isQ steps[k].l steps[k].r&&(steps[k].pr.all (fun i=>inR i 0 ((k:Int)-1))&&ob (lgN lg) steps steps[k]))):=hid rfl;generalize iF (lgN lg) steps k steps[k]=R at*;have L5:(k:Int)<steps.length:=qB;generalize steps[k]=x at*;have kA:=(aa.refl w).alloc (.cells #[.int .i64 x.rule,.slice p1 n1 c1,.slice p2 n2 c2,.slice p3 n3 c3,.string x.main] 47);have LH:=StB.made w x _ _ _ LL hl hr;have HX:=hid LH;have HF:=hid (BA x.rule p1 p2 p3 n1 c1 n2 c2 n3 c3 x.main (w.alloc (.cells #[.int .i64 x.rule,.slice p1 n1 c1,.slice p2 n2 c2,.slice p3 n3 c3,.string x.main] 47)));have LS:=hid m1;have LU:=hid m2;clear hv KV hM LL hl hr LH m1 m2;go_enter Tryz.func65,Tryz.ntmps65;go_wp2_with fail;refine HF.out.mono ?_;rintro e w2 ⟨rfl,k2⟩;have kQ:=(aa.refl w2).alloc (.cells #[.slice p2 n2 c2,.slice p3 n3 c3] 29);have LM:=aR.made w2 29 [.slice p2 n2 c2,.slice p3 n3 c3] qD qD;have La:=hid ((HX.out.keeps k2).keeps kQ);have Ld:=hid LM;have K2:=(kA.trans k2).trans kQ;have Lw:=hid (uB x.l x.r _ _ _ La.out.sl.1 La.out.sr.1 LS.out LU.out);clear z0 z1 z2 z3 z4 kA k2 kQ LM HX HF
 go_upto_region 3 with fail
 generalize w2.alloc (.cells #[.slice p2 n2 c2,.slice p3 n3 c3] 29)=w3 at*;have x0:=Ld.out.cell 0 qD;have x1:=Ld.out.cell 1 qD;simp only[zj,zl] at x0 x1;go_wp2_with fail;refine Lw.out.mono ?_;rintro e w4 ⟨rfl,k4⟩;have x6:=hid (La.out.keeps k4);have Lf:=hid (Ld.out.keeps k4);have K4:=K2.trans k4;clear La Ld Lw k4 K2 x0 x1
 cases hq:isQ x.l x.r
 ·rw[hq] at HE
  have HR:Hid (R=false):=hid HE.out;clear HE hq;go_wp2_with fail;go_ret;exact⟨ab HR.out.symm,K4⟩
 ·obtain⟨l1,l2,s1,s2⟩:=dx hq
  rw[hq,Bool.true_and] at HE;have LD:=hid s1;have LF:=hid s2;clear hq s1 s2
  have KS:x.pr.length=n1:=by
   obtain⟨_,_,e,_⟩:=x6.out.pr
   cases e;rfl
  have Lo:x.pr.length≤2147483648:=by
   obtain⟨_,_,_,_,_,_,h⟩:=x6.out.pr;exact h
  have H8:=hid KS;rw[KS] at Lo;clear KS;obtain⟨y0,y1,y2,y3,y4⟩:=x6.out.cells;go_wp2_with fail
  go_loopw [9] (fun i' wr=>∃ i:Nat,i≤n1∧i'=.int .i64 i∧(∀ j (h:j<x.pr.length),j<i→inR x.pr[j] 0 ((k:Int)-1)=true)∧w4=wr) (fun i' _=>n1-(intOf i').toNat)
  case atStart=>exact⟨0,qB,rfl,fun j _ h=>by omega,rfl⟩
  case round=>
   obtain⟨i,hi,rfl,x7,rfl⟩:=hrel;have HA:=hid x7;clear x7
   by_cases L7:i<n1
   ·have Ll:(i:Int)<n1:=qB
    have LK:i<x.pr.length:=by have:=H8.out;omega
    obtain⟨bp,op,ep,zp⟩:=x6.out.pr.int i LK
    cases ep
    have HI:=hid (fun wz=>eW x.pr[i] 0 ((k:Int)-1) wz)
    have eE:Hid (inR x.pr[i] 0 ((k:Int)-1)=true→∀ j (h:j<x.pr.length),j<i+1→inR x.pr[j] 0 ((k:Int)-1)=true):=hid (fun h j hj L4=>by
     by_cases e:j=i
     ·subst e;exact h
     ·exact HA.out j hj qB)
    have KP:Hid (inR x.pr[i] 0 ((k:Int)-1)=false→R=false):=hid (fun h=>by
     rw[HE.out,show x.pr.all (fun i=>inR i 0 ((k:Int)-1))=false from List.all_eq_false.2 ⟨x.pr[i],zo LK,by rw[h];simp⟩,Bool.false_and])
    generalize inR x.pr[i] 0 ((k:Int)-1)=b1 at*;generalize x.pr[i]=pi at*
    cases b1
    ·have HR:=hid (KP.out rfl)
     clear KP eE HE;go_wp2_with fail;refine(HI.out _).mono ?_;rintro e w' ⟨rfl,rfl⟩;go_wp2_with fail;go_ret;exact⟨ab HR.out.symm,K4⟩
    ·have Le:=hid (eE.out rfl)
     clear KP eE;go_wp2_with fail;refine(HI.out _).mono ?_;rintro e w' ⟨rfl,rfl⟩;go_wp2_with fail;go_roundw
     case rel=>exact⟨i+1,qB,by go_num,Le.out,by trivial⟩
     case measure=>simp[intOf];omega
   ·obtain rfl:i=n1:=qB
    have Ll:¬((i:Int)<i):=qB
    have H9:Hid (∀ j (h:j<x.pr.length),0≤x.pr[j]∧x.pr[j]<k):=hid (fun j h=>by
     have:=HA.out j h (by have:=H8.out;omega);unfold inR at this;have:=of_decide_eq_true this
     omega)
    have Lb:Hid (R=ob (lgN lg) steps x):=hid (by
     rw[HE.out,show x.pr.all (fun i=>inR i 0 ((k:Int)-1))=true from List.all_eq_true.2 (fun q hq=>by
      obtain⟨j,hj,rfl⟩:=List.getElem_of_mem hq
      exact HA.out j hj (by have:=H8.out;omega)),Bool.true_and])
    clear HE HA
    by_cases h9:x.rule=13
    ·have x8:Hid (R=(decide (x.pr.length=1)&&decide (x.main=⟨#[]⟩)&&(ja (jU steps (x.pr.getD 0 0)).l x.l&&ja (jU steps (x.pr.getD 0 0)).r x.r))):=hid (by
      rw[Lb.out];unfold ob
      rw[if_pos h9])
     rw[h9] at y0;clear Lb h9
     by_cases h1:i=1
     ·subst h1
      have LP:x.pr.length=1:=H8.out
      have x9:Hid (R=(decide (x.main=⟨#[]⟩)&&(ja (jU steps (x.pr.getD 0 0)).l x.l&&ja (jU steps (x.pr.getD 0 0)).r x.r))):=hid (by
       rw[x8.out,decide_eq_true LP,Bool.true_and])
      have h0:0<x.pr.length:=qB;obtain⟨bp,op,ep,zp⟩:=x6.out.pr.int 0 h0
      cases ep
      rw[Nat.add_zero] at zp;have Ln:=H9.out 0 h0
      have LI:x.pr.getD 0 0=x.pr[0]:=by rw[zi,zn h0];rfl
      rw[LI] at x9;clear LP LI x8
      by_cases hm:x.main=⟨#[]⟩
      ·rw[decide_eq_true hm,Bool.true_and] at x9
       rw[hm] at y4;have L3:=hid hm;clear hm
       obtain⟨i0,KU⟩:∃ i0:Nat,x.pr[0]=(i0:Int):=⟨x.pr[0].toNat,qB⟩
       rw[KU] at Ln x9 zp;have LJ:i0<k:=qB;have KR:i0<steps.length:=qB;have Lt:=LR.out i0 KR LJ;rw[i6 qB (by simpa using KR),show steps[((i0:Nat):Int).toNat]'(by simpa using KR)=steps[i0] from rfl] at x9;obtain⟨b',o',q1,u1,e1,q2,u2,e2,q3,u3,e3,eo,⟨f0,f1,f2,f3,f4⟩,jpr,jl,jr⟩:=(HV.out _ K4).get i0 KR
       cases eo
       have LY:(i0:Int)<steps.length:=qB;generalize steps[i0]=y at*;have hP:=StB.made w4 y _ _ _ jpr jl jr;have kP:=(aa.refl w4).alloc (.cells #[.int .i64 y.rule,.slice q1 u1 e1,.slice q2 u2 e2,.slice q3 u3 e3,.string y.main] 47);obtain⟨g1,g2,-,-⟩:=dx Lt;rw[←yZ LD.out.2,←yZ LF.out.2] at x9;have Lc:=hid hP;have H7:=hid (x6.out.keeps kP);have K5:=K4.trans kP;clear x6 hP jpr jl jr Lt H9 KU
       go_upto_region 14 with fail
       generalize w4.alloc (.cells #[.int .i64 y.rule,.slice q1 u1 e1,.slice q2 u2 e2,.slice q3 u3 e3,.string y.main] 47)=w5 at*;have kd:=(aa.refl w5).drew;have K0:=(H7.out.keeps kd).cells.2.2.1;have Lr:=(H7.out.keeps kd).cells.2.2.2.1;have Ls:=(Lc.out.keeps kd).cells.2.2.1;have LQ:=(Lc.out.keeps kd).cells.2.2.2.1;have sxl:=H7.out.sl.keeps kd;have sxr:=H7.out.sr.keeps kd;have syl:=Lc.out.sl.keeps kd;have syr:=Lc.out.sr.keeps kd
       obtain⟨rp,LN⟩:∃ rp,rp=w4.heap.size:=⟨_,rfl⟩
       obtain⟨rx,LO⟩:∃ rx,rx=w.heap.size:=⟨_,rfl⟩
       rw[←LN] at Ls LQ ⊢;rw[←LO] at K0 Lr ⊢;clear LN LO;generalize Li:decide ((bU x.r y.r).length=x.r.length)=b2 at*;generalize KT:decide ((bU x.l y.l).length=x.l.length)=b1 at*;have HR:=hid x9.out;clear x9
       cases b1
       ·refine ao (L:=23) (nt:=121) (ins:=[7,10]) (ds:=[58,59,60,61,62,63,64,65,66,67,68,69,70,71,72,73,74,75,76,77,78,79,6]) qA qA (fun s v w'=>((fun s=>if s=6 then .val (.bool false) else if s=7 then .val (.pointer (some ⟨rx,0,none⟩)) else if s=10 then .val (.pointer (some ⟨rp,0,none⟩)) else if s=58 then .val (.pointer (some ⟨rx,2,none⟩)) else if s=59 then .strs (x.l) else if s=60 then .val (.pointer (some ⟨rp,2,none⟩)) else if s=61 then .strs (y.l) else if s=62 then .strs (bU x.l y.l) else if s=63 then .val (.int .i64 (((bU x.l y.l).length:Nat):Int)) else if s=64 then .val (.pointer (some ⟨rx,2,none⟩)) else if s=65 then .strs (x.l) else if s=66 then .val (.int .i64 (((x.l).length:Nat):Int)) else if s=67 then .val (.bool false) else if s=68 then .val (.bool false) else if s=79 then .val (.bool false) else .any:Nat→Kq) s).holds v w') (fun _ _ _ _ h hv=>Kq.keeps h hv) ?_ qA rfl ?_ ?_
        ·refine lK (aD 7 (.pointer (some ⟨rx,0,none⟩)) (.pointer (some ⟨rx,2,none⟩)) rfl qA rfl (fun a w1 h1=>by unfold execOp;simp only[h1,Sem.run_bind,dk rx];rfl) (dd rfl)) ?_
         refine lK (aJ 58 _ _ _ rfl rfl qA rfl K0 sxl (dd rfl)) ?_;refine lK (aD 10 (.pointer (some ⟨rp,0,none⟩)) (.pointer (some ⟨rp,2,none⟩)) rfl qA rfl (fun a w1 h1=>by unfold execOp;simp only[h1,Sem.run_bind,dk rp];rfl) (dd rfl)) ?_;refine lK (aJ 60 _ _ _ rfl rfl qA rfl Ls syl (dd rfl)) ?_;refine lK (Ad 59 61 (x.l) (y.l) rfl rfl qA qA rfl rfl qB (dd rfl)) ?_;refine lK (Cj 62 (bU x.l y.l) rfl rfl qA rfl (dd rfl)) ?_;refine lK (aD 7 (.pointer (some ⟨rx,0,none⟩)) (.pointer (some ⟨rx,2,none⟩)) rfl qA rfl (fun a w1 h1=>by unfold execOp;simp only[h1,Sem.run_bind,dk rx];rfl) (dd rfl)) ?_;refine lK (aJ 64 _ _ _ rfl rfl qA rfl K0 sxl (dd rfl)) ?_;refine lK (Cj 65 (x.l) rfl rfl qA rfl (dd rfl)) ?_;refine lK (IJ 63 66 ((bU x.l y.l).length) ((x.l).length) false KT rfl rfl qA qA rfl rfl (dd rfl)) ?_;refine lK (ai 67 (.inl rfl) rfl qA (dd rfl)) ?_;refine lK (cJ 10 68 false rfl rfl qC qA rfl (dd rfl)) ?_;refine lK (cJ 10 68 false rfl rfl qC qA rfl (dd rfl)) ?_;refine lK (cJ 10 68 false rfl rfl qC qA rfl (dd rfl)) ?_;refine lK (cJ 10 68 false rfl rfl qC qA rfl (dd rfl)) ?_;refine lK (cJ 10 68 false rfl rfl qC qA rfl (dd rfl)) ?_;refine lK (cJ 10 68 false rfl rfl qC qA rfl (dd rfl)) ?_;refine lK (cJ 10 68 false rfl rfl qC qA rfl (dd rfl)) ?_;refine lK (cJ 10 68 false rfl rfl qC qA rfl (dd rfl)) ?_;refine lK (cJ 10 68 false rfl rfl qC qA rfl (dd rfl)) ?_;refine lK (cJ 10 68 false rfl rfl qC qA rfl (dd rfl)) ?_;refine lK (im 68 _ (.bool false) rfl rfl qA rfl (dd rfl)) ?_;refine lK (ai 79 (.inr rfl) rfl qA (dd rfl)) True.intro
        ·intro s hs
         have:s=7∨s=10:=by simpa using hs
         rcases this with rfl | rfl
         ·exact rfl
         ·exact rfl
        ·intro f w' hk hv
         have g6:f 6=.bool false:=hv 6 qC;clear hv Li;simp only[aN,Act.put,za,zb,zc,g6];clear g6;go_wp2_with fail;go_ret;exact⟨ab (by rw[HR.out];rfl),(K5.trans kd).trans hk⟩
       ·refine ao (L:=23) (nt:=121) (ins:=[7,10]) (ds:=[58,59,60,61,62,63,64,65,66,67,68,69,70,71,72,73,74,75,76,77,78,79,6]) qA qA (fun s v w'=>((fun s=>if s=6 then .val (.bool b2) else if s=7 then .val (.pointer (some ⟨rx,0,none⟩)) else if s=10 then .val (.pointer (some ⟨rp,0,none⟩)) else if s=58 then .val (.pointer (some ⟨rx,2,none⟩)) else if s=59 then .strs (x.l) else if s=60 then .val (.pointer (some ⟨rp,2,none⟩)) else if s=61 then .strs (y.l) else if s=62 then .strs (bU x.l y.l) else if s=63 then .val (.int .i64 (((bU x.l y.l).length:Nat):Int)) else if s=64 then .val (.pointer (some ⟨rx,2,none⟩)) else if s=65 then .strs (x.l) else if s=66 then .val (.int .i64 (((x.l).length:Nat):Int)) else if s=67 then .val (.bool true) else if s=68 then .val (.bool true) else if s=69 then .val (.pointer (some ⟨rx,3,none⟩)) else if s=70 then .strs (x.r) else if s=71 then .val (.pointer (some ⟨rp,3,none⟩)) else if s=72 then .strs (y.r) else if s=73 then .strs (bU x.r y.r) else if s=74 then .val (.int .i64 (((bU x.r y.r).length:Nat):Int)) else if s=75 then .val (.pointer (some ⟨rx,3,none⟩)) else if s=76 then .strs (x.r) else if s=77 then .val (.int .i64 (((x.r).length:Nat):Int)) else if s=78 then .val (.bool b2) else if s=79 then .val (.bool b2) else .any:Nat→Kq) s).holds v w') (fun _ _ _ _ h hv=>Kq.keeps h hv) ?_ qA rfl ?_ ?_
        ·refine lK (aD 7 (.pointer (some ⟨rx,0,none⟩)) (.pointer (some ⟨rx,2,none⟩)) rfl qA rfl (fun a w1 h1=>by unfold execOp;simp only[h1,Sem.run_bind,dk rx];rfl) (dd rfl)) ?_
         refine lK (aJ 58 _ _ _ rfl rfl qA rfl K0 sxl (dd rfl)) ?_;refine lK (aD 10 (.pointer (some ⟨rp,0,none⟩)) (.pointer (some ⟨rp,2,none⟩)) rfl qA rfl (fun a w1 h1=>by unfold execOp;simp only[h1,Sem.run_bind,dk rp];rfl) (dd rfl)) ?_;refine lK (aJ 60 _ _ _ rfl rfl qA rfl Ls syl (dd rfl)) ?_;refine lK (Ad 59 61 (x.l) (y.l) rfl rfl qA qA rfl rfl qB (dd rfl)) ?_;refine lK (Cj 62 (bU x.l y.l) rfl rfl qA rfl (dd rfl)) ?_;refine lK (aD 7 (.pointer (some ⟨rx,0,none⟩)) (.pointer (some ⟨rx,2,none⟩)) rfl qA rfl (fun a w1 h1=>by unfold execOp;simp only[h1,Sem.run_bind,dk rx];rfl) (dd rfl)) ?_;refine lK (aJ 64 _ _ _ rfl rfl qA rfl K0 sxl (dd rfl)) ?_;refine lK (Cj 65 (x.l) rfl rfl qA rfl (dd rfl)) ?_;refine lK (IJ 63 66 ((bU x.l y.l).length) ((x.l).length) true KT rfl rfl qA qA rfl rfl (dd rfl)) ?_;refine lK (ai 67 (.inl rfl) rfl qA (dd rfl)) ?_;refine lK (kOn 10 68 true rfl rfl qC qA rfl (aD 7 (.pointer (some ⟨rx,0,none⟩)) (.pointer (some ⟨rx,3,none⟩)) rfl qA rfl (fun a w1 h1=>by unfold execOp;simp only[h1,Sem.run_bind,gC rx];rfl) (dd rfl))) ?_;refine lK (kOn 10 68 true rfl rfl qC qA rfl (aJ 69 _ _ _ rfl rfl qA rfl Lr sxr (dd rfl))) ?_;refine lK (kOn 10 68 true rfl rfl qC qA rfl (aD 10 (.pointer (some ⟨rp,0,none⟩)) (.pointer (some ⟨rp,3,none⟩)) rfl qA rfl (fun a w1 h1=>by unfold execOp;simp only[h1,Sem.run_bind,gC rp];rfl) (dd rfl))) ?_;refine lK (kOn 10 68 true rfl rfl qC qA rfl (aJ 71 _ _ _ rfl rfl qA rfl LQ syr (dd rfl))) ?_;refine lK (kOn 10 68 true rfl rfl qC qA rfl (Ad 70 72 (x.r) (y.r) rfl rfl qA qA rfl rfl qB (dd rfl))) ?_;refine lK (kOn 10 68 true rfl rfl qC qA rfl (Cj 73 (bU x.r y.r) rfl rfl qA rfl (dd rfl))) ?_;refine lK (kOn 10 68 true rfl rfl qC qA rfl (aD 7 (.pointer (some ⟨rx,0,none⟩)) (.pointer (some ⟨rx,3,none⟩)) rfl qA rfl (fun a w1 h1=>by unfold execOp;simp only[h1,Sem.run_bind,gC rx];rfl) (dd rfl))) ?_;refine lK (kOn 10 68 true rfl rfl qC qA rfl (aJ 75 _ _ _ rfl rfl qA rfl Lr sxr (dd rfl))) ?_;refine lK (kOn 10 68 true rfl rfl qC qA rfl (Cj 76 (x.r) rfl rfl qA rfl (dd rfl))) ?_;refine lK (kOn 10 68 true rfl rfl qC qA rfl (IJ 74 77 ((bU x.r y.r).length) ((x.r).length) b2 Li rfl rfl qA qA rfl rfl (dd rfl))) ?_;refine lK (iq 68 78 _ (.bool b2) rfl rfl qA qA rfl rfl (dd rfl)) ?_;refine lK (ai 79 (.inr rfl) rfl qA (dd rfl)) True.intro
        ·intro s hs
         have:s=7∨s=10:=by simpa using hs
         rcases this with rfl | rfl
         ·exact rfl
         ·exact rfl
        ·intro f w' hk hv
         have g6:f 6=.bool b2:=hv 6 qC;clear hv Li;simp only[aN,Act.put,za,zb,zc,g6];clear g6;go_wp2_with fail;go_ret;exact⟨ab (by rw[HR.out];rfl),(K5.trans kd).trans hk⟩
      ·have HR:Hid (R=false):=hid (by rw[x9.out,decide_eq_false hm,Bool.false_and])
       have L8:=mm hm;clear x9 hm;go_wp2_with fail;go_ret;exact⟨ab HR.out.symm,K4⟩
     ·have h1':((i:Int) != 1)=true:=by simp;omega
      have HR:Hid (R=false):=hid (by rw[x8.out,decide_eq_false (by have:=H8.out;omega),Bool.false_and,Bool.false_and]);clear x8 h1;go_wp2_with fail;go_ret;exact⟨ab HR.out.symm,K4⟩
    ·have hr':(x.rule==13)=false:=by simpa using h9
     have x8:Hid (R=match bM (lgN lg) x.rule.toNat x.l x.r x.main with
      | none=>false
      | some ps=>decide (ps=x.pr.map (ej steps))):=hid (by
      rw[Lb.out];unfold ob
      exact if_neg h9)
     have LC:=hid (jM lg x.rule x.main x.l x.r LD.out LF.out _ _ w4 x6.out.sl x6.out.sr ⟨qB,qB⟩ m3);have x0:=Lf.out.cell 0 qD;have x1:=Lf.out.cell 1 qD;simp only[zj,zl] at x0 x1;clear Lb h9;go_wp2_with fail;refine LC.out.mono ?_;rintro e w5 ⟨v5,b5,rfl,⟨p5,n5,c5,rfl⟩,Lh,KT,k5⟩;have K5:=K4.trans k5;have H7:=hid (x6.out.keeps k5);clear x0 x1 y0 y1 y2 y3 y4 LC Lf x6;obtain⟨y0,y1,y2,y3,y4⟩:=H7.out.cells
     cases b5
     ·have h0:=Lh rfl
      have HR:Hid (R=false):=hid (by rw[x8.out,h0]);clear x8 Lh KT h0;go_wp2_with fail;go_ret;exact⟨ab HR.out.symm,K5⟩
     ·obtain⟨ps,h0,Lp⟩:=KT rfl
      have HR:Hid (R=decide (ps=x.pr.map (ej steps))):=hid (by rw[x8.out,h0]);have L2:=Ev h0;obtain⟨_,_,e5,_⟩:=Lp.shape
      cases e5
      have LW:=hid Lp;clear x8 Lh KT h0 Lp
      by_cases KY:ps.length=i
      ·have Lu:Hid ((∀ j (h1:j<ps.length) (h2:j<x.pr.length),ps[j]=ej steps x.pr[j])→R=true):=hid (fun h=>by
        rw[HR.out]
        exact decide_eq_true (List.ext_getElem (by rw[List.length_map];have:=H8.out;omega) (fun j h1 h2=>by rw[List.getElem_map];exact h j h1 (by simpa using h2))))
       have Lz:Hid (∀ j (h1:j<ps.length) (h2:j<x.pr.length),decide (ps[j]=ej steps x.pr[j])=false→R=false):=hid (fun j h1 h2 h=>by
        rw[HR.out];refine decide_eq_false (fun e=>?_)
        have h3:ps[j]=(x.pr.map (ej steps))[j]'(by rw[List.length_map];exact h2):=by simp only[e]
        rw[List.getElem_map] at h3
        exact absurd h3 (of_decide_eq_false h))
       have Ly:=hid KY
       have Lk:((ps.length:Int) != i)=false:=by simp;omega
       rw[KY] at L2;clear KY HR;go_wp2_with fail
       go_loopw [13] (fun j' wr=>∃ j:Nat,j≤ps.length∧j'=.int .i64 j∧(∀ q (h1:q<ps.length) (h2:q<x.pr.length),q<j→ps[q]=ej steps x.pr[q])∧aa w5 wr) (fun j' _=>ps.length-(intOf j').toNat)
       case atStart=>exact⟨0,qB,rfl,fun _ _ _ h=>by omega,aa.refl _⟩
       case round=>
        obtain⟨j,hj,rfl,x7,kw⟩:=hrel;have HA:=hid x7;clear x7
        by_cases KZ:j<ps.length
        ·have Lm:(j:Int)<ps.length:=qB
         have LZ:j<i:=by have:=Ly.out;omega
         have L0:(j:Int)<i:=qB
         have Lj:j<x.pr.length:=by have:=Ly.out;have:=H8.out;omega
         have kd:=(aa.refl wr).drew;have KD:=kw.trans kd;have Lx:=hid KD;obtain⟨bq,oq,r1,t1,s1,r2,t2,s2,eq5,d0,d1,g1,g2⟩:=(LW.out.keeps KD).get j KZ
         cases eq5
         obtain⟨bp,op,ep,zp⟩:=(H7.out.keeps KD).pr.int j Lj
         cases ep
         have Ln:=H9.out j Lj
         obtain⟨i0,KU⟩:∃ i0:Nat,x.pr[j]=(i0:Int):=⟨x.pr[j].toNat,qB⟩
         have LJ:i0<k:=qB;have KR:i0<steps.length:=qB
         have Lq:ej steps x.pr[j]=(steps[i0].l,steps[i0].r):=by
          unfold ej;rw[KU,i6 qB (by simpa using KR)];rfl
         have eE:Hid (decide (ps[j]=(steps[i0].l,steps[i0].r))=true→∀ q (h1:q<ps.length) (h2:q<x.pr.length),q<j+1→ps[q]=ej steps x.pr[q]):=hid (fun h q h1 h2 hq=>by
          by_cases e:q=j
          ·subst e
           rw[Lq];exact of_decide_eq_true h
          ·exact HA.out q h1 h2 qB)
         have KP:Hid (decide (ps[j]=(steps[i0].l,steps[i0].r))=false→R=false):=hid (fun h=>Lz.out j KZ Lj (by rw[Lq];exact h));rw[KU] at zp;obtain⟨b',o',q1,u1,e1,q2,u2,e2,q3,u3,e3,eo,⟨f0,f1,f2,f3,f4⟩,jpr,jl,jr⟩:=(HV.out _ (K5.trans KD)).get i0 KR
         cases eo
         have LY:(i0:Int)<steps.length:=qB;have xc:=(H7.out.keeps KD).cells.2.1;have LG:=hid (fun wz (kz:aa wr.drew wz)=>pO ps[j].1 ps[j].2 steps[i0].l steps[i0].r _ _ _ _ wz (g1.keeps kz).1 (g2.keeps kz).1 (jl.keeps kz).1 (jr.keeps kz).1);rw[show((ps[j].1,ps[j].2):SqT)=ps[j] from rfl] at LG;have LV:=hid (fun wz=>BA steps[i0].rule q1 q2 q3 u1 e1 u2 e2 u3 e3 steps[i0].main wz);clear g1 g2 jpr jl jr Lq KU Ln HA;generalize decide (ps[j]=(steps[i0].l,steps[i0].r))=bb at*;generalize steps[i0]=y at*;generalize ps[j]=qq at*;clear y0 y1 y2 y3 y4;go_wp2_with fail
         go_region_held3 (fun w'=>w'.cell? ⟨bq,oq+j*2,none⟩=some (.slice r1 t1 s1)∧w'.cell? ⟨bq,oq+j*2+1,none⟩=some (.slice r2 t2 s2)∧w'.cell? ⟨w.heap.size,1,none⟩=some (.slice (some ⟨bp,op,none⟩) i c1)∧w'.cell? ⟨bp,op+j,none⟩=some (.int .i64 i0)∧w'.cell? ⟨b,off+i0*5,none⟩=some (.int .i64 y.rule)∧w'.cell? ⟨b,off+i0*5+1,none⟩=some (.slice q1 u1 e1)∧w'.cell? ⟨b,off+i0*5+2,none⟩=some (.slice q2 u2 e2)∧w'.cell? ⟨b,off+i0*5+3,none⟩=some (.slice q3 u3 e3)∧w'.cell? ⟨b,off+i0*5+4,none⟩=some (.string y.main)) (first | exact⟨d0,d1,xc,zp,f0,f1,f2,f3,f4⟩ | exact⟨d0',d1',xc',zp',f0',f1',f2',f3',f4'⟩ | exact⟨d0'',d1'',xc'',zp'',f0'',f1'',f2'',f3'',f4''⟩) (first | (go_at_call 109;refine(LV.out _).mono ?_;rintro e w6 ⟨rfl,k6⟩;have d0':=k6.cell d0;have d1':=k6.cell d1;have xc':=k6.cell xc;have zp':=k6.cell zp;have f0':=k6.cell f0;have f1':=k6.cell f1;have f2':=k6.cell f2;have f3':=k6.cell f3;have f4':=k6.cell f4) | (go_at_call 101;refine(LG.out _ k6).mono ?_;rintro e w7 ⟨rfl,k7⟩;have d0'':=k7.cell d0';have d1'':=k7.cell d1';have xc'':=k7.cell xc';have zp'':=k7.cell zp';have f0'':=k7.cell f0';have f1'':=k7.cell f1';have f2'':=k7.cell f2';have f3'':=k7.cell f3';have f4'':=k7.cell f4'))
         cases bb
         ·have Lg:=hid (KP.out rfl)
          clear KP eE;go_wp2_with fail;go_ret;exact⟨ab Lg.out.symm,((K5.trans Lx.out).trans k6).trans k7⟩
         ·have Le:=hid (eE.out rfl)
          clear KP eE;go_wp2_with fail;go_roundw
          case rel=>exact⟨j+1,qB,by go_num,Le.out,(Lx.out.trans k6).trans k7⟩
          case measure=>simp[intOf];omega
        ·obtain rfl:j=ps.length:=qB
         have Lm:¬((ps.length:Int)<ps.length):=qB;have LX:=hid (Lu.out (fun q h1 h2=>HA.out q h1 h2 h1));clear Lu Lz HA;go_wp2_with fail;go_ret;exact⟨ab LX.out.symm,K5.trans kw⟩
      ·have Lg:Hid (R=false):=hid (by
        rw[HR.out];refine decide_eq_false (fun e=>KY ?_)
        rw[e,List.length_map,H8.out])
       have Lk:((ps.length:Int) != i)=true:=by simp;omega
       clear KY HR;go_wp2_with fail;go_ret;exact⟨ab Lg.out.symm,K5⟩
end
section
open Go.RowKit
def fZ (steps:List StT):StT:=steps.getD (steps.length-1) default
theorem xn {L:Nat} {steps:List StT}:∀ (n k:Nat),k+n=steps.length→¬(0≤dK L steps (steps.drop k) k)→∀ j (h:j<steps.length),k≤j→isQ steps[j].l steps[j].r=true
 | 0,k,hk,_,j,h,hj=>by omega
 | n+1,k,hk,hb,j,h,hj=>by
  have eE:k<steps.length:=qB;rw[nV L steps k eE] at hb
  by_cases hc:iF L steps k steps[k]=true
  ·rw[if_pos hc] at hb
   by_cases e:j=k
   ·subst e;exact rD hc
   ·exact xn n (k+1) qB hb j h qB
  ·rw[if_neg hc] at hb
   exact absurd qB hb
theorem sY {lg:ByteArray} {steps:List StT} (h:stE lg steps=0):lg∈aT∧0<steps.length∧steps.length≤60∧∀ j (h:j<steps.length),isQ steps[j].l steps[j].r=true:=by
 unfold stE at h
 split at h
 ·rename_i h1
  split at h
  ·cases h
  ·rename_i h2
   split at h
   ·cases h
   ·rename_i h3
    exact⟨@of_decide_eq_true _ (Classical.propDecidable _) h1,qB,qB,fun j hj=>xn steps.length 0 qB h3 j hj qB⟩
 ·cases h
theorem sC (lg:ByteArray) (steps:List StT) (hl:steps.length≤1000) (hM:jH steps) (v:Value) (w:World) (hv:StL w v steps):
  Calls Tryz.prog 29 #[.string lg,v] w fun e w'=>e=.returned (.int .i64 (dK (lgN lg) steps steps 0))∧aa w w':=by
 have HV:=hid (fun wz (kz:aa w wz)=>hv.keeps kz);obtain⟨p,cap,rfl,KT,KR,_⟩:=hv.shape;unfold maxLen at KR;have HC:=hid (fun k (hk:k<steps.length) (hb:∀ j (h:j<steps.length),j<k→isQ steps[j].l steps[j].r=true) wz (kz:aa w wz)=>sD lg steps k hk hl hM hb _ wz (HV.out wz kz));have KP:=hid (fun k (h:k<steps.length)=>nV (lgN lg) steps k h);have H8:=hid (fun k (h:steps.length≤k)=>xq (lgN lg) steps k h)
 have x8:dK (lgN lg) steps steps 0=dK (lgN lg) steps (steps.drop 0) 0:=by rw[List.drop_zero]
 generalize dK (lgN lg) steps steps 0=R at*;have H7:=hid x8;clear hv hM x8;go_enter Tryz.func29,Tryz.ntmps29;go_wp2
 go_loopw [5] (fun i' wr=>∃ k:Nat,k≤steps.length∧i'=.int .i64 k∧R=dK (lgN lg) steps (steps.drop k) k∧(∀ j (h:j<steps.length),j<k→isQ steps[j].l steps[j].r=true)∧aa w wr) (fun i' _=>steps.length-(intOf i').toNat)
 case atStart=>exact⟨0,qB,rfl,H7.out,fun j _ h=>by omega,aa.refl _⟩
 case round=>
  obtain⟨k,hk,rfl,hR,hq,kw⟩:=hrel;have HR:=hid hR;have HQ:=hid hq;clear hR hq
  by_cases x9:k<steps.length
  ·have x6:(k:Int)<steps.length:=qB
   have x7:=hid (HC.out k x9 HQ.out wr kw);have hs:=KP.out k x9;rw[hs] at HR
   have h9:Hid (iF (lgN lg) steps k steps[k]=true→∀ j (h:j<steps.length),j<k+1→isQ steps[j].l steps[j].r=true):=hid (fun h j hj KS=>by
    by_cases e:j=k
    ·subst e;exact rD h
    ·exact HQ.out j hj qB)
   clear hs;generalize iF (lgN lg) steps k steps[k]=c at*
   cases c
   ·have eE:Hid (R=(k:Int)):=hid HR.out
    clear HR h9;go_wp2_with fail;refine x7.out.mono ?_;rintro e w2 ⟨rfl,k2⟩;go_wp2_with fail;go_ret;exact⟨aK eE.out.symm,kw.trans k2⟩
   ·have eE:Hid (R=dK (lgN lg) steps (steps.drop (k+1)) (k+1)):=hid HR.out
    have H9:=hid (h9.out rfl);clear HR h9;go_wp2_with fail;refine x7.out.mono ?_;rintro e w2 ⟨rfl,k2⟩;go_wp2_with fail;go_roundw
    case rel=>exact⟨k+1,qB,by go_num,eE.out,H9.out,kw.trans k2⟩
    case measure=>simp[intOf];omega
  ·obtain rfl:k=steps.length:=qB
   have x6:¬((steps.length:Int)<steps.length):=qB;have eE:Hid (R = -1):=hid (by rw[HR.out,H8.out _ (zm _)]);clear HR;go_wp2_with fail;go_ret;exact⟨aK eE.out.symm,kw⟩
open scoped Classical in
theorem yj (lg:ByteArray) (steps:List StT) (hM:jH steps) (v:Value) (w:World) (hv:StL w v steps):
  Calls Tryz.prog 25 #[.string lg,v,.bool true] w fun e w'=>e=.returned (.int .i64 (stE lg steps))∧aa w w':=by
 have HV:=hid (fun wz (kz:aa w wz)=>hv.keeps kz);obtain⟨p,cap,rfl,x8,x7,_⟩:=hv.shape;unfold maxLen at x7;have HL:=hid (gI lg w);have HE:Hid (stE lg steps=if decide (lg∈aT)=true then (if steps.length=0∨60<steps.length then 3 else if 0≤dK (lgN lg) steps steps 0 then 5 else 0) else 2):=hid rfl;have HB:=hid (fun (h:steps.length≤1000) wz (kz:aa w wz)=>sC lg steps h hM _ wz (HV.out wz kz));generalize stE lg steps=R at*;generalize decide (lg∈aT)=bn at*;generalize dK (lgN lg) steps steps 0=bd at*;generalize steps.length=n at*;clear hv hM HV;go_enter Tryz.func25,Tryz.ntmps25;go_wp2_with fail;refine HL.out.mono ?_;rintro e w2 ⟨rfl,k2⟩
 cases bn
 ·have HR:Hid (R=2):=hid HE.out
  clear HE;go_wp2_with fail;go_ret;exact⟨aK HR.out.symm,k2⟩
 ·have eE:Hid (R=if n=0∨60<n then 3 else if 0≤bd then 5 else 0):=hid HE.out
  clear HE
  by_cases h0:n=0
  ·have HR:Hid (R=3):=hid (by rw[eE.out,if_pos (.inl h0)])
   subst h0;clear eE;go_wp2_with fail;go_ret;exact⟨aK HR.out.symm,k2⟩
  ·have h0':((n:Int)==0)=false:=by simp;omega
   by_cases h6:60<n
   ·have HR:Hid (R=3):=hid (by rw[eE.out,if_pos (.inr h6)])
    have h6':(n:Int)>60:=qB;clear eE h0;go_wp2_with fail;go_ret;exact⟨aK HR.out.symm,k2⟩
   ·have h6':¬(n:Int)>60:=qB
    have h9:Hid (R=if 0≤bd then 5 else 0):=hid (by rw[eE.out,if_neg qB]);have x6:=hid (HB.out qB w2 k2);clear eE h0 HB;go_wp2_with fail;refine x6.out.mono ?_;rintro e w3 ⟨rfl,k3⟩
    by_cases hb:0≤bd
    ·have HR:Hid (R=5):=hid (by rw[h9.out,if_pos hb])
     clear h9;go_wp2_with fail;go_ret;exact⟨aK HR.out.symm,k2.trans k3⟩
    ·have HR:Hid (R=0):=hid (by rw[h9.out,if_neg hb])
     clear h9;go_wp2_with fail;go_ret;exact⟨aK HR.out.symm,k2.trans k3⟩
open scoped Classical in
theorem rJ (ss tt:List ByteArray) (v u:Value) (w:World) (hv:au w v ss) (hu:au w u tt):
  Calls Tryz.prog 159 #[v,u] w fun e w'=>e=.returned (.bool (decide (ss=tt)))∧aa w w':=by
 obtain⟨p,c,rfl,_,_,h9,h1⟩:=hv.at;obtain⟨q,d,rfl,_,_,eE,h2⟩:=hu.at
 by_cases hl:ss.length=tt.length
 ·by_cases h0:ss.length=0
  ·obtain rfl:=List.eq_nil_of_length_eq_zero h0
   obtain rfl:tt=[]:=List.eq_nil_of_length_eq_zero (by rw[←hl];rfl);refine(Tryz.slices_Equal_string_empty p q c 0 d w qB).mono ?_;rintro e w' ⟨rfl,rfl⟩;exact⟨qD,aa.refl _⟩
  ·obtain⟨b1,o1,rfl,_⟩:=h9 0 (by simp[aq];omega)
   obtain⟨b2,o2,rfl,_⟩:=eE 0 (by simp[aq];omega)
   have hc:∀ (l:List ByteArray) (b off:Nat),At w (some ⟨b,off,none⟩) (aq l)→∀ j,j<l.length→w.cell? ⟨b,off+j,none⟩=some (.string (l.getD j ByteArray.empty)):=by
    intro l b off h9 j hj;obtain⟨b',off',hp,hc⟩:=h9 j (by simpa [aq] using hj)
    cases hp
    rw[hc];simp[aq,List.getD_eq_getElem?_getD,hj]
   refine(Tryz.slices_Equal_string b1 o1 ss.length c b2 o2 tt.length d ss tt w (zm _) (zm _) qB qB (hc ss b1 o1 h9) (hc tt b2 o2 eE)).mono ?_;rintro e w' ⟨rfl,q,rfl⟩;refine⟨?_,(aa.refl w).drewN q⟩;rw[List.take_length,List.take_length]
 ·refine(Tryz.slices_Equal_string_lens p q ss.length c tt.length d w hl).mono ?_
  rintro e w' ⟨rfl,rfl⟩;exact⟨by rw[decide_eq_false (fun e=>hl (by rw[e]))],aa.refl _⟩
open scoped Classical in
theorem qw (X Y X' Y':List ByteArray) (a b c d:Value) (w:World) (ha:au w a X) (hb:au w b Y) (hc:au w c X') (hd:au w d Y'):
  Calls Tryz.prog 108 #[.agg #[a,b],.agg #[c,d]] w fun e w'=>e=.returned (.bool (decide (((X,Y):SqT)=(X',Y'))))∧aa w w':=by
 have kA:=(aa.refl w).alloc (.cells #[a,b] 29);obtain⟨c0,c1⟩:=BoxQ.made w a b 29;have kB:=(aa.refl (w.alloc (.cells #[a,b] 29))).alloc (.cells #[c,d] 29);obtain⟨d0,d1⟩:=BoxQ.made (w.alloc (.cells #[a,b] 29)) c d 29
 have hz:(w.alloc (.cells #[a,b] 29)).heap.size=w.heap.size+1:=by simp
 rw[hz] at d0 d1;have K:=kA.trans kB;have H1:=hid (rJ X X' a c _ (ha.keeps K) (hc.keeps K));have H2:=hid (fun wz (kz:aa w wz)=>rJ Y Y' b d wz (hb.keeps kz) (hd.keeps kz))
 have HE:Hid (decide (((X,Y):SqT)=(X',Y'))=(decide (X=X')&&decide (Y=Y'))):=hid (by
  rw[Bool.eq_iff_iff,zk,decide_eq_true_eq,decide_eq_true_eq,decide_eq_true_eq]
  exact Prod.mk.injEq _ _ _ _▸Iff.rfl)
 generalize decide (((X,Y):SqT)=(X',Y'))=r at*;generalize decide (X=X')=b1 at*;generalize decide (Y=Y')=b2 at*
 replace c0:=kB.cell c0
 replace c1:=kB.cell c1
 obtain⟨p1,m1,q1,rfl⟩:=ha.sh;obtain⟨p2,m2,q2,rfl⟩:=hb.sh;obtain⟨p3,m3,q3,rfl⟩:=hc.sh;obtain⟨p4,m4,q4,rfl⟩:=hd.sh;have HC:=hid (And.intro c1 d1);clear ha hb hc hd hz kA kB c1 d1
 cases b1
 ·have HR:Hid (r=false):=hid HE.out
  go_enter Tryz.func108,Tryz.ntmps108;go_wp2_with fail;refine H1.out.mono ?_;rintro e w2 ⟨rfl,k2⟩;go_wp2_with fail;go_ret;exact⟨ab HR.out.symm,K.trans k2⟩
 ·have HR:Hid (r=b2):=hid (by rw[HE.out,Bool.true_and])
  go_enter Tryz.func108,Tryz.ntmps108;go_wp2_with fail;refine H1.out.mono ?_;rintro e w2 ⟨rfl,k2⟩;have e1:=k2.cell HC.out.1;have e2:=k2.cell HC.out.2;have H3:=hid (H2.out _ (K.trans k2));clear H1 H2;go_wp2_with fail;refine H3.out.mono ?_;rintro e w3 ⟨rfl,k3⟩;go_wp2_with fail;go_ret;exact⟨ab HR.out.symm,(K.trans k2).trans k3⟩
theorem ve:aG 108:=fun _ _=>by kernel_rfl
open scoped Classical in
theorem xK (ps qs:List SqT) (v u:Value) (w:World) (hv:SqL w v ps) (hu:SqL w u qs):
  Calls Tryz.prog 107 #[v,u,.func (.func 108) #[] #[]] w fun e w'=>e=.returned (.bool (decide (ps=qs)))∧aa w w':=by
 have HV:=hid hv;have HU:=hid hu;obtain⟨p,c,rfl,_,KP,_⟩:=hv.shape;obtain⟨q,d,rfl,_,H7,_⟩:=hu.shape;unfold maxLen at KP H7
 have H9:∀ args w,(callFunc 108 args).run Tryz.prog w=.ok (.enter 108 args) w:=ve
 clear hv hu;have h9:=hid (fun (h:ps.length=qs.length) (h2:∀ j (h1:j<ps.length) (h2:j<qs.length),ps[j]=qs[j])=>show decide (ps=qs)=true from decide_eq_true (List.ext_getElem h h2))
 have x6:=hid (fun (j:Nat) (h1:j<ps.length) (h2:j<qs.length) (e:decide (ps[j]=qs[j])=false)=>show decide (ps=qs)=false from decide_eq_false (fun h=>by
  subst h
  simp at e))
 have x7:=hid (fun (h:ps.length≠qs.length)=>show decide (ps=qs)=false from decide_eq_false (fun e=>h (by rw[e])));generalize decide (ps=qs)=b at*;go_enter Tryz.func107,Tryz.ntmps107
 by_cases hl:ps.length=qs.length
 ·have HL:=hid hl
  obtain⟨n,hn⟩:∃ n,n=qs.length:=⟨_,rfl⟩
  rw[hl,←hn];rw[hl,←hn] at HV;rw[←hn] at HU;have HN:=hid hn;clear hl hn x7;go_wp2_with fail
  go_loopw [17] (fun i' wr=>∃ i:Nat,i≤n∧i'=.int .i64 i∧(∀ j (h1:j<ps.length) (h2:j<qs.length),j<i→ps[j]=qs[j])∧aa w wr) (fun i' _=>n-(intOf i').toNat)
  case atStart=>exact⟨0,qB,rfl,fun j _ _ h=>by omega,aa.refl _⟩
  case round=>
   obtain⟨i,hi,rfl,eE,kw⟩:=hrel;have HA:=hid eE;clear eE
   by_cases KR:i<n
   ·have x9:(i:Int)<n:=qB
    have h1:i<ps.length:=by have:=HL.out;have:=HN.out;omega
    have h2:i<qs.length:=by have:=HN.out;omega
    obtain⟨b1,o1,r1,m1,d1,r2,m2,d2,rfl,y0,y1,g1,g2⟩:=(HV.out.keeps kw).get i h1;obtain⟨b2,o2,s1,t1,e1,s2,t2,e2,rfl,f0,f1,j1,j2⟩:=(HU.out.keeps kw).get i h2;have kA:=(aa.refl wr).alloc (.cells #[.slice r1 m1 d1,.slice r2 m2 d2] 29);have kB:=kA.alloc (.cells #[.slice s1 t1 e1,.slice s2 t2 e2] 29);have x8:=hid (qw ps[i].1 ps[i].2 qs[i].1 qs[i].2 _ _ _ _ _ (g1.keeps kB).1 (g2.keeps kB).1 (j1.keeps kB).1 (j2.keeps kB).1);rw[show((ps[i].1,ps[i].2):SqT)=ps[i] from rfl,show((qs[i].1,qs[i].2):SqT)=qs[i] from rfl] at x8;have HX:=hid (x6.out i h1 h2)
    have HY:Hid (decide (ps[i]=qs[i])=true→∀ j (h1:j<ps.length) (h2:j<qs.length),j<i+1→ps[j]=qs[j]):=hid (fun h j h1 h2 hj=>by
     by_cases e:j=i
     ·subst e;exact of_decide_eq_true h
     ·exact HA.out j h1 h2 qB)
    have KB:=hid (kw.trans kB)
    replace f0:=kA.cell f0
    replace f1:=kA.cell f1
    clear g1 g2 j1 j2 kA kB;generalize decide (ps[i]=qs[i])=bb at*
    cases bb
    ·have HB:=hid (HX.out rfl)
     clear HX HY;go_wp2_with fail;refine x8.out.mono ?_;rintro e w2 ⟨rfl,k2⟩;go_wp2_with fail;go_ret;exact⟨ab HB.out.symm,KB.out.trans k2⟩
    ·have H8:=hid (HY.out rfl)
     clear HX HY;go_wp2_with fail;refine x8.out.mono ?_;rintro e w2 ⟨rfl,k2⟩;go_wp2_with fail;go_roundw
     case rel=>exact⟨i+1,qB,by go_num,H8.out,KB.out.trans k2⟩
     case measure=>simp[intOf];omega
   ·obtain rfl:i=n:=qB
    have x9:¬((i:Int)<i):=qB;have HB:=hid (h9.out HL.out (fun j h1 h2=>HA.out j h1 h2 (by have:=HN.out;omega)));clear h9 x6;go_wp2_with fail;go_ret;exact⟨ab HB.out.symm,kw⟩
 ·have HB:=hid (x7.out hl)
  have hl':((ps.length:Int) != qs.length)=true:=by simp;omega
  clear hl h9 x6 x7;go_wp2_with fail;go_ret;exact⟨ab HB.out.symm,aa.refl _⟩
theorem yU (s:ByteArray) (X:List ByteArray) (v:Value) (b:Nat) (w:World) (hc:w.cell? ⟨b,0,none⟩=some v) (hv:au w v X):
  Calls Tryz.prog 154 #[.string s,.pointer (some ⟨b,0,none⟩)] w fun e w'=>e=.returned (.bool (!inS X s))∧aa w w':=by
 have HC:=hid (uV X s v w hv);obtain⟨p,n,c,rfl⟩:=hv.sh;clear hv;generalize inS X s=r at*;go_enter Tryz.func154,Tryz.ntmps154;go_wp2_with fail;refine HC.out.mono ?_;rintro e w2 ⟨rfl,rfl⟩;go_wp2_with fail;go_ret;exact⟨rfl,aa.refl _⟩
theorem rI:aG 154:=fun _ _=>by kernel_rfl
theorem AK (P X:List ByteArray) (v u:Value) (w:World) (hv:au w v P) (hu:au w u X):
  Calls Tryz.prog 105 #[v,u] w fun e w'=>e=.returned (.bool (ja P X))∧aa w w':=by
 have kA:=(aa.refl w).alloc (.cells #[u] 27);have hc:=xt w u 27;have eE:=hid (tF (fun s=>!inS X s) 154 #[.pointer (some ⟨w.heap.size,0,none⟩)] P v _ (hv.keeps kA) rI (fun x w1 _ k1=>yU x X u w.heap.size w1 (k1.cell hc) ((hu.keeps kA).keeps k1)))
 have HE:Hid (ja P X=!(P.any fun s=>!inS X s)):=hid (by
  unfold ja;rw[List.not_any_eq_all_not]
  simp)
 obtain⟨p,n,c,rfl⟩:=hv.sh;obtain⟨q,m,d,rfl⟩:=hu.sh;generalize (P.any fun s=>!inS X s)=r at*;generalize ja P X=r2 at*;clear hv hu hc;go_enter Tryz.func105,Tryz.ntmps105;go_wp2_with fail;refine eE.out.mono ?_;rintro e w2 ⟨rfl,k2⟩;go_wp2_with fail;go_ret;exact⟨ab HE.out.symm,kA.trans k2⟩
def SqR (w0 w:World) (B:Nat) (v:Value) (ps:List SqT):Prop:=
 ∃ us:List (Value×Value),us.length=ps.length∧w.ownsRow B 29 2 v ps.length (cV us)∧∀ i (h1:i<us.length) (h2:i<ps.length),aj w0 us[i].1 ps[i].1∧aj w0 us[i].2 ps[i].2
theorem SqR.nil (w0 w:World) (B:Nat):SqR w0 w B (.slice none 0 0) []:=⟨[],rfl,World.ownsRow_nil w B _ 2,fun i h=>by simp at h⟩
theorem SqR.keeps {w0 w w':World} {B:Nat} {v:Value} {ps:List SqT} (h:SqR w0 w B v ps) (k:aa w w'):SqR w0 w' B v ps:=by
 obtain⟨us,h1,h2,h3⟩:=h;exact⟨us,h1,bw h2 k,h3⟩
theorem SqR.sql {w0 w:World} {B:Nat} {v:Value} {ps:List SqT} (h:SqR w0 w B v ps) (k:aa w0 w) (hl:ps.length≤2147483648):SqL w v ps:=by
 obtain⟨us,h1,h2,h3⟩:=h
 have KP:=fun (_:0<ps.length)=>cw.own h2
 obtain⟨p,c,rfl,H9,eE,h9⟩:=At.of_own h2;refine⟨⟨p,c,rfl,H9,eE,hl,fun i hi=>?_⟩,KP⟩;have hi':i<us.length:=qB;obtain⟨g1,g2⟩:=kV us i hi';obtain⟨r1,r2⟩:=h3 i hi' hi;obtain⟨x8,x9⟩:=List.getElem?_eq_some_iff.1 g1;obtain⟨H7,H8⟩:=List.getElem?_eq_some_iff.1 g2;obtain⟨b,off,hp,x6⟩:=h9 (i*2) x8;obtain⟨b',off',hp',x7⟩:=h9 (i*2+1) H7;rw[hp] at hp'
 cases hp'
 rw[x9] at x6;rw[H8] at x7;refine⟨b,off,fun c=>if c=0 then us[i].1 else us[i].2,hp,fun c hc=>?_,⟨by simpa using r1.keeps k,by simpa using r1.sh⟩,⟨by simpa using r2.keeps k,by simpa using r2.sh⟩⟩;have eE:c=0∨c=1:=qB
 rcases eE with rfl | rfl
 ·simpa using x6
 ·simpa [Nat.add_assoc] using x7
theorem Kj {w0 w:World} {ops:Array Oper} {rest:List Oper} {o:Oper} {a:Act} {Q:Exit→Act→World→Prop} (H7:o.guard=none) (s x:Operand)
  (ho:o.op=.call { callee:=.builtin .append,args:=#[s,x],argTypes:=#[109,109] }) (base:Nat) (v:Value) (ps:List SqT) (hs:a.eval s=v) (h9:SqR w0 w base v ps)
  (p:Option Addr) (cc:Nat) (y z:Value) (A C:List ByteArray) (hx:a.eval x=.slice p 1 cc) (x9:At w p [y,z]) (hy:aj w0 y A) (hz:aj w0 z C) (eE:base≤w.heap.size) (H8:ps.length≤2147483648)
  (h:∀ v' w',SqR w0 w' base v' (ps++[(A,C)])→w.grownBy w' v.ownBlock→(∀ k,v.ownBlock=some k→base≤k)→wpList Tryz.prog ops Q rest (a.put o.dst v') w'):wpList Tryz.prog ops Q (o::rest) a w:=
 wpList_plain H7 fun _ hK=>by
  obtain⟨i0,hi,H9,KP,KR⟩:=info_parts DP;obtain⟨us,hl,x6,he⟩:=h9;obtain⟨py,ny,cy,ey⟩:=hy.sh;obtain⟨pz,nz,cz,ez⟩:=hz.sh
  refine bI s x _ ho _ i0 _ 2 48 Tryz.underlying109 hi H9 KP KR rfl qC base v _ _ hs x6 p 1 cc [y,z] hx qD x9 (by
   intro u hu
   simp at hu
   rcases hu with rfl | rfl
   ·rw[ey];rfl
   ·rw[ez];rfl) (by unfold maxLen;omega) qB eE ?_
  intro v' w' h1 h2 h4;refine hK _ _ (h v' w' ⟨us++[(y,z)],by simp[hl],?_,fun i a1 a2=>?_⟩ h2 h4)
  ·rw[ze,kU]
   exact h1
  ·by_cases x7:i<us.length
   ·have x8:i<ps.length:=qB
    rw[List.getElem_append_left x7,List.getElem_append_left x8];exact he i x7 x8
   ·have:i=us.length:=by simp at a1;omega
    subst this;rw[List.getElem_append_right (zm _),List.getElem_append_right qB];simp[hl];exact⟨hy,hz⟩
end
end Go.Proofs.YtagoboblkadelaaGreat
