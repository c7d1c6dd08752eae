import Derived.Test.YtagoboblkadelaaGreatZFL
import Derived.Test.YtagoboblkadelaaGreatZER
/- own -/
namespace Go.Proofs.YtagoboblkadelaaGreat
set_option maxRecDepth 100000
set_option maxHeartbeats 8000000
section
open Go.RowKit
theorem As (L r:Nat) (ss tt:List ByteArray) (main:ByteArray) (eE:main∈ss∨main∈tt→main≠⟨#[]⟩) (h1:r≠1) (h2:r≠2) (h9:r≠12) (x6:r≠14):
  bM L r ss tt main=match (if inS ss main=true then lpR L r ss tt main else none) with
   | some ps=>some ps
   | none=>if inS tt main=true then rpR L r ss tt main else none:=by
 by_cases e3:r=3
 ·subst e3
  rw[show bM L 3 ss tt main=if (onS ss main iL)=true then some [(ae (ae (ah ss main) (pa1 main)) (pa2 main),tt)] else none from rfl,show lpR L 3 ss tt main=if (iL (txF main))=true then some [(ae (ae (ah ss main) (pa1 main)) (pa2 main),tt)] else none from rfl,show rpR L 3 ss tt main=none from rfl];unfold onS
  cases inS ss main<;>cases inS tt main<;>cases iL (txF main)<;>rfl
 by_cases e4:r=4
 ·subst e4
  rw[show bM L 4 ss tt main=if (onS tt main iL)=true then some [(ss,ae (ah tt main) (pa1 main)),(ss,ae (ah tt main) (pa2 main))] else none from rfl,show lpR L 4 ss tt main=none from rfl,show rpR L 4 ss tt main=if (iL (txF main))=true then some [(ss,ae (ah tt main) (pa1 main)),(ss,ae (ah tt main) (pa2 main))] else none from rfl];unfold onS
  cases inS ss main<;>cases inS tt main<;>cases iL (txF main)<;>rfl
 by_cases e5:r=5
 ·subst e5
  rw[show bM L 5 ss tt main=if (onS ss main iN)=true then some [(ae (ah ss main) (pa1 main),tt),(ae (ah ss main) (pa2 main),tt)] else none from rfl,show lpR L 5 ss tt main=if (iN (txF main))=true then some [(ae (ah ss main) (pa1 main),tt),(ae (ah ss main) (pa2 main),tt)] else none from rfl,show rpR L 5 ss tt main=none from rfl];unfold onS
  cases inS ss main<;>cases inS tt main<;>cases iN (txF main)<;>rfl
 by_cases e6:r=6
 ·subst e6
  rw[show bM L 6 ss tt main=if (onS tt main iN)=true then some [(ss,ae (ae (ah tt main) (pa1 main)) (pa2 main))] else none from rfl,show lpR L 6 ss tt main=none from rfl,show rpR L 6 ss tt main=if (iN (txF main))=true then some [(ss,ae (ae (ah tt main) (pa1 main)) (pa2 main))] else none from rfl];unfold onS
  cases inS ss main<;>cases inS tt main<;>cases iN (txF main)<;>rfl
 by_cases e7:r=7
 ·subst e7
  rw[show bM L 7 ss tt main=if (onS ss main iM)=true then some [(ah ss main,ae tt (pa1 main)),(ae (ah ss main) (pa2 main),tt)] else none from rfl,show lpR L 7 ss tt main=if (iM (txF main))=true then some [(ah ss main,ae tt (pa1 main)),(ae (ah ss main) (pa2 main),tt)] else none from rfl,show rpR L 7 ss tt main=none from rfl];unfold onS
  cases inS ss main<;>cases inS tt main<;>cases iM (txF main)<;>rfl
 by_cases e8:r=8
 ·subst e8
  rw[show bM L 8 ss tt main=if (onS tt main iM)=true then some [(ae ss (pa1 main),ae (ah tt main) (pa2 main))] else none from rfl,show lpR L 8 ss tt main=none from rfl,show rpR L 8 ss tt main=if (iM (txF main))=true then some [(ae ss (pa1 main),ae (ah tt main) (pa2 main))] else none from rfl];unfold onS
  cases inS ss main<;>cases inS tt main<;>cases iM (txF main)<;>rfl
 by_cases e9:r=9
 ·subst e9
  rw[show bM L 9 ss tt main=if (onS ss main bg&&rfL L)=true then some [(ae ss (paI main),tt)] else none from rfl,show lpR L 9 ss tt main=if (bg (txF main)&&rfL L)=true then some [(ae ss (paI main),tt)] else none from rfl,show rpR L 9 ss tt main=none from rfl];unfold onS
  cases inS ss main<;>cases inS tt main<;>cases bg (txF main)<;>cases rfL L<;>rfl
 by_cases e10:r=10
 ·subst e10
  rw[show bM L 10 ss tt main=if (onS tt main bR&&rfL L)=true then some [(ss,ae tt (paI main))] else none from rfl,show lpR L 10 ss tt main=none from rfl,show rpR L 10 ss tt main=if (bR (txF main)&&rfL L)=true then some [(ss,ae tt (paI main))] else none from rfl];unfold onS
  cases inS ss main<;>cases inS tt main<;>cases bR (txF main)<;>cases rfL L<;>rfl
 by_cases e11:r=11
 ·subst e11
  rw[show bM L 11 ss tt main=if onS tt main bg=true then some [oE L ss tt main] else if onS ss main bR=true then some [oG L ss tt main] else none from rfl,show lpR L 11 ss tt main=if bR (txF main)=true then some [((mdQ L ss tt main).1,(mdQ L ss tt main).2)] else none from rfl,show rpR L 11 ss tt main=if bg (txF main)=true then some [((mdQ L ss tt main).1,(mdQ L ss tt main).2)] else none from rfl];unfold onS
  have hx:¬(bg (txF main)=true∧bR (txF main)=true):=by cases txF main<;>simp[bg,bR]
  have hm:inS ss main=true∨inS tt main=true→mdQ L ss tt main=if bg (txF main)=true then oE L ss tt main else oG L ss tt main:=fun h=>by
   unfold mdQ;rw[if_neg (eE (by rw[dU,dU] at h;exact h))]
  generalize mdQ L ss tt main=md at*;generalize oE L ss tt main=mb at*;generalize oG L ss tt main=mo at*;clear eE;generalize inS ss main=o1 at*;generalize inS tt main=o2 at*;generalize bg (txF main)=bx at*;generalize bR (txF main)=di at*
  cases o1<;>cases o2<;>cases bx<;>cases di<;>first | rfl | (exact absurd ⟨rfl,rfl⟩ hx) | (rw[hm (.inl rfl)];rfl) | (rw[hm (.inr rfl)];rfl)
 rw[show bM L r ss tt main=none by
  unfold bM
  rw[if_neg qB,if_neg qB,if_neg qB,if_neg qB,if_neg qB,if_neg qB,if_neg qB,if_neg qB,if_neg qB,if_neg qB,if_neg qB,if_neg qB,if_neg qB],show lpR L r ss tt main=none by
  unfold lpR
  rw[if_neg qB,if_neg qB,if_neg qB,if_neg qB,if_neg qB],show rpR L r ss tt main=none by
  unfold rpR
  rw[if_neg qB,if_neg qB,if_neg qB,if_neg qB,if_neg qB]]
 cases inS ss main<;>cases inS tt main<;>rfl
def iw (o:Option (List SqT)):Kq:=.pr (fun v w=>(∃ p n c,v=.slice p n c)∧∀ ps,o=some ps→SqL w v ps) (fun _ _ _ k h=>⟨h.1,fun ps e=>(h.2 ps e).keeps k⟩)
def qI (o:Option (List SqT)):Kq:=.pr (fun v w=>∃ u,v=.tuple #[u,.bool o.isSome]∧(iw o).holds u w) (fun _ _ _ k h=>by obtain⟨u,e,h⟩:=h;exact⟨u,e,Kq.keeps k h⟩)
theorem aH.tup {w w':World} {o:Option (List SqT)} {e:Ending} (h:aH w o e w'):∃ v,e=.returned v∧aa w w'∧(qI o).holds v w':=by
 obtain⟨v,b,rfl,hs,h0,h1,k⟩:=h;refine⟨_,rfl,k,v,?_,hs,fun ps e=>?_⟩
 ·cases b
  ·rw[h0 rfl];rfl
  ·obtain⟨ps,e,_⟩:=h1 rfl
   rw[e];rfl
 ·cases b
  ·rw[h0 rfl] at e;cases e
  ·obtain⟨ps',e',h⟩:=h1 rfl
   rw[e] at e'
   cases e'
   exact h
theorem aH.ofRow {w w':World} {o:Option (List SqT)} {v:Value} (h:(iw o).holds v w') (k:aa w w'):aH w o (.returned (.tuple #[v,.bool o.isSome])) w':=by
 refine⟨v,_,rfl,h.1,fun e=>?_,fun e=>?_,k⟩
 ·cases o with
  | none=>rfl
  | some ps=>cases e
 ·cases o with
  | none=>cases e
  | some ps=>exact⟨ps,rfl,h.2 ps rfl⟩
open scoped Classical in
theorem uV (ss:List ByteArray) (x:ByteArray) (v:Value) (w:World) (hv:au w v ss):Calls Tryz.prog 104 #[v,.string x] w fun e w'=>e=.returned (.bool (inS ss x))∧w=w':=by
 refine(lV ss x v w hv).mono ?_;rintro e w' ⟨rfl,rfl⟩;refine⟨?_,rfl⟩
 congr 2
 rw[Bool.eq_iff_iff,decide_eq_true_eq,dU]
section
variable {md:Region.Mode} {ops:Array Oper} {Q:Exit→Act→World→Prop} {nt:Nat} {ins:List Nat} {kd:Nat→Kq} {w0:World} {o:Oper}
theorem xD:aG 104:=fun _ _=>by kernel_rfl
theorem Hx (s s':Nat) (x:List ByteArray) (y:ByteArray) (ho:o.op=.call { callee:=.value (.func 104),args:=#[.tmp s,.tmp s'],argTypes:=#[27,9] }) (hg:o.guard=none) (h:az md ops ins o s=true) (h':az md ops ins o s'=true) (hs:kd s=.strs x) (hs':kd s'=.val (.string y)) (hk:∀ d,o.dst=some d→kd d=.val (.bool (inS x y))):StQ md ops Q nt ins kd w0 o:=
 dV 104 _ _ ho xD hg (fun a w1 _ hv=>by
  have g1:=hv s h;have g2:=hv s' h';rw[hs] at g1;rw[hs'] at g2;have g1:aj w1 (a.eval (.tmp s)) x:=g1;have g2:a.eval (.tmp s')=.string y:=g2;rw[Aj,g2];refine(uV x y _ w1 g1.1).mono ?_;rintro e w2 ⟨rfl,rfl⟩
  exact⟨_,rfl,aa.refl _,fun d hd=>by rw[hk d hd];exact rfl⟩)
theorem xE:aG 126:=fun _ _=>by kernel_rfl
theorem JL (s:Nat) (y:ByteArray) (ho:o.op=.call { callee:=.value (.func 126),args:=#[.tmp s],argTypes:=#[9] }) (hg:o.guard=none) (h:az md ops ins o s=true) (hs:kd s=.val (.string y)) (hl:y.size≤10000000) (hk:∀ d,o.dst=some d→kd d=.val (.bool (ij y))):StQ md ops Q nt ins kd w0 o:=
 dV 126 _ _ ho xE hg (fun a w1 _ hv=>by
  have g2:=hv s h;rw[hs] at g2;have g2:a.eval (.tmp s)=.string y:=g2;rw[wu,g2];refine(Bp y w1 hl).mono ?_;rintro e w2 ⟨rfl,k2⟩
  exact⟨_,rfl,k2,fun d hd=>by rw[hk d hd];exact rfl⟩)
theorem xH:aG 82:=fun _ _=>by kernel_rfl
theorem vD (s:Nat) (y:ByteArray) (t:Fm) (ho:o.op=.call { callee:=.value (.func 82),args:=#[.tmp s],argTypes:=#[9] }) (hg:o.guard=none) (h:az md ops ins o s=true) (hs:kd s=.val (.string y)) (hy:ck y t) (hk:∀ d,o.dst=some d→kd d=.nd t):StQ md ops Q nt ins kd w0 o:=
 dV 82 _ _ ho xH hg (fun a w1 _ hv=>by
  have g2:=hv s h;rw[hs] at g2;have g2:a.eval (.tmp s)=.string y:=g2;rw[wu,g2];refine(lA t y w1 hy).mono ?_;rintro e w2 ⟨v,rfl,hv,k2⟩
  exact⟨_,rfl,k2,fun d hd=>by rw[hk d hd];exact hv.nds (by have:=hy.2.2;omega)⟩)
theorem Eh {f:Operand→Value} (x y z u:Operand):(#[x,y,z,u]:Array Operand).map f=#[f x,f y,f z,f u]:=by simp
theorem u7:aG 157:=fun _ _=>by kernel_rfl
theorem IL (s1 s2 s3 s4:Nat) (lg:ByteArray) (r:Int) (main:ByteArray) (t:Fm) (ss tt:List ByteArray) (ho:o.op=.call { callee:=.value (.func 157),args:=#[.tmp s1,.tmp s2,.tmp s3,.tmp s4],argTypes:=#[9,2,29,50] }) (hg:o.guard=none) (h1:az md ops ins o s1=true) (h2:az md ops ins o s2=true) (h3:az md ops ins o s3=true) (h4:az md ops ins o s4=true)
  (e1:kd s1=.val (.string lg)) (e2:kd s2=.val (.int .i64 r)) (e3:kd s3=.sq ss tt) (e4:kd s4=.nd t) (eE:lg∈aT) (hm:ck main t) (hs:aW ss) (ht:aW tt) (hl:ss.length≤1000∧tt.length≤1000) (hk:∀ d,o.dst=some d→kd d=qI (lpR (lgN lg) r.toNat ss tt main)):StQ md ops Q nt ins kd w0 o:=
 dV 157 _ _ ho u7 hg (fun a w1 _ hv=>by
  have g1:=hv s1 h1;have g2:=hv s2 h2;have g3:=hv s3 h3;have g4:=hv s4 h4;rw[e1] at g1;rw[e2] at g2;rw[e3] at g3;rw[e4] at g4;have g1:a.eval (.tmp s1)=.string lg:=g1;have g2:a.eval (.tmp s2)=.int .i64 r:=g2;have g4:Nds w1 (a.eval (.tmp s4)) t.enc:=g4;obtain⟨x,y,g3,hx,hy⟩:=g3;rw[Eh,g1,g2,g3];refine(oB lg r main t eE hm ss tt hs ht x y _ w1 hx hy g4 hl).mono ?_;rintro e w2 hR;obtain⟨v,rfl,k2,h⟩:=hR.tup
  exact⟨v,rfl,k2,fun d hd=>by rw[hk d hd];exact h⟩)
theorem tK:aG 158:=fun _ _=>by kernel_rfl
theorem Bu (s1 s2 s3 s4:Nat) (lg:ByteArray) (r:Int) (main:ByteArray) (t:Fm) (ss tt:List ByteArray) (ho:o.op=.call { callee:=.value (.func 158),args:=#[.tmp s1,.tmp s2,.tmp s3,.tmp s4],argTypes:=#[9,2,29,50] }) (hg:o.guard=none) (h1:az md ops ins o s1=true) (h2:az md ops ins o s2=true) (h3:az md ops ins o s3=true) (h4:az md ops ins o s4=true)
  (e1:kd s1=.val (.string lg)) (e2:kd s2=.val (.int .i64 r)) (e3:kd s3=.sq ss tt) (e4:kd s4=.nd t) (eE:lg∈aT) (hm:ck main t) (hs:aW ss) (ht:aW tt) (hl:ss.length≤1000∧tt.length≤1000) (hk:∀ d,o.dst=some d→kd d=qI (rpR (lgN lg) r.toNat ss tt main)):StQ md ops Q nt ins kd w0 o:=
 dV 158 _ _ ho tK hg (fun a w1 _ hv=>by
  have g1:=hv s1 h1;have g2:=hv s2 h2;have g3:=hv s3 h3;have g4:=hv s4 h4;rw[e1] at g1;rw[e2] at g2;rw[e3] at g3;rw[e4] at g4;have g1:a.eval (.tmp s1)=.string lg:=g1;have g2:a.eval (.tmp s2)=.int .i64 r:=g2;have g4:Nds w1 (a.eval (.tmp s4)) t.enc:=g4;obtain⟨x,y,g3,hx,hy⟩:=g3;rw[Eh,g1,g2,g3];refine(nB lg r main t eE hm ss tt hs ht x y _ w1 hx hy g4 hl).mono ?_;rintro e w2 hR;obtain⟨v,rfl,k2,h⟩:=hR.tup
  exact⟨v,rfl,k2,fun d hd=>by rw[hk d hd];exact h⟩)
theorem EK (u v:Value) (w:World):(Instr.extract (.tuple #[u,v]) 0).run Tryz.prog w=.ok u w:=qA
theorem EL (u v:Value) (w:World):(Instr.extract (.tuple #[u,v]) 1).run Tryz.prog w=.ok v w:=qA
theorem Br (s:Nat) (c:Option (List SqT)) (ho:o.op=.extract (.tmp s) 0) (hg:o.guard=none) (h:az md ops ins o s=true) (hs:kd s=qI c) (hk:∀ d,o.dst=some d→kd d=iw c):StQ md ops Q nt ins kd w0 o:=
 cB.plain hg fun a w K x6 hJ h9 eE hK=>by
  have hv:=dv h h9 eE;change (kd s).holds _ w at hv;rw[hs] at hv;obtain⟨u,e,hu⟩:=(hv:∃ u,a.eval (.tmp s)=.tuple #[u,.bool c.isSome]∧(iw c).holds u w);unfold Oper.wp execOp;simp only[ho,e,Sem.run_bind,EK u (.bool c.isSome),Result.andThen_ok,Sem.run_pure];exact hK _ _ (aa.refl w) (fun d hd=>by show(kd d).holds _ w;rw[hk d hd];exact hu)
theorem Bs (s:Nat) (c:Option (List SqT)) (ho:o.op=.extract (.tmp s) 1) (hg:o.guard=none) (h:az md ops ins o s=true) (hs:kd s=qI c) (hk:∀ d,o.dst=some d→kd d=.val (.bool c.isSome)):StQ md ops Q nt ins kd w0 o:=
 cB.plain hg fun a w K x6 hJ h9 eE hK=>by
  have hv:=dv h h9 eE;change (kd s).holds _ w at hv;rw[hs] at hv;obtain⟨u,e,hu⟩:=(hv:∃ u,a.eval (.tmp s)=.tuple #[u,.bool c.isSome]∧(iw c).holds u w);unfold Oper.wp execOp;simp only[ho,e,Sem.run_bind,EL u (.bool c.isSome),Result.andThen_ok,Sem.run_pure];exact hK _ _ (aa.refl w) (fun d hd=>by show(kd d).holds _ w;rw[hk d hd];exact rfl)
end
theorem sO (lg:ByteArray) (r:Int) (main:ByteArray) (KV:lg∈aT) (ss tt:List ByteArray) (hs:aW ss) (ht:aW tt) (a b:Value) (w:World) (ha:aj w a ss) (hb:aj w b tt) (hl:ss.length≤1000∧tt.length≤1000) (La:main.size≤10000000):
  Calls Tryz.prog 106 #[.string lg,.int .i64 r,.agg #[a,b],.string main] w (aH w (bM (lgN lg) r.toNat ss tt main)):=by
 obtain⟨p,n,c,rfl⟩:=ha.sh;obtain⟨q,m,d,rfl⟩:=hb.sh;have k1:=(aa.refl w).alloc (.cells #[.slice p n c,.slice q m d] 29);have b1:=aR.made w 29 [.slice p n c,.slice q m d] qD qD;have x6:=hid b1;have HA:=hid (ha.keeps k1);have HC:=hid (hb.keeps k1);have HS:=hid hs;have HT:=hid ht;have H9:=hid KV;obtain⟨l1,l2⟩:=hl;clear ha hb b1 hs ht KV;go_enter Tryz.func106,Tryz.ntmps106
 go_upto_region 1 with fail
 generalize w.alloc (.cells #[.slice p n c,.slice q m d] 29)=w1 at*
 go_cut [10,11] from 14 to 21 (fun v10 v11 wx=>v10=.bool (inS ss main)∧v11=.bool (inS tt main)∧aa w1 wx)
 case first=>
  have kd:=(aa.refl w1).drew;have c0:=(x6.out.keeps kd).cell 0 qD;have c1:=(x6.out.keeps kd).cell 1 qD;simp only[zj,zl] at c0 c1;have h0:=HA.out.keeps kd;have h1:=HC.out.keeps kd;refine ao (L:=10) (nt:=92) (ins:=[3,6]) (ds:=[14,15,16,17,18,19,20,21,10,11]) qA qA (fun s v w'=>((fun s=>if s=3 then .val (.string main) else if s=6 then .val (.pointer (some ⟨w.heap.size,0,none⟩)) else if s=10 then .val (.bool (inS ss main)) else if s=11 then .val (.bool (inS tt main)) else if s=14 then .val (.pointer (some ⟨w.heap.size,0,none⟩)) else if s=15 then .strs (ss) else if s=16 then .val (.string main) else if s=17 then .val (.bool (inS ss main)) else if s=18 then .val (.pointer (some ⟨w.heap.size,1,none⟩)) else if s=19 then .strs (tt) else if s=20 then .val (.string main) else if s=21 then .val (.bool (inS tt main)) else .any:Nat→Kq) s).holds v w') (fun _ _ _ _ h hv=>Kq.keeps h hv) ?_ qA rfl ?_ ?_
  ·refine lK (aD 6 (.pointer (some ⟨w.heap.size,0,none⟩)) (.pointer (some ⟨w.heap.size,0,none⟩)) rfl qA rfl (fun a w1 h1=>by unfold execOp;simp only[h1,Sem.run_bind,aM w.heap.size];rfl) (dd rfl)) ?_
   refine lK (aJ 14 _ _ _ rfl rfl qA rfl c0 h0 (dd rfl)) ?_;refine lK (ai 3 (.inl rfl) rfl qA (dd rfl)) ?_;refine lK (Hx 15 16 (ss) main rfl rfl qA qA rfl rfl (dd rfl)) ?_;refine lK (aD 6 (.pointer (some ⟨w.heap.size,0,none⟩)) (.pointer (some ⟨w.heap.size,1,none⟩)) rfl qA rfl (fun a w1 h1=>by unfold execOp;simp only[h1,Sem.run_bind,aL w.heap.size];rfl) (dd rfl)) ?_;refine lK (aJ 18 _ _ _ rfl rfl qA rfl c1 h1 (dd rfl)) ?_;refine lK (ai 3 (.inl rfl) rfl qA (dd rfl)) ?_;refine lK (Hx 19 20 (tt) main rfl rfl qA qA rfl rfl (dd rfl)) ?_;refine lK (ai 17 (.inr rfl) rfl qA (dd rfl)) ?_;refine lK (ai 21 (.inr rfl) rfl qA (dd rfl)) True.intro
  ·intro s hs
   have:s=3∨s=6:=by simpa using hs
   rcases this with rfl | rfl
   ·exact rfl
   ·exact rfl
  ·intro f w' hk hv
   have g10:f 10=.bool (inS ss main):=hv 10 qC;have g11:f 11=.bool (inS tt main):=hv 11 qC;clear hv;generalize inS ss main=o1 at*;generalize inS tt main=o2 at*;simp only[aN,Act.put,za,zb,zc,g10,g11];clear g10 g11;go_wp2_with fail
   go_meet
   exact⟨rfl,rfl,kd.trans hk⟩
 case rest=>
  obtain⟨rfl,rfl,kc⟩:=hcut
  by_cases e1:r=1
  ·subst e1
   have HP:Hid (bM (lgN lg) (1:Int).toNat ss tt main=if (inS ss main&&inS tt main)=true then some [] else none):=hid rfl;generalize inS ss main=o1 at*;generalize inS tt main=o2 at*
   cases o1
   ·go_wp2_with fail
    refine bodyPost_ret (v:=.tuple #[.slice none 0 0,.bool false]) (by simp[results,Tryz.results106,go_sem]) rfl ?_;exact aH.mk (ps:=[]) HP.out (fun e=>rfl) (SqL.none0 _ _) (k1.trans kc)
   ·go_wp2_with fail
    refine bodyPost_ret (v:=.tuple #[.slice none 0 0,.bool o2]) (by simp[results,Tryz.results106,go_sem]) rfl ?_;exact aH.mk (ps:=[]) HP.out (fun e=>rfl) (SqL.none0 _ _) (k1.trans kc)
  by_cases e2:r=2
  ·subst e2
   have KZ:=hid (fun wz (kz:aa w1 wz)=>uV ss ⟨#[70]⟩ _ wz (HA.out.keeps kz).1);have HP:Hid (bM (lgN lg) (2:Int).toNat ss tt main=if (decide (main=⟨#[]⟩)&&inS ss (txS .fls))=true then some [] else none):=hid rfl;rw[Fb] at HP;generalize inS ss ⟨#[70]⟩=o1 at*;have z0:=(x6.out.keeps kc).cell 0 qD;simp only[zj] at z0;generalize inS ss main=o8 at*;generalize inS tt main=o9 at*
   by_cases hm:main=⟨#[]⟩
   ·subst hm
    rw[decide_eq_true rfl] at HP;go_wp2_with fail;refine(KZ.out _ kc).mono ?_;rintro e w' ⟨rfl,rfl⟩;go_wp2_with fail;refine bodyPost_ret (v:=.tuple #[.slice none 0 0,.bool o1]) (by simp[results,Tryz.results106,go_sem]) rfl ?_;exact aH.mk (ps:=[]) HP.out (fun e=>rfl) (SqL.none0 _ _) (k1.trans kc)
   ·have K0:=mm hm
    rw[decide_eq_false hm] at HP;clear hm;go_wp2_with fail;refine bodyPost_ret (v:=.tuple #[.slice none 0 0,.bool false]) (by simp[results,Tryz.results106,go_sem]) rfl ?_;exact aH.mk (ps:=[]) HP.out (fun e=>rfl) (SqL.none0 _ _) (k1.trans kc)
  by_cases e12:r=12
  ·subst e12
   have KP:=hid (fun wz (kz:aa w1 wz)=>iS lg ⟨#[]⟩ ss tt HS.out HT.out _ _ wz (HA.out.keeps kz) (HC.out.keeps kz) ⟨qB,qB⟩ (.inl rfl));rw[show mdQ (lgN lg) ss tt ⟨#[]⟩=(eJ (lgN lg) ss ⟨#[]⟩,eQ (lgN lg) tt ⟨#[]⟩) by unfold mdQ;rw[if_pos rfl]] at KP;have HP:Hid (bM (lgN lg) (12:Int).toNat ss tt main=if (decide (main=⟨#[]⟩)&&decide (lgN lg=1))=true then some [(eJ (lgN lg) ss main,eQ (lgN lg) tt main)] else none):=hid rfl;have eD:=nmD lg;have z0:=(x6.out.keeps kc).cell 0 qD;have z1:=(x6.out.keeps kc).cell 1 qD;simp only[zj,zl] at z0 z1;generalize inS ss main=o8 at*;generalize inS tt main=o9 at*;go_wp2_with fail;refine(KP.out _ kc).mono ?_;rintro e w2 ⟨u2,v2,rfl,KR,KS,k2⟩;obtain⟨pu,nu,cu,rfl⟩:=KR.sh;obtain⟨pv,nv,cv,rfl⟩:=KS.sh
   have H8:=SqL.lit w2 [(.slice pu nu cu,.slice pv nv cv)] [(eJ (lgN lg) ss ⟨#[]⟩,eQ (lgN lg) tt ⟨#[]⟩)] rfl qD (fun i h1 h2=>by
    obtain rfl:i=0:=by simp at h1;omega
    exact⟨KR,KS⟩)
   have KU:=hid H8;have KK:=(k1.trans kc).trans (k2.alloc (.cells #[.slice pu nu cu,.slice pv nv cv] 29));clear KR KS H8 z0 z1 KP
   by_cases hm:main=⟨#[]⟩
   ·subst hm
    rw[decide_eq_true rfl,Bool.true_and,←eD] at HP;generalize Lc:(lg.toList==[68])=bD at*;clear eD;go_wp2_with fail;refine bodyPost_ret (v:=.tuple #[.slice (some ⟨w2.heap.size,0,none⟩) 1 1,.bool bD]) (by simp[results,Tryz.results106,go_sem]) rfl ?_;exact aH.mk HP.out (fun e=>rfl) KU.out KK
   ·have K0:=mm hm
    rw[decide_eq_false hm] at HP;clear hm eD;go_wp2_with fail;refine bodyPost_ret (v:=.tuple #[.slice (some ⟨w2.heap.size,0,none⟩) 1 1,.bool false]) (by simp[results,Tryz.results106,go_sem]) rfl ?_;exact aH.mk (ps':=[]) (by rw[HP.out];rfl) (fun e=>by cases e) KU.out KK
  by_cases e14:r=14
  ·subst e14
   have HP:Hid (bM (lgN lg) (14:Int).toNat ss tt main=if ij main=true then some [(ss,ae tt main),(ae ss main,tt)] else none):=hid rfl;generalize inS ss main=o8 at*;generalize inS tt main=o9 at*
   go_upto_region 10 with fail
   have kd:=kc.trans (aa.refl wc).drew;have c0:=(x6.out.keeps kd).cell 0 qD;have c1:=(x6.out.keeps kd).cell 1 qD;simp only[zj,zl] at c0 c1;have h0:=HA.out.keeps kd;have h1:=HC.out.keeps kd;refine ao (L:=21) (nt:=92) (ins:=[3,6]) (ds:=[52,53,54,55,56,57,58,59,60,61,62,63,64,65,66,67,68,69,70,8,9]) qA qA (fun s v w'=>((fun s=>if s=3 then .val (.string main) else if s=6 then .val (.pointer (some ⟨w.heap.size,0,none⟩)) else if s=8 then .sqs [(ss,ae tt (main)),(ae ss (main),tt)] else if s=9 then .val (.bool (ij main)) else if s=52 then .val (.pointer (some ⟨w.heap.size,0,none⟩)) else if s=53 then .strs (ss) else if s=54 then .val (.pointer (some ⟨w.heap.size,1,none⟩)) else if s=55 then .strs (tt) else if s=56 then .val (.string main) else if s=57 then .strs [main] else if s=58 then .strs (ae tt (main)) else if s=59 then .sq (ss) (ae tt (main)) else if s=60 then .val (.pointer (some ⟨w.heap.size,0,none⟩)) else if s=61 then .strs (ss) else if s=62 then .val (.string main) else if s=63 then .strs [main] else if s=64 then .strs (ae ss (main)) else if s=65 then .val (.pointer (some ⟨w.heap.size,1,none⟩)) else if s=66 then .strs (tt) else if s=67 then .sq (ae ss (main)) (tt) else if s=68 then .sqs [(ss,ae tt (main)),(ae ss (main),tt)] else if s=69 then .val (.string main) else if s=70 then .val (.bool (ij main)) else .any:Nat→Kq) s).holds v w') (fun _ _ _ _ h hv=>Kq.keeps h hv) ?_ qA rfl ?_ ?_
   ·refine lK (aD 6 (.pointer (some ⟨w.heap.size,0,none⟩)) (.pointer (some ⟨w.heap.size,0,none⟩)) rfl qA rfl (fun a w1 h1=>by unfold execOp;simp only[h1,Sem.run_bind,aM w.heap.size];rfl) (dd rfl)) ?_
    refine lK (aJ 52 _ _ _ rfl rfl qA rfl c0 h0 (dd rfl)) ?_;refine lK (aD 6 (.pointer (some ⟨w.heap.size,0,none⟩)) (.pointer (some ⟨w.heap.size,1,none⟩)) rfl qA rfl (fun a w1 h1=>by unfold execOp;simp only[h1,Sem.run_bind,aL w.heap.size];rfl) (dd rfl)) ?_;refine lK (aJ 54 _ _ _ rfl rfl qA rfl c1 h1 (dd rfl)) ?_;refine lK (ai 3 (.inl rfl) rfl qA (dd rfl)) ?_;refine lK (qh 56 (main) rfl rfl qA rfl (dd rfl)) ?_;refine lK (jL 55 57 (tt) (main) rfl rfl qA qA rfl rfl qB HT.out.2 (dd rfl)) ?_;refine lK (eP 53 58 (ss) (ae tt (main)) rfl rfl qA qA rfl rfl (dd rfl)) ?_;refine lK (aD 6 (.pointer (some ⟨w.heap.size,0,none⟩)) (.pointer (some ⟨w.heap.size,0,none⟩)) rfl qA rfl (fun a w1 h1=>by unfold execOp;simp only[h1,Sem.run_bind,aM w.heap.size];rfl) (dd rfl)) ?_;refine lK (aJ 60 _ _ _ rfl rfl qA rfl c0 h0 (dd rfl)) ?_;refine lK (ai 3 (.inl rfl) rfl qA (dd rfl)) ?_;refine lK (qh 62 (main) rfl rfl qA rfl (dd rfl)) ?_;refine lK (jL 61 63 (ss) (main) rfl rfl qA qA rfl rfl qB HS.out.2 (dd rfl)) ?_;refine lK (aD 6 (.pointer (some ⟨w.heap.size,0,none⟩)) (.pointer (some ⟨w.heap.size,1,none⟩)) rfl qA rfl (fun a w1 h1=>by unfold execOp;simp only[h1,Sem.run_bind,aL w.heap.size];rfl) (dd rfl)) ?_;refine lK (aJ 65 _ _ _ rfl rfl qA rfl c1 h1 (dd rfl)) ?_;refine lK (eP 64 66 (ae ss (main)) (tt) rfl rfl qA qA rfl rfl (dd rfl)) ?_;refine lK (Bv 59 67 (ss) (ae tt (main)) (ae ss (main)) (tt) rfl rfl qA qA rfl rfl (dd rfl)) ?_;refine lK (ai 3 (.inl rfl) rfl qA (dd rfl)) ?_;refine lK (JL 69 main rfl rfl qA rfl La (dd rfl)) ?_;refine lK (ai 68 (.inr rfl) rfl qA (dd rfl)) ?_;refine lK (ai 70 (.inr rfl) rfl qA (dd rfl)) True.intro
   ·intro s hs
    have:s=3∨s=6:=by simpa using hs
    rcases this with rfl | rfl
    ·exact rfl
    ·exact rfl
   ·intro f w' hk hv
    have g8:SqL w' (f 8) [(ss,ae tt (main)),(ae ss (main),tt)]:=hv 8 qC;have g9:f 9=.bool (ij main):=hv 9 qC;obtain⟨p6,c6,e6,_⟩:=g8.shape;rw[e6] at g8;have G8:=hid g8;clear g8 hv;generalize ij main=ok at*;simp only[aN,Act.put,za,zb,zc,e6,g9];clear g9;go_wp2_with fail;refine bodyPost_ret (v:=.tuple #[.slice p6 2 c6,.bool ok]) (by simp[results,Tryz.results106,go_sem]) rfl ?_;exact aH.mk HP.out (fun e=>rfl) G8.out ((k1.trans kd).trans hk)
  have eE:=hid (As (lgN lg) r.toNat ss tt main (fun h=>by
   have Lb:∃ t,ck main t:=by rcases h with h | h;exact HS.out.1 _ h;exact HT.out.1 _ h
   intro e;subst e;obtain⟨t,ht⟩:=Lb;have h1:=ht.2.1;have h2:=my t;rw[←h1] at h2
   exact absurd h2 qC) qB qB qB qB)
  have KY:=hid (fun (h:inS ss main=true)=>ri HS.out (dU.1 h));have KT:=hid (fun (h:inS tt main=true)=>ri HT.out (dU.1 h))
  have q1:(r==1)=false:=by simpa using e1
  have q2:(r==2)=false:=by simpa using e2
  have q12:(r==12)=false:=by simpa using e12
  have q14:(r==14)=false:=by simpa using e14
  generalize inS ss main=o1 at*;generalize inS tt main=o2 at*;generalize bM (lgN lg) r.toNat ss tt main=PR at*;clear e1 e2 e12 e14
  cases o1
  ·cases o2
   ·go_wp2_with fail
    refine bodyPost_ret (v:=.tuple #[.slice none 0 0,.bool false]) (by simp[results,Tryz.results106,go_sem]) rfl ?_;rw[eE.out];exact aH.mk (ps:=[]) (b:=false) (ps':=[]) rfl (fun e=>by cases e) (SqL.none0 _ _) (k1.trans kc)
   ·have x7:=hid (KT.out (by trivial))
    generalize txF main=t at*
    go_upto_region 16 with fail
    have kd:=kc.trans (aa.refl wc).drew;have H7:=x6.out.keeps kd;have h0:=HA.out.keeps kd;have h1:=HC.out.keeps kd;refine ao (L:=10) (nt:=92) (ins:=[0,1,3,6]) (ds:=[84,85,86,87,88,89,90,91,8,9]) qA qA (fun s v w'=>((fun s=>if s=0 then .val (.string lg) else if s=1 then .val (.int .i64 r) else if s=3 then .val (.string main) else if s=6 then .val (.pointer (some ⟨w.heap.size,0,none⟩)) else if s=8 then iw (rpR (lgN lg) r.toNat ss tt main) else if s=9 then .val (.bool (rpR (lgN lg) r.toNat ss tt main).isSome) else if s=84 then .val (.string lg) else if s=85 then .val (.int .i64 r) else if s=86 then .sq (ss) (tt) else if s=87 then .val (.string main) else if s=88 then .nd t else if s=89 then qI (rpR (lgN lg) r.toNat ss tt main) else if s=90 then iw (rpR (lgN lg) r.toNat ss tt main) else if s=91 then .val (.bool (rpR (lgN lg) r.toNat ss tt main).isSome) else .any:Nat→Kq) s).holds v w') (fun _ _ _ _ h hv=>Kq.keeps h hv) ?_ qA rfl ?_ ?_
    ·refine lK (ai 0 (.inl rfl) rfl qA (dd rfl)) ?_
     refine lK (ai 1 (.inl rfl) rfl qA (dd rfl)) ?_;refine lK (rZ 6 (w.heap.size) _ _ (ss) (tt) rfl rfl qA rfl H7 h0 h1 (dd rfl)) ?_;refine lK (ai 3 (.inl rfl) rfl qA (dd rfl)) ?_;refine lK (vD 87 main t rfl rfl qA rfl x7.out (dd rfl)) ?_;refine lK (Bu 84 85 86 88 lg r main t ss tt rfl rfl qA qA qA qA rfl rfl rfl rfl H9.out x7.out HS.out HT.out ⟨qB,qB⟩ (dd rfl)) ?_;refine lK (Br 89 (rpR (lgN lg) r.toNat ss tt main) rfl rfl qA rfl (dd rfl)) ?_;refine lK (Bs 89 (rpR (lgN lg) r.toNat ss tt main) rfl rfl qA rfl (dd rfl)) ?_;refine lK (ai 90 (.inr rfl) rfl qA (dd rfl)) ?_;refine lK (ai 91 (.inr rfl) rfl qA (dd rfl)) True.intro
    ·intro s hs
     have:s=0∨s=1∨s=3∨s=6:=by simpa using hs
     rcases this with rfl | rfl | rfl | rfl
     ·exact rfl
     ·exact rfl
     ·exact rfl
     ·exact rfl
    ·intro f w' hk hv
     have g8:(iw (rpR (lgN lg) r.toNat ss tt main)).holds (f 8) w':=hv 8 qC;have g9:f 9=.bool (rpR (lgN lg) r.toNat ss tt main).isSome:=hv 9 qC;have h9:Hid (PR=rpR (lgN lg) r.toNat ss tt main):=hid eE.out;clear hv eE;generalize rpR (lgN lg) r.toNat ss tt main=oR at*;obtain⟨p6,n6,c6,e6⟩:=g8.1;have G8:=hid g8;clear g8;rw[e6] at G8;have x8:=hid (fun (h:(iw oR).holds (.slice p6 n6 c6) w') (k:aa w w')=>aH.ofRow h k);generalize oR.isSome=ok at*;simp only[aN,Act.put,za,zb,zc,e6,g9];clear g9;go_wp2_with fail;refine bodyPost_ret (v:=.tuple #[.slice p6 n6 c6,.bool ok]) (by simp[results,Tryz.results106,go_sem]) rfl ?_;rw[h9.out];exact x8.out G8.out ((k1.trans kd).trans hk)
  ·have x7:=hid (KY.out (by trivial))
   go_upto_region 12 with fail
   go_cut [12,13] from 73 to 80 (fun v12 v13 wx=>(iw (lpR (lgN lg) r.toNat ss tt main)).holds v12 wx∧v13=.bool (lpR (lgN lg) r.toNat ss tt main).isSome∧aa w1 wx)
   case first=>
    generalize txF main=t at*;have kd:=kc.trans (aa.refl wc).drew;have H7:=x6.out.keeps kd;have h0:=HA.out.keeps kd;have h1:=HC.out.keeps kd;refine ao (L:=11) (nt:=92) (ins:=[0,1,3,6]) (ds:=[73,74,75,76,77,78,72,79,80,12,13]) qA qA (fun s v w'=>((fun s=>if s=0 then .val (.string lg) else if s=1 then .val (.int .i64 r) else if s=3 then .val (.string main) else if s=6 then .val (.pointer (some ⟨w.heap.size,0,none⟩)) else if s=12 then iw (lpR (lgN lg) r.toNat ss tt main) else if s=13 then .val (.bool (lpR (lgN lg) r.toNat ss tt main).isSome) else if s=72 then qI (lpR (lgN lg) r.toNat ss tt main) else if s=73 then .val (.string lg) else if s=74 then .val (.int .i64 r) else if s=75 then .sq (ss) (tt) else if s=76 then .val (.string main) else if s=77 then .nd t else if s=78 then qI (lpR (lgN lg) r.toNat ss tt main) else if s=79 then iw (lpR (lgN lg) r.toNat ss tt main) else if s=80 then .val (.bool (lpR (lgN lg) r.toNat ss tt main).isSome) else .any:Nat→Kq) s).holds v w') (fun _ _ _ _ h hv=>Kq.keeps h hv) ?_ qA rfl ?_ ?_
    ·refine lK (ai 0 (.inl rfl) rfl qA (dd rfl)) ?_
     refine lK (ai 1 (.inl rfl) rfl qA (dd rfl)) ?_;refine lK (rZ 6 (w.heap.size) _ _ (ss) (tt) rfl rfl qA rfl H7 h0 h1 (dd rfl)) ?_;refine lK (ai 3 (.inl rfl) rfl qA (dd rfl)) ?_;refine lK (vD 76 main t rfl rfl qA rfl x7.out (dd rfl)) ?_;refine lK (IL 73 74 75 77 lg r main t ss tt rfl rfl qA qA qA qA rfl rfl rfl rfl H9.out x7.out HS.out HT.out ⟨qB,qB⟩ (dd rfl)) ?_;refine lK (ai 78 (.inl rfl) rfl qA (dd rfl)) ?_;refine lK (Br 72 (lpR (lgN lg) r.toNat ss tt main) rfl rfl qA rfl (dd rfl)) ?_;refine lK (Bs 72 (lpR (lgN lg) r.toNat ss tt main) rfl rfl qA rfl (dd rfl)) ?_;refine lK (ai 79 (.inr rfl) rfl qA (dd rfl)) ?_;refine lK (ai 80 (.inr rfl) rfl qA (dd rfl)) True.intro
    ·intro s hs
     have:s=0∨s=1∨s=3∨s=6:=by simpa using hs
     rcases this with rfl | rfl | rfl | rfl
     ·exact rfl
     ·exact rfl
     ·exact rfl
     ·exact rfl
    ·intro f w' hk hv
     have g12:(iw (lpR (lgN lg) r.toNat ss tt main)).holds (f 12) w':=hv 12 qC;have g13:f 13=.bool (lpR (lgN lg) r.toNat ss tt main).isSome:=hv 13 qC;have G12:=hid g12;clear hv eE g12;generalize lpR (lgN lg) r.toNat ss tt main=oL at*;generalize oL.isSome=ok at*;simp only[aN,Act.put,za,zb,zc,g13];clear g13;go_wp2_with fail
     go_meet
     exact⟨G12.out,rfl,kd.trans hk⟩
   case rest=>
    obtain⟨g12,rfl,kx⟩:=hcut;obtain⟨p6,n6,c6,rfl⟩:=g12.1;have G12:=hid g12;clear g12
    cases hlp:lpR (lgN lg) r.toNat ss tt main with
    | some ps=>
     rw[hlp] at G12 eE;have h9:Hid (PR=some ps):=hid eE.out;clear hlp eE;go_wp2_with fail;refine bodyPost_ret (v:=.tuple #[.slice p6 n6 c6,.bool true]) (by simp[results,Tryz.results106,go_sem]) rfl ?_;rw[h9.out];exact aH.mk (b:=true) (ps':=ps) rfl (fun e=>rfl) (G12.out.2 ps rfl) (k1.trans kx)
    | none=>
     rw[hlp] at eE;have x9:Hid (PR=if o2=true then rpR (lgN lg) r.toNat ss tt main else none):=hid eE.out;clear eE hlp x7;have eE:=x9;clear x9 G12
     cases o2
     ·go_wp2_with fail
      refine bodyPost_ret (v:=.tuple #[.slice none 0 0,.bool false]) (by simp[results,Tryz.results106,go_sem]) rfl ?_;rw[eE.out];exact aH.mk (ps:=[]) (b:=false) (ps':=[]) rfl (fun e=>by cases e) (SqL.none0 _ _) (k1.trans kx)
     ·have x7:=hid (KT.out (by trivial))
      generalize txF main=t at*
      go_upto_region 16 with fail
      have kd:=kx.trans (aa.refl wc).drew;have H7:=x6.out.keeps kd;have h0:=HA.out.keeps kd;have h1:=HC.out.keeps kd;refine ao (L:=10) (nt:=92) (ins:=[0,1,3,6]) (ds:=[84,85,86,87,88,89,90,91,8,9]) qA qA (fun s v w'=>((fun s=>if s=0 then .val (.string lg) else if s=1 then .val (.int .i64 r) else if s=3 then .val (.string main) else if s=6 then .val (.pointer (some ⟨w.heap.size,0,none⟩)) else if s=8 then iw (rpR (lgN lg) r.toNat ss tt main) else if s=9 then .val (.bool (rpR (lgN lg) r.toNat ss tt main).isSome) else if s=84 then .val (.string lg) else if s=85 then .val (.int .i64 r) else if s=86 then .sq (ss) (tt) else if s=87 then .val (.string main) else if s=88 then .nd t else if s=89 then qI (rpR (lgN lg) r.toNat ss tt main) else if s=90 then iw (rpR (lgN lg) r.toNat ss tt main) else if s=91 then .val (.bool (rpR (lgN lg) r.toNat ss tt main).isSome) else .any:Nat→Kq) s).holds v w') (fun _ _ _ _ h hv=>Kq.keeps h hv) ?_ qA rfl ?_ ?_
      ·refine lK (ai 0 (.inl rfl) rfl qA (dd rfl)) ?_
       refine lK (ai 1 (.inl rfl) rfl qA (dd rfl)) ?_;refine lK (rZ 6 (w.heap.size) _ _ (ss) (tt) rfl rfl qA rfl H7 h0 h1 (dd rfl)) ?_;refine lK (ai 3 (.inl rfl) rfl qA (dd rfl)) ?_;refine lK (vD 87 main t rfl rfl qA rfl x7.out (dd rfl)) ?_;refine lK (Bu 84 85 86 88 lg r main t ss tt rfl rfl qA qA qA qA rfl rfl rfl rfl H9.out x7.out HS.out HT.out ⟨qB,qB⟩ (dd rfl)) ?_;refine lK (Br 89 (rpR (lgN lg) r.toNat ss tt main) rfl rfl qA rfl (dd rfl)) ?_;refine lK (Bs 89 (rpR (lgN lg) r.toNat ss tt main) rfl rfl qA rfl (dd rfl)) ?_;refine lK (ai 90 (.inr rfl) rfl qA (dd rfl)) ?_;refine lK (ai 91 (.inr rfl) rfl qA (dd rfl)) True.intro
      ·intro s hs
       have:s=0∨s=1∨s=3∨s=6:=by simpa using hs
       rcases this with rfl | rfl | rfl | rfl
       ·exact rfl
       ·exact rfl
       ·exact rfl
       ·exact rfl
      ·intro f w' hk hv
       have g8:(iw (rpR (lgN lg) r.toNat ss tt main)).holds (f 8) w':=hv 8 qC;have g9:f 9=.bool (rpR (lgN lg) r.toNat ss tt main).isSome:=hv 9 qC;have h9:Hid (PR=rpR (lgN lg) r.toNat ss tt main):=hid eE.out;clear hv eE;generalize rpR (lgN lg) r.toNat ss tt main=oR at*;obtain⟨p6,n6,c6,e6⟩:=g8.1;have G8:=hid g8;clear g8;rw[e6] at G8;have x8:=hid (fun (h:(iw oR).holds (.slice p6 n6 c6) w') (k:aa w w')=>aH.ofRow h k);generalize oR.isSome=ok at*;simp only[aN,Act.put,za,zb,zc,e6,g9];clear g9;go_wp2_with fail;refine bodyPost_ret (v:=.tuple #[.slice p6 n6 c6,.bool ok]) (by simp[results,Tryz.results106,go_sem]) rfl ?_;rw[h9.out];exact x8.out G8.out ((k1.trans kd).trans hk)
end
section
open Go.RowKit
theorem At.lit2q (w:World) (u v:Value) (T:TypeId):At (w.alloc (.cells #[u,v] T)) (some ⟨w.heap.size,0,none⟩) [u,v]:=fun j hj=>by
 have:j=0∨j=1:=by simp at hj;omega
 rcases this with rfl | rfl
 ·exact⟨_,0,rfl,qD⟩
 ·exact⟨_,0,rfl,qD⟩
theorem DR {α:Type} {c:Prop} [Decidable c] {a b:Option α} {x:α} {P:Prop} (h:(if c then a else b)=some x) (ha:a=some x→P) (hb:b=some x→P):P:=by
 by_cases hc:c
 ·rw[if_pos hc] at h;exact ha h
 ·rw[if_neg hc] at h;exact hb h
theorem Ev {L r:Nat} {ss tt:List ByteArray} {main:ByteArray} {ps:List SqT} (h:bM L r ss tt main=some ps):ps.length≤2:=by
 unfold bM at h
 repeat' first | (cases h;done) | (cases h;simp;done) | (refine DR h ?_ ?_<;>intro h)
open scoped Classical in
theorem tN (s:ByteArray) (w:World):Calls Tryz.prog 62 #[.string s] w fun e w'=>e=.returned (.bool (decide (s∈aT)))∧aa w w':=by
 have HS:Hid (au (w.alloc (.cells #[.string ⟨#[75]⟩,.string ⟨#[68]⟩,.string ⟨#[84]⟩,.string ⟨#[75,52]⟩,.string ⟨#[83,52]⟩,.string ⟨#[71,76]⟩,.string ⟨#[83,53]⟩] 9)) (.slice (some ⟨w.heap.size,0,none⟩) 7 7) aT):=hid (au.lit (w:=w) aT (by simp[aT]));have HC:=hid (lV aT s _ _ HS.out);have kA:=(aa.refl w).alloc (.cells #[.string ⟨#[75]⟩,.string ⟨#[68]⟩,.string ⟨#[84]⟩,.string ⟨#[75,52]⟩,.string ⟨#[83,52]⟩,.string ⟨#[71,76]⟩,.string ⟨#[83,53]⟩] 9);go_enter Tryz.func62,Tryz.ntmps62;go_wp2_with fail;refine HC.out.mono ?_;rintro e w3 ⟨rfl,rfl⟩;go_wp2_with fail;go_ret;exact⟨rfl,kA⟩
section
variable {md:Region.Mode} {ops:Array Oper} {Q:Exit→Act→World→Prop} {nt:Nat} {ins:List Nat} {kd:Nat→Kq} {w0:World} {o:Oper}
theorem u4:aG 60:=fun _ _=>by kernel_rfl
theorem DS (B s:Nat) (x:List ByteArray) (ho:o.op=.call { callee:=.value (.func 60),args:=#[.tmp s],argTypes:=#[27] }) (hg:o.guard=none) (h:az md ops ins o s=true) (hs:kd s=.strs x) (hB:B≤w0.heap.size) (hk:∀ d,o.dst=some d→kd d=.ows B x):StQ md ops Q nt ins kd w0 o:=
 dV 60 _ _ ho u4 hg (fun a w1 k1 hv=>by
  have g1:=hv s h;rw[hs] at g1;have g1:aj w1 (a.eval (.tmp s)) x:=g1;rw[wu];refine(rC x _ w1 g1.1).mono ?_;rintro e w2 ⟨v3,rfl,h3,k3⟩
  exact⟨_,rfl,k3,fun d hd=>by rw[hk d hd];exact h3.mono (zx hB k1.size)⟩)
end
def Hf (w:World) (x y:List ByteArray) (e:Ending) (w':World):Prop:=∃ a b,e=.returned (.agg #[a,b])∧aA w' w.heap.size a x∧aA w' w.heap.size b y∧aa w w'
def Kw (B:Nat) (x y:List ByteArray) (s:Nat):Kq:=
 if s=1∨s=3 then .val (.pointer (some ⟨B,0,none⟩)) else if s=6 then .val (.pointer (some ⟨B,1,none⟩)) else if s=2 then .val (.pointer (some ⟨B+1,0,none⟩)) else if s=4 then .strs x else if s=7 then .strs y else if s=5 then .ows B x else if s=8 then .ows B y else if s=9 then .oq B x y else .any
theorem pZ (x y:List ByteArray) (a b:Value) (w:World) (ha:aj w a x) (hb:aj w b y):Calls Tryz.prog 23 #[.agg #[a,b]] w (Hf w x y):=by
 obtain⟨p,n,c,rfl⟩:=ha.sh;obtain⟨q,m,d,rfl⟩:=hb.sh;have k1:=(aa.refl w).alloc (.cells #[.slice p n c,.slice q m d] 29);have b1:=aR.made w 29 [.slice p n c,.slice q m d] qD qD
 have x7:(w.alloc (.cells #[.slice p n c,.slice q m d] 29)).heap.size=w.heap.size+1:=by simp
 have k2:=(aa.refl (w.alloc (.cells #[.slice p n c,.slice q m d] 29))).alloc (.cells #[.slice none 0 0,.slice none 0 0] 29);have b2:=aR.made (w.alloc (.cells #[.slice p n c,.slice q m d] 29)) 29 [.slice none 0 0,.slice none 0 0] qD qD;rw[x7] at b2;have K2:=k1.trans k2;have h9:=hid (b1.keeps k2);have x8:=hid b2;have HA:=hid (ha.keeps K2);have HC:=hid (hb.keeps K2);clear ha hb b1 b2 k1 k2 x7;go_enter Tryz.func23,Tryz.ntmps23
 go_upto_region 1 with fail
 generalize (w.alloc (.cells #[.slice p n c,.slice q m d] 29)).alloc (.cells #[.slice none 0 0,.slice none 0 0] 29)=w1 at*;have kd:=(aa.refl w1).drew;have c0:=(h9.out.keeps kd).cell 0 qD;have c1:=(h9.out.keeps kd).cell 1 qD;simp only[zj,zl] at c0 c1;have h0:=HA.out.keeps kd;have h1:=HC.out.keeps kd;have x6:w.heap.size≤w1.drew.heap.size:=(K2.trans kd).size
 refine lh (M:=7) (L:=8) (nt:=10) (ins:=[1,2]) (ds0:=[3,4,5,6,7,8,9]) (ds:=[3,4,5,6,7,8,9]) qA qA (fun s v w'=>(Kw w.heap.size x y s).holds v w') (fun _ _ _ _ h hv=>Kq.keeps h hv)
  (fun _ _ w'=>∃ x' y',aR w' (w.heap.size+1) 29 [x',y']∧aA w' w.heap.size x' x∧aA w' w.heap.size y' y∧aa w w') ?_ qA rfl ?_ ?_
 ·refine stF qC (aD 1 (.pointer (some ⟨w.heap.size,0,none⟩)) (.pointer (some ⟨w.heap.size,0,none⟩)) rfl qA rfl (fun a w1 h1=>by unfold execOp;simp only[h1,Sem.run_bind,aM w.heap.size];rfl) (dd rfl)) ?_
  refine stF qC (aJ 3 _ _ _ rfl rfl qA rfl c0 h0 (dd rfl)) ?_;refine stF qC (DS w.heap.size 4 x rfl rfl qA rfl x6 (dd rfl)) ?_;refine stF qC (aD 1 (.pointer (some ⟨w.heap.size,0,none⟩)) (.pointer (some ⟨w.heap.size,1,none⟩)) rfl qA rfl (fun a w1 h1=>by unfold execOp;simp only[h1,Sem.run_bind,aL w.heap.size];rfl) (dd rfl)) ?_;refine stF qC (aJ 6 _ _ _ rfl rfl qA rfl c1 h1 (dd rfl)) ?_;refine stF qC (DS w.heap.size 7 y rfl rfl qA rfl x6 (dd rfl)) ?_;refine stF qC (Bq w.heap.size 5 8 x y rfl rfl qA qA rfl rfl (dd rfl)) ?_;refine stH ?_ True.intro;intro a w2 K H8 j1 H7 x9 hK;have g2:a.eval (.tmp 2)=.pointer (some ⟨w.heap.size+1,0,none⟩):=H7 2 qC
  have g9:∃ x' y',a.eval (.tmp 9)=.agg #[x',y']∧aA w2 w.heap.size x' x∧aA w2 w.heap.size y' y:=x9 9 qC
  obtain⟨x',y',e9,hx,hy⟩:=g9;obtain⟨px,nx,cx,rfl⟩:=hx.sh;obtain⟨py,ny,cy,rfl⟩:=hy.sh;have eE:=(x8.out.keeps kd).keeps j1;have b3:=eE.set 0 (.slice px nx cx);have b4:=b3.set 1 (.slice py ny cy);unfold Oper.wp execOp;simp only[g2,e9,Sem.run_bind,kT (w.heap.size+1) _ _ px py nx cx ny cy w2 eE,Result.andThen_ok]
  show K (a.put none undef) _
  refine hK undef _ ⟨_,_,b4,iU (iU hx eE qC) b3 qC,iU (iU hy eE qC) b3 qC,?_⟩;exact(((K2.trans kd).trans j1).setCell (p:=⟨w.heap.size+1,0,none⟩) (by show w.heap.size≤w.heap.size+1;omega) _).setCell (p:=⟨w.heap.size+1,1,none⟩) (by show w.heap.size≤w.heap.size+1;omega) _
 ·intro s hs
  have:s=1∨s=2:=by simpa using hs
  rcases this with rfl | rfl<;>rfl
 ·intro f w' hF
  obtain⟨x',y',eE,hx,hy,kk⟩:=hF;have y0:=eE.cell 0 qD;have y1:=eE.cell 1 qD;simp only[zj,zl] at y0 y1;have HR:Hid (Hf w x y (.returned (.agg #[x',y'])) w'):=hid ⟨_,_,rfl,hx,hy,kk⟩;obtain⟨px,nx,cx,rfl⟩:=hx.sh;obtain⟨py,ny,cy,rfl⟩:=hy.sh;clear eE hx hy kk;simp only[aN,Act.put,za,zb,zc];go_wp2_with fail;refine bodyPost_ret (v:=.agg #[.slice px nx cx,.slice py ny cy]) (by simp[results,Tryz.results23,go_sem,y0,y1]) rfl HR.out
end
section
open Go.RowKit
structure StT where
 rule:Int
 pr:List Int
 l:List ByteArray
 r:List ByteArray
 main:ByteArray
def FD (w:World) (f:Nat→Value) (x:StT):Prop:=f 0=.int .i64 x.rule∧(aV w (f 1) x.pr∧∃ p n c,f 1=.slice p n c)∧aj w (f 2) x.l∧aj w (f 3) x.r∧f 4=.string x.main
theorem FD.stays:Dc FD:=fun _ _ _ _ k h=>⟨h.1,⟨h.2.1.1.keeps k,h.2.1.2⟩,h.2.2.1.keeps k,h.2.2.2.1.keeps k,h.2.2.2.2⟩
def StL (w:World) (v:Value) (xs:List StT):Prop:=SlC 5 FD w v xs
theorem StL.keeps {w w':World} {v:Value} {xs:List StT} (h:StL w v xs) (k:aa w w'):StL w' v xs:=SlC.keeps FD.stays h k
theorem StL.shape {w:World} {v:Value} {xs:List StT} (h:StL w v xs):∃ p cap,v=.slice p xs.length cap∧xs.length≤cap∧cap≤maxLen∧xs.length≤2147483648:=by
 obtain⟨p,cap,hv,h1,h2,h3,_⟩:=h;exact⟨p,cap,hv,h1,h2,h3⟩
theorem StL.get {w:World} {p:Option Addr} {n cap:Nat} {xs:List StT} (h:StL w (.slice p n cap) xs) (i:Nat) (hi:i<xs.length):
  ∃ b off p1 n1 c1 p2 n2 c2 p3 n3 c3,p=some ⟨b,off,none⟩∧(w.cell? ⟨b,off+i*5,none⟩=some (.int .i64 xs[i].rule)∧w.cell? ⟨b,off+i*5+1,none⟩=some (.slice p1 n1 c1)∧w.cell? ⟨b,off+i*5+2,none⟩=some (.slice p2 n2 c2)∧w.cell? ⟨b,off+i*5+3,none⟩=some (.slice p3 n3 c3)∧w.cell? ⟨b,off+i*5+4,none⟩=some (.string xs[i].main))∧
   aV w (.slice p1 n1 c1) xs[i].pr∧aj w (.slice p2 n2 c2) xs[i].l∧aj w (.slice p3 n3 c3) xs[i].r:=by
 obtain⟨p',cap',hv,h1,h2,h3,h4⟩:=h
 cases hv
 obtain⟨b,off,f,hp,hc,e0,⟨x6,p1,n1,c1,e1⟩,eE,h9,e4⟩:=h4 i hi;obtain⟨p2,n2,c2,e2⟩:=eE.sh;obtain⟨p3,n3,c3,e3⟩:=h9.sh;have a0:=hc 0 qB;have a1:=hc 1 qB;have a2:=hc 2 qB;have a3:=hc 3 qB;have a4:=hc 4 qB;rw[e0] at a0;rw[e1] at a1 x6;rw[e2] at a2 eE;rw[e3] at a3 h9;rw[e4] at a4;exact⟨b,off,p1,n1,c1,p2,n2,c2,p3,n3,c3,hp,⟨a0,a1,a2,a3,a4⟩,x6,eE,h9⟩
structure StB (w:World) (r:Nat) (x:StT) (p l q:Value):Prop where
 box:aR w r 47 [.int .i64 x.rule,p,l,q,.string x.main]
 pr:aV w p x.pr
 sl:aj w l x.l
 sr:aj w q x.r
theorem StB.keeps {w w':World} {r:Nat} {x:StT} {p l q:Value} (h:StB w r x p l q) (k:aa w w'):StB w' r x p l q:=⟨h.box.keeps k,h.pr.keeps k,h.sl.keeps k,h.sr.keeps k⟩
theorem StB.cells {w:World} {r:Nat} {x:StT} {p l q:Value} (h:StB w r x p l q):w.cell? ⟨r,0,none⟩=some (.int .i64 x.rule)∧w.cell? ⟨r,1,none⟩=some p∧w.cell? ⟨r,2,none⟩=some l∧w.cell? ⟨r,3,none⟩=some q∧w.cell? ⟨r,4,none⟩=some (.string x.main):=
 ⟨h.box.cell 0 qD,h.box.cell 1 qD,h.box.cell 2 qD,h.box.cell 3 qD,h.box.cell 4 qD⟩
theorem StB.made (w:World) (x:StT) (p l q:Value) (hp:aV w p x.pr) (hl:aj w l x.l) (hr:aj w q x.r):StB (w.alloc (.cells #[.int .i64 x.rule,p,l,q,.string x.main] 47)) w.heap.size x p l q:=by
 have k:=(aa.refl w).alloc (.cells #[.int .i64 x.rule,p,l,q,.string x.main] 47);exact⟨aR.made w 47 [.int .i64 x.rule,p,l,q,.string x.main] qD qD,hp.keeps k,hl.keeps k,hr.keeps k⟩
theorem aV.int {w:World} {p:Option Addr} {n cap:Nat} {a:List Int} (h:aV w (.slice p n cap) a) (i:Nat) (hi:i<a.length):∃ b off,p=some ⟨b,off,none⟩∧w.cell? ⟨b,off+i,none⟩=some (.int .i64 a[i]):=by
 obtain⟨p',c',hv,_,_,eE,_⟩:=h
 cases hv
 exact eE.int i hi
theorem aV.sh5 {w:World} {v:Value} {a:List Int} (h:aV w v a):∃ p c,v=.slice p a.length c∧a.length≤2147483648:=by
 obtain⟨p,c,e,_,_,_,h2⟩:=h;exact⟨p,c,e,h2⟩
theorem kOn {md:Region.Mode} {ops:Array Oper} {Q:Exit→Act→World→Prop} {nt:Nat} {ins:List Nat} {kd:Nat→Kq} {w0:World} {o:Oper} (j d0:Nat) (b:Bool) (hg:o.guard=some (j,b)) (hj:(ops[j]?).bind (·.dst)=some d0) (x9:d0<nt) (h0:az md ops ins o d0=true) (x7:kd d0=.val (.bool b))
  (h:StQ md ops Q nt ins kd w0 { o with guard:=none }):StQ md ops Q nt ins kd w0 o:=fun a w K x8 hJ h9 eE hK=>by
 have x6:=dv h0 h9 eE;change (kd d0).holds _ w at x6;rw[x7] at x6;have x6:a.eval (.tmp d0)=.bool b:=x6
 have hw:Region.wanted o (yielded ops a.tmps)=true:=by
  unfold Region.wanted;rw[hg];simp only[ph hj qB x6]
  cases b<;>rfl
 have h2:=h a w K x8 hJ h9 eE hK;rw[if_pos (by simp[Region.wanted])] at h2;rw[hw,if_pos rfl];exact h2
theorem BA (r:Int) (p q s:Option Addr) (n c m d k e:Nat) (u:ByteArray) (w:World):
  Calls Tryz.prog 109 #[.agg #[.int .i64 r,.slice p n c,.slice q m d,.slice s k e,.string u]] w fun x w'=>x=.returned (.agg #[.slice q m d,.slice s k e])∧aa w w':=by
 have kA:=(aa.refl w).alloc (.cells #[.int .i64 r,.slice p n c,.slice q m d,.slice s k e,.string u] 47);go_enter Tryz.func109,Tryz.ntmps109;go_wp2_with fail;refine bodyPost_ret (v:=.agg #[.slice q m d,.slice s k e]) (by simp[results,Tryz.results109,go_sem]) rfl ⟨rfl,?_⟩;exact kA.alloc _
theorem ia (r:Int) (p q s:Option Addr) (n c m d k e:Nat) (u:ByteArray) (w:World):
  Calls Tryz.prog 24 #[.agg #[.int .i64 r,.slice p n c,.slice q m d,.slice s k e,.string u]] w fun x w'=>x=.returned (.agg #[.slice q m d,.slice s k e])∧aa w w':=by
 have kA:=(aa.refl w).alloc (.cells #[.int .i64 r,.slice p n c,.slice q m d,.slice s k e,.string u] 47);go_enter Tryz.func24,Tryz.ntmps24;go_wp2_with fail;refine bodyPost_ret (v:=.agg #[.slice q m d,.slice s k e]) (by simp[results,Tryz.results24,go_sem]) rfl ⟨rfl,?_⟩;exact kA.alloc _
open scoped Classical in
theorem mK (ss tt:List ByteArray) (v u:Value) (w:World) (hv:au w v ss) (hu:au w u tt):
  Calls Tryz.prog 150 #[v,u] w fun e w'=>e=.returned (.bool (decide (ss=tt)))∧aa w w':=by
 have HV:=hid (fun wz (k:aa w wz)=>hv.keeps k);have HU:=hid (fun wz (k:aa w wz)=>hu.keeps k);obtain⟨p,c,rfl,_,H8,_⟩:=hv.shape;obtain⟨q,d,rfl,_,x9,_⟩:=hu.shape;unfold maxLen at H8 x9;clear hv hu;have h9:=hid (fun (h:ss.length=tt.length) (h2:∀ j (h1:j<ss.length) (h2:j<tt.length),ss[j]=tt[j])=>show decide (ss=tt)=true from decide_eq_true (List.ext_getElem h h2))
 have x6:=hid (fun (j:Nat) (h1:j<ss.length) (h2:j<tt.length) (e:(ss[j].toList==tt[j].toList)=false)=>show decide (ss=tt)=false from decide_eq_false (fun h=>by
  subst h
  simp at e))
 have x7:=hid (fun (h:ss.length≠tt.length)=>show decide (ss=tt)=false from decide_eq_false (fun e=>h (by rw[e])));generalize decide (ss=tt)=b at*;go_enter Tryz.func150,Tryz.ntmps150
 by_cases hl:ss.length=tt.length
 ·have hl':(ss.length:Int)=tt.length:=qB
  have HL:=hid hl
  obtain⟨n,hn⟩:∃ n,n=tt.length:=⟨_,rfl⟩
  rw[hl,←hn];have HN:=hid hn;clear hl hl' hn x7;go_wp2_with fail
  go_loopw [5] (fun i' wr=>∃ i:Nat,i≤n∧i'=.int .i64 i∧(∀ j (h1:j<ss.length) (h2:j<tt.length),j<i→ss[j]=tt[j])∧aa w wr) (fun i' _=>n-(intOf i').toNat)
  case atStart=>exact⟨0,qB,rfl,fun j _ _ h=>by omega,aa.refl _⟩
  case round=>
   obtain⟨i,hi,rfl,eE,kw⟩:=hrel;have HA:=hid eE;clear eE
   by_cases H9:i<n
   ·have x8:(i:Int)<n:=qB
    have h1:i<ss.length:=by have:=HL.out;have:=HN.out;omega
    have h2:i<tt.length:=by have:=HN.out;omega
    obtain⟨b1,o1,e1,z1⟩:=(HV.out wr kw).get i h1
    cases e1
    obtain⟨b2,o2,e2,z2⟩:=(HU.out wr kw).get i h2
    cases e2
    have HX:=hid (x6.out i h1 h2)
    have HY:Hid ((ss[i].toList==tt[i].toList)=true→∀ j (h1:j<ss.length) (h2:j<tt.length),j<i+1→ss[j]=tt[j]):=hid (fun h j h1 h2 hj=>by
     by_cases e:j=i
     ·subst e
      rw[dT,decide_eq_true_eq] at h;exact da h
     ·exact HA.out j h1 h2 qB)
    generalize ss[i]=x at*;generalize tt[i]=y at*
    cases he:(x.toList==y.toList)
    ·rw[he] at HX
     have hb:=HX.out rfl;have HB:=hid hb;clear hb HX HY;go_wp2_with fail
     go_quiet (fail)
     go_wp2_with fail;go_ret;exact⟨ab HB.out.symm,kw.drewN _⟩
    ·rw[he] at HY
     have H7:=hid (HY.out rfl);clear HX HY;go_wp2_with fail
     go_quiet (fail)
     go_wp2_with fail;go_roundw
     case rel=>exact⟨i+1,qB,by go_num,H7.out,kw.drewN _⟩
     case measure=>simp[intOf];omega
   ·obtain rfl:i=n:=qB
    have x8:¬((i:Int)<i):=qB;have hb:=h9.out HL.out (fun j h1 h2=>HA.out j h1 h2 (by have:=HN.out;omega));have HB:=hid hb;clear hb h9 x6;go_wp2_with fail;go_ret;exact⟨ab HB.out.symm,kw⟩
 ·have hb:=x7.out hl
  have HB:=hid hb
  have hl':((ss.length:Int) != tt.length)=true:=by simp;omega
  clear hb hl h9 x6 x7;go_wp2_with fail;go_ret;exact⟨ab HB.out.symm,aa.refl _⟩
theorem uA:∀ (l:List (List UInt8)) (x:List UInt8),x∉l→(gS l x).length=l.length+1
 | [],x,_=>rfl
 | y::l,x,h=>by
  have h1:y≠x:=fun e=>h (by rw[e];simp)
  have ih:=uA l x (fun hm=>h (zw _ hm));unfold gS
  split
  ·simp only[zh];omega
  ·simp
theorem Cf {ss:List ByteArray} {s:ByteArray} (h:s∉ss):(ae ss s).length=ss.length+1:=by
 unfold ae;rw[List.length_map,uA _ _ (fun hm=>h (wv.1 hm)),List.length_map]
theorem Cg {ss:List ByteArray} {s:ByteArray} (ha:Asc (ss.map bts)) (h:s∈ss):ae ss s=ss:=
 lj (iK s ha) ha fun u=>by
  rw[gZ];exact⟨fun h2=>by rcases h2 with h2 | rfl;exact h2;exact h,.inl⟩
theorem Ga (ss:List ByteArray) (s:ByteArray):ss.length≤(ae ss s).length:=by
 have:=(rT (ss.map bts) (bts s)).2.1;unfold ae;rw[List.length_map]
 simpa using this
theorem BO:∀ (P X:List ByteArray),X.length≤(bU X P).length
 | [],_X=>zm _
 | p::P,X=>zx (Ga X p) (BO P (ae X p))
theorem nQ:∀ (P X:List ByteArray),Asc (X.map bts)→((bU X P).length=X.length↔∀ u∈P,u∈X)
 | [],X,_=>⟨fun _ u hu=>(by simp at hu),fun _=>rfl⟩
 | p :: P,X,ha=>by
  show(bU (ae X p) P).length=X.length↔_
  by_cases hp:p∈X
  ·rw[Cg ha hp,nQ P X ha]
   exact⟨fun h u hu=>by rcases List.mem_cons.1 hu with rfl | hu;exact hp;exact h u hu,fun h u hu=>h u (zw _ hu)⟩
  ·constructor
   ·intro h
    have h1:=Cf hp;have h2:=BO P (ae X p);omega
   ·intro h
    exact absurd (h p qD) hp
def ja (P X:List ByteArray):Bool:=P.all fun u=>inS X u
theorem tl {P X:List ByteArray}:ja P X=true↔∀ u∈P,u∈X:=by
 unfold ja;rw[zt];exact⟨fun h u hu=>dU.1 (h u hu),fun h u hu=>dU.2 (h u hu)⟩
theorem yZ {P X:List ByteArray} (ha:Asc (X.map bts)):decide ((bU X P).length=X.length)=ja P X:=by
 rw[Bool.eq_iff_iff,decide_eq_true_eq,tl,nQ P X ha]
instance:Inhabited StT:=⟨⟨0,[],[],[],⟨#[]⟩⟩⟩
def jU (steps:List StT) (i:Int):StT:=steps.getD i.toNat default
def ej (steps:List StT) (i:Int):SqT:=((jU steps i).l,(jU steps i).r)
open scoped Classical in
noncomputable def ob (L:Nat) (steps:List StT) (x:StT):Bool:=
 if x.rule=13 then decide (x.pr.length=1)&&decide (x.main=⟨#[]⟩)&&(ja (jU steps (x.pr.getD 0 0)).l x.l&&ja (jU steps (x.pr.getD 0 0)).r x.r)
 else match bM L x.rule.toNat x.l x.r x.main with
  | none=>false
  | some ps=>decide (ps=x.pr.map (ej steps))
noncomputable def iF (L:Nat) (steps:List StT) (k:Nat) (x:StT):Bool:=isQ x.l x.r&&(x.pr.all (fun i=>inR i 0 ((k:Int)-1))&&ob L steps x)
noncomputable def dK (L:Nat) (steps:List StT):List StT→Nat→Int
 | [],_=>-1
 | x::l,k=>if iF L steps k x=true then dK L steps l (k+1) else (k:Int)
theorem nV (L:Nat) (steps:List StT) (k:Nat) (h:k<steps.length):dK L steps (steps.drop k) k=if iF L steps k steps[k]=true then dK L steps (steps.drop (k+1)) (k+1) else (k:Int):=by
 rw[List.drop_eq_getElem_cons h];rfl
theorem xq (L:Nat) (steps:List StT) (k:Nat) (h:steps.length≤k):dK L steps (steps.drop k) k = -1:=by
 rw[List.drop_eq_nil_of_le h];rfl
def jH (steps:List StT):Prop:=∀ x∈steps,Mid x.l∧Mid x.r∧x.main.size≤10000000
theorem i6 {steps:List StT} {i:Int} (_h0:0≤i) (h1:i.toNat<steps.length):jU steps i=steps[i.toNat]:=by
 unfold jU;rw[zi,zn h1];rfl
theorem rD {L:Nat} {steps:List StT} {k:Nat} {x:StT} (h:iF L steps k x=true):isQ x.l x.r=true:=by
 unfold iF at h;rw[zk] at h;exact h.1
noncomputable def stE (lg:ByteArray) (steps:List StT):Int:=
 if @decide (lg∈aT) (Classical.propDecidable _)=true then (if steps.length=0∨60<steps.length then 3 else if 0≤dK (lgN lg) steps steps 0 then 5 else 0) else 2
theorem AY {L:Nat} {steps:List StT}:∀ (l:List StT) (k:Nat),dK L steps l k = -1→∀ i (h:i<l.length),iF L steps (k+i) (l[i]'h)=true
 | [],_,_,i,h=>absurd h qD
 | x :: l,k,hb,i,h=>by
  unfold dK at hb
  by_cases hc:iF L steps k x=true
  ·rw[if_pos hc] at hb
   match i,h with
   | 0,_=>exact hc
   | i+1,h=>
    have ih:=AY l (k+1) hb i (by simpa using h);rw[show k+(i+1)=k+1+i by omega];exact ih
  ·rw[if_neg hc] at hb
   omega
theorem Bb {P X:List ByteArray} (h:∀ u∈P,u∈X):∀ x∈fmL P,x∈fmL X:=fun x hx=>by
 obtain⟨s,hs,e⟩:=cS.1 hx;exact cS.2 ⟨s,h s hs,e⟩
theorem yJ {lg:ByteArray} {steps:List StT} (h:dK (lgN lg) steps steps 0 = -1) (k:Nat):∀ (hk:k<steps.length),isQ (steps[k]'hk).l (steps[k]'hk).r=true∧mtB lg (steps[k]'hk).l (steps[k]'hk).r=true:=by
 induction k using Nat.strongRecOn with
 | ind k ih=>
  intro hk;have hc:=AY steps 0 h k hk;rw[Nat.zero_add] at hc;have hq:=rD hc;refine⟨hq,?_⟩;generalize hx:steps[k]'hk=x at*;unfold iF at hc;rw[zk,zk,zt] at hc;obtain⟨-,x8,hf⟩:=hc
  have h9:∀ i∈x.pr,isQ (jU steps i).l (jU steps i).r=true∧mtB lg (jU steps i).l (jU steps i).r=true:=fun i hi=>by
   have h1:=x8 i hi
   have x6:0≤i∧i.toNat<k:=by
    unfold inR at h1;simp only[decide_eq_true_eq] at h1;omega
   rw[i6 x6.1 qB];exact ih _ x6.2 qB
  unfold ob at hf
  by_cases eE:x.rule=13
  ·rw[if_pos eE,zk,zk,zk] at hf
   obtain⟨⟨hl,_⟩,x9,H7⟩:=hf;have H8:=of_decide_eq_true hl
   have hm:x.pr.getD 0 0∈x.pr:=by
    rw[zi,zn qB];exact zo _
   obtain⟨q1,q2⟩:=h9 _ hm;exact(sH hq lg).2 (Fp (Bb (tl.1 x9)) (Bb (tl.1 H7)) ((sH q1 lg).1 q2))
  ·rw[if_neg eE] at hf
   cases hp:bM (lgN lg) x.rule.toNat x.l x.r x.main with
   | none=>rw[hp] at hf;cases hf
   | some ps=>
    rw[hp] at hf;have he:=of_decide_eq_true hf
    refine Gp hq hp fun p x7=>?_
    rw[he] at x7;obtain⟨i,hi,rfl⟩:=List.mem_map.1 x7;exact h9 i hi
theorem tX (ss tt:List ByteArray) (v u:Value) (w:World) (hv:au w v ss) (hu:au w u tt) (hl:ss.length+tt.length≤1000000):
  Calls Tryz.prog 99 #[v,u] w (xi w w.heap.size (bU ss tt)):=by
 have HC:=hid (eX ss v w hv qB);have HU:=hid hu;obtain⟨p,c,rfl,_⟩:=hv.shape;obtain⟨q,c2,rfl,H9,H7,_⟩:=hu.shape;unfold maxLen at H7;clear hv hu;go_enter Tryz.func99,Tryz.ntmps99;go_wp2_with fail;refine HC.out.mono ?_;rintro e w2 ⟨b,n,c3,rfl,x8,k2⟩;have x6:=hid x8;clear x8;have HT:Hid (bU ss (tt.take tt.length)=bU ss tt):=hid (by rw[List.take_length]);go_wp2
 go_loopw [5,6] (fun o i' wr=>∃ (i:Nat) (b':Addr) (n' c':Nat),i≤tt.length∧i'=.int .i64 i∧o=.slice (some b') n' c'∧aA wr w.heap.size (.slice (some b') n' c') (bU ss (tt.take i))∧(bU ss (tt.take i)).length≤ss.length+i∧aa w wr) (fun _ i' _=>tt.length-(intOf i').toNat)
 case atStart=>exact⟨0,b,n,c3,qB,rfl,rfl,by simpa [bU] using x6.out,by simp[bU],k2⟩
 case round=>
  obtain⟨i,b',n',c',hi,rfl,rfl,eE,x9,kw⟩:=hrel;clear x6;have HO:=hid eE;clear eE
  by_cases x7:i<tt.length
  ·have h9:(i:Int)<tt.length:=qB
   obtain⟨b1,o1,rfl,h1⟩:=(HU.out.keeps kw).get i x7
   have HN:Hid (bU ss (tt.take (i+1))=ae (bU ss (tt.take i)) tt[i]):=hid (by
    unfold bU;rw[zq x7,List.foldl_append]
    rfl)
   generalize bU ss (tt.take i)=r at*;obtain⟨g,cg,eg⟩:=HO.out.blk qD
   obtain⟨e1,e2,e3⟩:b'=⟨g,0,none⟩∧n'=r.length∧c'=cg:=by injection eg with h1 h2 h3;exact⟨Option.some.inj h1,h2,h3⟩
   subst e1;have HI:=hid (fu r g 0 n' c' tt[i] w.heap.size wr HO.out qB kw.size);have KP:=(aX r tt[i]).1;clear eg e2 e3;generalize ae r tt[i]=r2 at*;generalize tt[i]=x at*;go_wp2_with fail;refine HI.out.mono ?_;rintro e w3 ⟨b4,n4,c4,rfl,H8,k4⟩;go_wp2_with fail;go_roundw
   case rel=>exact⟨i+1,b4,n4,c4,qB,by go_num,rfl,by rw[HN.out];exact H8,by rw[HN.out];omega,kw.trans k4⟩
   case measure=>simp[intOf];omega
  ·obtain rfl:i=tt.length:=qB
   have h9:¬((tt.length:Int)<tt.length):=qB;have h:=HO.out;rw[HT.out] at h;go_wp2;go_ret;exact⟨_,_,_,rfl,h,kw⟩
end
end Go.Proofs.YtagoboblkadelaaGreat
