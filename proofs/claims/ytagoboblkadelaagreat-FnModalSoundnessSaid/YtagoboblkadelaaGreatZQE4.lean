import Derived.Test.YtagoboblkadelaaGreatZR
import Derived.Test.YtagoboblkadelaaGreatZK8
import Derived.Test.YtagoboblkadelaaGreatZRK
import Derived.Test.YtagoboblkadelaaGreatZHF
/- own -/
namespace Go.Proofs.YtagoboblkadelaaGreat
set_option maxRecDepth 100000
set_option maxHeartbeats 4000000
section
open Go.RowKit
theorem zM (s t:ByteArray) (b:Nat) (w:World) (hc:w.cell? ⟨b,0,none⟩=some (.string t)):
  Calls Tryz.prog 221 #[.string s,.pointer (some ⟨b,0,none⟩)] w fun e w'=>e=.returned (.bool (s.toList==t.toList))∧w=w':=by
 go_enter Tryz.func221,Tryz.ntmps221;go_wp2;go_ret;exact⟨rfl,rfl⟩
end
section
open Go.RowKit
theorem al.push {a b c:World} {S:Nat→Prop} {row:Option Nat} (h:al a b S) (g:b.grownBy c row) (hr:∀ k,row=some k→a.heap.size≤k∨S k):al a c S:=
 ⟨g.os.trans h.os,g.tape.trans h.tape,g.output.trans h.output,zx h.size g.size,fun i hi hs=>
  (g.block i (zv hi h.size) (fun e=>by rcases hr i e.symm with h1 | h1;omega;exact hs h1)).trans (h.block i hi hs)⟩
def aR (w:World) (r:Nat) (T:TypeId) (cs:List Value):Prop:=w.ownsRow r T cs.length (.slice (some ⟨r,0,none⟩) 1 1) 1 cs
section
variable {w w':World} {r:Nat} {T:TypeId} {cs:List Value}
theorem aR.cell (h:aR w r T cs) (i:Nat) (hi:i<cs.length):w.cell? ⟨r,i,none⟩=some cs[i]:=by
 rw[World.ownsRow.cellAt h i qB];exact zn hi
theorem aR.froz (h:aR w r T cs) (i:Nat):w.frozen? ⟨r,i,none⟩=false:=World.ownsRow.frozenAt h i
theorem aR.lt (h:aR w r T cs):r<w.heap.size:=(World.ownsRow.lt h r rfl).2
theorem aR.set (h:aR w r T cs) (i:Nat) (x:Value):aR (w.setCell ⟨r,i,none⟩ x) r T (cs.set i x):=by
 have:=(World.ownsRow.stored h i x).1;unfold aR;rw[List.length_set];exact this
theorem aR.grown (h:aR w r T cs) (i:Nat) (x:Value):w.grownBy (w.setCell ⟨r,i,none⟩ x) (some r):=(World.ownsRow.stored h i x).2
theorem aR.keeps (h:aR w r T cs) (k:aa w w'):aR w' r T cs:=bw h k
theorem aR.made (w:World) (T:TypeId) (cs:List Value) (_h0:0<cs.length) (_h1:cs.length≤1000):aR (w.alloc (.cells cs.toArray T)) w.heap.size T cs:=by
 have h:=World.ownsRow_lit (base:=w.heap.size) (e:=T) (size:=cs.length) w cs.toArray 1 (zm _) (by unfold maxLen;omega) qD
 simpa [aR] using h
theorem iU {B s m:Nat} {T':TypeId} {u:Value} {ds:List Value} {i:Nat} {x:Value} (ho:w.ownsRow B T' s u m ds) (h:aR w r T cs) (t:T≠T'):(w.setCell ⟨r,i,none⟩ x).ownsRow B T' s u m ds:=
 aZ ho (al.grown (h.grown i x)) (fun j e hi=>by
  have:j=r:=by simpa using hi
  subst this
  exact cE h ho t rfl e)
end
end
section
open Go.RowKit
def PlT (w:World) (v:Value):Prop:=∀ a n c,v=.slice (some a) n c→a.spot=none∧cw w a.block 9
def aj (w:World) (v:Value) (l:List ByteArray):Prop:=au w v l∧PlT w v
theorem PlT.keeps {w w':World} {v:Value} (h:PlT w v) (k:aa w w'):PlT w' v:=fun a n c e=>⟨(h a n c e).1,(h a n c e).2.keeps k⟩
theorem aj.keeps {w w':World} {v:Value} {l:List ByteArray} (h:aj w v l) (k:aa w w'):aj w' v l:=⟨h.1.keeps k,h.2.keeps k⟩
theorem PlT.set {w:World} {v:Value} (h:PlT w v) (a:Addr) (u:Value):PlT (w.setCell a u) v:=fun p n c e=>⟨(h p n c e).1,(h p n c e).2.set a u⟩
theorem aA.strsP {w:World} {B:Nat} {v:Value} {a:List ByteArray} (h:aA w B v a) (hl:a.length≤2147483648):aj w v a:=⟨h.strs hl,fun a n c e=>⟨by
 rcases h.2 with ⟨rfl,_⟩ | ⟨g,cap,cur,rfl,_⟩
 ·cases e
 ·cases e;rfl,cw.own h a n c e⟩⟩
theorem au.sh {w:World} {v:Value} {ss:List ByteArray} (h:au w v ss):∃ p n c,v=.slice p n c:=by
 obtain⟨p,c,e,_⟩:=h.shape;exact⟨p,_,c,e⟩
theorem aj.sh {w:World} {v:Value} {ss:List ByteArray} (h:aj w v ss):∃ p n c,v=.slice p n c:=h.1.sh
theorem au.lit1P (w:World) (s:ByteArray):aj (w.alloc (.cells #[.string s] 9)) (.slice (some ⟨w.heap.size,0,none⟩) 1 1) [s]:=⟨au.lit1 w s,fun a n c e=>by cases e;exact⟨rfl,cw.alloc w _ _⟩⟩
abbrev SqT:=List ByteArray×List ByteArray
def SqL (w:World) (v:Value) (ps:List SqT):Prop:=SlC 2 (fun w f (x:SqT)=>(aj w (f 0) x.1∧∃ p n c,f 0=.slice p n c)∧(aj w (f 1) x.2∧∃ p n c,f 1=.slice p n c)) w v ps∧(0<ps.length→TyV w v 29)
theorem SqL.keeps {w w':World} {v:Value} {ps:List SqT} (h:SqL w v ps) (k:aa w w'):SqL w' v ps:=
 ⟨SlC.keeps (R:=fun w f (x:SqT)=>(aj w (f 0) x.1∧∃ p n c,f 0=.slice p n c)∧(aj w (f 1) x.2∧∃ p n c,f 1=.slice p n c)) (fun _ _ _ _ k h=>⟨⟨h.1.1.keeps k,h.1.2⟩,⟨h.2.1.keeps k,h.2.2⟩⟩) h.1 k,fun h0=>(h.2 h0).keeps k⟩
theorem SqL.shape {w:World} {v:Value} {ps:List SqT} (h:SqL w v ps):∃ p cap,v=.slice p ps.length cap∧ps.length≤cap∧cap≤maxLen∧ps.length≤2147483648:=by
 obtain⟨⟨p,cap,hv,h1,h2,h3,_⟩,_⟩:=h;exact⟨p,cap,hv,h1,h2,h3⟩
theorem SqL.get {w:World} {p:Option Addr} {n cap:Nat} {ps:List SqT} (h:SqL w (.slice p n cap) ps) (i:Nat) (hi:i<ps.length):
  ∃ b off p1 n1 c1 p2 n2 c2,p=some ⟨b,off,none⟩∧w.cell? ⟨b,off+i*2,none⟩=some (.slice p1 n1 c1)∧w.cell? ⟨b,off+i*2+1,none⟩=some (.slice p2 n2 c2)∧aj w (.slice p1 n1 c1) ps[i].1∧aj w (.slice p2 n2 c2) ps[i].2:=by
 obtain⟨⟨p',cap',hv,h1,h2,h3,h4⟩,_⟩:=h
 cases hv
 obtain⟨b,off,f,hp,hc,⟨eE,p1,n1,c1,e1⟩,⟨h9,p2,n2,c2,e2⟩⟩:=h4 i hi;have a:=hc 0 qB;have b':=hc 1 qB;rw[e1] at a eE;rw[e2] at b' h9;exact⟨b,off,p1,n1,c1,p2,n2,c2,hp,a,b',eE,h9⟩
def cV:List (Value×Value)→List Value
 | []=>[]
 | x::l=>x.1::x.2::cV l
theorem SqL.lit (w:World) (us:List (Value×Value)) (ps:List SqT) (hl:ps.length=us.length) (hm:ps.length≤4) (h:∀ i (h1:i<us.length) (h2:i<ps.length),aj w us[i].1 ps[i].1∧aj w us[i].2 ps[i].2):
  SqL (w.alloc (.cells (cV us).toArray 29)) (.slice (some ⟨w.heap.size,0,none⟩) us.length us.length) ps:=by
 have k:=(aa.refl w).alloc (.cells (cV us).toArray 29)
 have hg:∀ (us:List (Value×Value)) (i:Nat) (hi:i<us.length),(cV us)[i*2]? = some us[i].1∧(cV us)[i*2+1]? = some us[i].2:=by
  intro us
  induction us with
  | nil=>intro i hi;simp at hi
  | cons x l ih=>
   intro i hi
   cases i with
   | zero=>simp[cV]
   | succ i=>
    have:=ih i (by simpa using hi);rw[show(i+1)*2=i*2+1+1 by omega,show i*2+1+1+1=(i*2+1)+1+1 by omega]
    simpa [cV] using this
 refine⟨⟨_,us.length,by rw[hl],qB,by unfold maxLen;omega,qB,fun i hi=>?_⟩,fun _ a n c e=>by cases e;exact cw.alloc _ _ _⟩;have hi':i<us.length:=qB;obtain⟨g1,g2⟩:=hg us i hi';obtain⟨r1,r2⟩:=h i hi' hi;refine⟨w.heap.size,0,fun c=>if c=0 then us[i].1 else us[i].2,rfl,fun c hc=>?_,⟨by simpa using r1.keeps k,by simpa using r1.sh⟩,⟨by simpa using r2.keeps k,by simpa using r2.sh⟩⟩;have eE:c=0∨c=1:=qB
 rcases eE with rfl | rfl
 ·rw[cell_of_row _ w.heap.size (0+i*2+0) (cV us).toArray 29 (0,0) (heap_alloc_new w _)]
  simp[g1]
 ·rw[cell_of_row _ w.heap.size (0+i*2+1) (cV us).toArray 29 (0,0) (heap_alloc_new w _)]
  simp[g2]
def SdL (w:World) (v:Value) (xs:List (List ByteArray)):Prop:=SlC 1 (fun w f (x:List ByteArray)=>aj w (f 0) x) w v xs
theorem SdL.keeps {w w':World} {v:Value} {xs:List (List ByteArray)} (h:SdL w v xs) (k:aa w w'):SdL w' v xs:=
 SlC.keeps (R:=fun w f (x:List ByteArray)=>aj w (f 0) x) (fun _ _ _ _ k h=>h.keeps k) h k
theorem SdL.shape {w:World} {v:Value} {xs:List (List ByteArray)} (h:SdL w v xs):∃ p cap,v=.slice p xs.length cap∧xs.length≤cap∧cap≤maxLen∧xs.length≤2147483648:=by
 obtain⟨p,cap,hv,h1,h2,h3,_⟩:=h;exact⟨p,cap,hv,h1,h2,h3⟩
theorem SdL.get {w:World} {p:Option Addr} {n cap:Nat} {xs:List (List ByteArray)} (h:SdL w (.slice p n cap) xs) (i:Nat) (hi:i<xs.length):
  ∃ b off p1 n1 c1,p=some ⟨b,off,none⟩∧w.cell? ⟨b,off+i,none⟩=some (.slice p1 n1 c1)∧aj w (.slice p1 n1 c1) xs[i]:=by
 obtain⟨p',cap',hv,h1,h2,h3,h4⟩:=h
 cases hv
 obtain⟨b,off,f,hp,hc,hr⟩:=h4 i hi;obtain⟨p1,n1,c1,e⟩:=hr.sh;have a:=hc 0 qB;rw[e] at a hr;exact⟨b,off,p1,n1,c1,hp,by simpa using a,hr⟩
theorem SdL.lit (w:World) (us:List Value) (xs:List (List ByteArray)) (hl:xs.length=us.length) (hm:xs.length≤4) (h:∀ i (h1:i<us.length) (h2:i<xs.length),aj w us[i] xs[i]):
  SdL (w.alloc (.cells us.toArray 27)) (.slice (some ⟨w.heap.size,0,none⟩) us.length us.length) xs:=
 SlC.lit (R:=fun w f (x:List ByteArray)=>aj w (f 0) x) (fun _ _ _ _ k h=>h.keeps k) w 27 us xs hl qB h
inductive Kq where
 | val (v:Value) | strs (l:List ByteArray) | sq (x y:List ByteArray) | sqs (ps:List SqT) | sds (xs:List (List ByteArray)) | nd (t:Fm) | any | ows (B:Nat) (l:List ByteArray) | oq (B:Nat) (x y:List ByteArray) | orow (B:Nat) (x y:List ByteArray) | pr (p:Value→World→Prop) (h:∀ v w w',aa w w'→p v w→p v w')
def Kq.holds:Kq→Value→World→Prop
 | .val u,v,_=>v=u
 | .strs l,v,w=>aj w v l
 | .sq x y,v,w=>∃ a b,v=.agg #[a,b]∧aj w a x∧aj w b y
 | .sqs ps,v,w=>SqL w v ps
 | .sds xs,v,w=>SdL w v xs
 | .nd t,v,w=>Nds w v t.enc
 | .any,_,_=>True
 | .ows B l,v,w=>aA w B v l
 | .oq B x y,v,w=>∃ a b,v=.agg #[a,b]∧aA w B a x∧aA w B b y
 | .orow B x y,v,w=>∃ p a b,v=.slice p 1 1∧At w p [a,b]∧aA w B a x∧aA w B b y
 | .pr p _,v,w=>p v w
theorem Kq.keeps {w w':World} (h:aa w w'):∀ {k:Kq} {v:Value},k.holds v w→k.holds v w'
 | .val _,_,hv=>hv
 | .any,_,hv=>hv
 | .strs _,_,hv=>aj.keeps hv h
 | .sqs _,_,hv=>SqL.keeps hv h
 | .sds _,_,hv=>SdL.keeps hv h
 | .nd _,_,hv=>Nds.keeps hv h
 | .ows _ _,_,hv=>aA.keeps hv h
 | .pr _ g,_,hv=>g _ _ _ h hv
 | .oq _ _ _,_,⟨a,b,e,h1,h2⟩=>⟨a,b,e,h1.keeps h,h2.keeps h⟩
 | .orow _ _ _,_,⟨p,a,b,e,h0,h1,h2⟩=>⟨p,a,b,e,h0.keeps h,h1.keeps h,h2.keeps h⟩
 | .sq _ _,_,⟨a,b,e,h1,h2⟩=>⟨a,b,e,h1.keeps h,h2.keeps h⟩
def az (md:Region.Mode) (ops:Array Oper) (ins:List Nat) (o:Oper) (s:Nat):Bool:=ins.contains s||(List.range ops.size).any fun j=>fX md o j&&fe ops j s
section
variable {md:Region.Mode} {ops:Array Oper} {Q:Exit→Act→World→Prop} {nt:Nat} {ins:List Nat} {kd:Nat→Kq} {w0:World} {o:Oper}
def StQ (md:Region.Mode) (ops:Array Oper) (Q:Exit→Act→World→Prop) (nt:Nat) (ins:List Nat) (kd:Nat→Kq) (w0:World) (o:Oper):Prop:=cB Tryz.prog md ops Q nt ins (fun s v w=>(kd s).holds v w) w0 o
theorem dv {s:Nat} (h:az md ops ins o s=true) {V:Nat→Value→World→Prop} {a:Act} {w:World} (h9:∀ s,ins.contains s=true→V s (a.eval (.tmp s)) w) (eE:∀ j d,fX md o j=true→fe ops j d=true→V d (a.eval (.tmp d)) w):V s (a.eval (.tmp s)) w:=by
 unfold az at h;rw[Bool.or_eq_true,List.any_eq_true] at h
 rcases h with h | ⟨j,_,h⟩
 ·exact h9 s h
 ·rw[zk] at h
  exact eE j s h.1 h.2
theorem ai (s:Nat) (ho:o.op=.move (.tmp s)∨o.op=.assign (.tmp s)) (hg:o.guard=none) (h:az md ops ins o s=true) (hk:∀ d,o.dst=some d→kd d=kd s):StQ md ops Q nt ins kd w0 o:=
 cB.plain hg fun a w K x6 hJ h9 eE hK=>by
  have hv:=dv h h9 eE;have:=hK (a.eval (.tmp s)) w (aa.refl w) (fun d hd=>by show(kd d).holds _ w;rw[hk d hd];exact hv);unfold Oper.wp execOp
  rcases ho with ho | ho
  ·rw[ho];exact this
  ·rw[ho];exact this
theorem ik (v:Value) (ho:o.op=.move (.const v)∨o.op=.assign (.const v)) (hg:o.guard=none) (hk:∀ d,o.dst=some d→kd d=.val v):StQ md ops Q nt ins kd w0 o:=
 cB.plain hg fun a w K x6 hJ h9 eE hK=>by
  have:=hK v w (aa.refl w) (fun d hd=>by show(kd d).holds _ w;rw[hk d hd];exact rfl);unfold Oper.wp execOp
  rcases ho with ho | ho
  ·rw[ho];exact this
  ·rw[ho];exact this
theorem aD (s:Nat) (u v:Value) (hg:o.guard=none) (h:az md ops ins o s=true) (hs:kd s=.val u) (x6:∀ (a:Act) w,a.eval (.tmp s)=u→(execOp a.eval o).run Tryz.prog w=.ok (.value v) w) (hk:∀ d,o.dst=some d→kd d=.val v):StQ md ops Q nt ins kd w0 o:=
 cB.plain hg fun a w K x7 hJ h9 eE hK=>by
  have hv:=dv h h9 eE;change (kd s).holds _ w at hv;rw[hs] at hv;unfold Oper.wp;rw[x6 a w hv];exact hK _ _ (aa.refl w) (fun d hd=>by show(kd d).holds _ w;rw[hk d hd];exact rfl)
theorem aJ (s:Nat) (ad:Addr) (v:Value) (l:List ByteArray) (ho:o.op=.load 27 (.tmp s)) (hg:o.guard=none) (h:az md ops ins o s=true) (hs:kd s=.val (.pointer (some ad))) (hc:w0.cell? ad=some v) (hl:aj w0 v l) (hk:∀ d,o.dst=some d→kd d=.strs l):StQ md ops Q nt ins kd w0 o:=
 cB.plain hg fun a w K x7 hJ h9 eE hK=>by
  have hv:=dv h h9 eE;change (kd s).holds _ w at hv;rw[hs] at hv;have hv:a.eval (.tmp s)=.pointer (some ad):=hv;have hc':=hJ.cell hc;obtain⟨p,n,c,rfl⟩:=hl.sh
  have x6:(Instr.loadAt 27 (.pointer (some ad))).run Tryz.prog w=.ok (.slice p n c) w:=by simp[Instr.loadAt,go_sem,hc']
  unfold Oper.wp execOp;simp only[ho,hv,Sem.run_bind,x6,Result.andThen_ok,Sem.run_pure];exact hK _ _ (aa.refl w) (fun d hd=>by show(kd d).holds _ w;rw[hk d hd];exact hl.keeps hJ)
theorem r7 (s:Nat) (ad:Addr) (x:ByteArray) (ho:o.op=.load 9 (.tmp s)) (hg:o.guard=none) (h:az md ops ins o s=true) (hs:kd s=.val (.pointer (some ad))) (hc:w0.cell? ad=some (.string x)) (hk:∀ d,o.dst=some d→kd d=.val (.string x)):StQ md ops Q nt ins kd w0 o:=
 cB.plain hg fun a w K x7 hJ h9 eE hK=>by
  have hv:=dv h h9 eE;change (kd s).holds _ w at hv;rw[hs] at hv;have hv:a.eval (.tmp s)=.pointer (some ad):=hv;have hc':=hJ.cell hc
  have x6:(Instr.loadAt 9 (.pointer (some ad))).run Tryz.prog w=.ok (.string x) w:=by simp[Instr.loadAt,go_sem,hc']
  unfold Oper.wp execOp;simp only[ho,hv,Sem.run_bind,x6,Result.andThen_ok,Sem.run_pure];exact hK _ _ (aa.refl w) (fun d hd=>by show(kd d).holds _ w;rw[hk d hd];exact rfl)
end
end
section
open Go.RowKit
section
variable {md:Region.Mode} {ops:Array Oper} {Q:Exit→Act→World→Prop} {nt:Nat} {ins:List Nat} {kd:Nat→Kq} {w0:World} {o:Oper}
theorem dV (f:FuncId) (args:Array Operand) (ats:Array TypeId) (ho:o.op=.call { callee:=.value (.func f),args:=args,argTypes:=ats }) (hE:aG f) (hg:o.guard=none)
  (hc:∀ (a:Act) w,aa w0 w→(∀ s,az md ops ins o s=true→(kd s).holds (a.eval (.tmp s)) w)→Calls Tryz.prog f (args.map a.eval) w fun e w'=>∃ v,e=.returned v∧aa w w'∧∀ d,o.dst=some d→(kd d).holds v w'):StQ md ops Q nt ins kd w0 o:=
 cB.plain hg fun a w K x6 hJ h9 eE hK=>by
  refine je f args ats ho hE _ rfl ((hc a w hJ (fun s h=>dv h (V:=fun s v w=>(kd s).holds v w) h9 eE)).mono ?_);rintro e w' ⟨v,rfl,hk,hd⟩;exact⟨v,rfl,hK v w' hk hd⟩
theorem EJ (p q:Option Addr) (n c m d:Nat) (w:World):(Instr.build 29 #[(0,.slice p n c),(1,.slice q m d)]).run Tryz.prog w=.ok (.agg #[.slice p n c,.slice q m d]) w:=by
 kernel_rfl
theorem eP (s s':Nat) (x y:List ByteArray) (ho:o.op=.build 29 #[(0,.tmp s),(1,.tmp s')]) (hg:o.guard=none) (h:az md ops ins o s=true) (h':az md ops ins o s'=true) (hs:kd s=.strs x) (hs':kd s'=.strs y) (hk:∀ d,o.dst=some d→kd d=.sq x y):StQ md ops Q nt ins kd w0 o:=
 cB.plain hg fun a w K x6 hJ h9 eE hK=>by
  have hv:=dv h h9 eE;have hv':=dv h' h9 eE;change (kd s).holds _ w at hv;change (kd s').holds _ w at hv';rw[hs] at hv;rw[hs'] at hv';have hv:aj w (a.eval (.tmp s)) x:=hv;have hv':aj w (a.eval (.tmp s')) y:=hv';obtain⟨p,n,c,e3⟩:=hv.sh;obtain⟨q,m,d,e4⟩:=hv'.sh;rw[e3] at hv;rw[e4] at hv';unfold Oper.wp execOp
  have e2:(#[(0,Operand.tmp s),(1,Operand.tmp s')]:Array (Nat×Operand)).map (fun (i,x)=>(i,a.eval x))=#[(0,.slice p n c),(1,.slice q m d)]:=by simp[e3,e4]
  simp only[ho];rw[e2];simp only[Sem.run_bind,EJ,Result.andThen_ok,Sem.run_pure];exact hK _ _ (aa.refl w) (fun d hd=>by show(kd d).holds _ w;rw[hk d hd];exact⟨_,_,rfl,hv,hv'⟩)
theorem EP (s:ByteArray) (w:World):(Instr.buildSlice 27 1 #[(0,.string s)]).run Tryz.prog w=.ok (.slice (some ⟨w.heap.size,0,none⟩) 1 1) (w.alloc (.cells #[.string s] 9)):=qA
theorem qh (s:Nat) (x:ByteArray) (ho:o.op=.buildSlice 27 1 #[(0,.tmp s)]) (hg:o.guard=none) (h:az md ops ins o s=true) (hs:kd s=.val (.string x)) (hk:∀ d,o.dst=some d→kd d=.strs [x]):StQ md ops Q nt ins kd w0 o:=
 cB.plain hg fun a w K x6 hJ h9 eE hK=>by
  have hv:=dv h h9 eE;change (kd s).holds _ w at hv;rw[hs] at hv;have hv:a.eval (.tmp s)=.string x:=hv;unfold Oper.wp execOp
  have e2:(#[(0,Operand.tmp s)]:Array (Nat×Operand)).map (fun (i,x)=>(i,a.eval x))=#[(0,.string x)]:=by simp[hv]
  simp only[ho];rw[e2];simp only[Sem.run_bind,EP,Result.andThen_ok,Sem.run_pure];exact hK _ _ ((aa.refl w).alloc _) (fun d hd=>by show(kd d).holds _ _;rw[hk d hd];exact au.lit1P w x)
theorem uI (p q:Option Addr) (n c m d:Nat) (w:World):(Instr.buildSlice 109 1 #[(0,.agg #[.slice p n c,.slice q m d])]).run Tryz.prog w=.ok (.slice (some ⟨w.heap.size,0,none⟩) 1 1) (w.alloc (.cells #[.slice p n c,.slice q m d] 29)):=qA
theorem CL (p q p' q':Option Addr) (n c m d n' c' m' d':Nat) (w:World):(Instr.buildSlice 109 2 #[(0,.agg #[.slice p n c,.slice q m d]),(1,.agg #[.slice p' n' c',.slice q' m' d'])]).run Tryz.prog w=.ok (.slice (some ⟨w.heap.size,0,none⟩) 2 2) (w.alloc (.cells #[.slice p n c,.slice q m d,.slice p' n' c',.slice q' m' d'] 29)):=qA
theorem sc (s:Nat) (x y:List ByteArray) (ho:o.op=.buildSlice 109 1 #[(0,.tmp s)]) (hg:o.guard=none) (h:az md ops ins o s=true) (hs:kd s=.sq x y) (hk:∀ d,o.dst=some d→kd d=.sqs [(x,y)]):StQ md ops Q nt ins kd w0 o:=
 cB.plain hg fun a w K x6 hJ h9 eE hK=>by
  have hv:=dv h h9 eE;change (kd s).holds _ w at hv;rw[hs] at hv;obtain⟨u,v,e,hu,hv⟩:=hv;obtain⟨p,n,c,rfl⟩:=hu.sh;obtain⟨q,m,d,rfl⟩:=hv.sh;unfold Oper.wp execOp
  have e2:(#[(0,Operand.tmp s)]:Array (Nat×Operand)).map (fun (i,x)=>(i,a.eval x))=#[(0,.agg #[.slice p n c,.slice q m d])]:=by simp[e]
  simp only[ho];rw[e2];simp only[Sem.run_bind,uI,Result.andThen_ok,Sem.run_pure]
  exact hK _ _ ((aa.refl w).alloc _) (fun d' hd=>by
   show(kd d').holds _ _
   rw[hk d' hd]
   exact SqL.lit w [(.slice p n c,.slice q m d)] [(x,y)] rfl qD (fun i h1 h2=>by
    obtain rfl:i=0:=by simp at h1;omega
    exact⟨hu,hv⟩))
theorem Bv (s s':Nat) (x y x' y':List ByteArray) (ho:o.op=.buildSlice 109 2 #[(0,.tmp s),(1,.tmp s')]) (hg:o.guard=none) (h:az md ops ins o s=true) (h':az md ops ins o s'=true) (hs:kd s=.sq x y) (hs':kd s'=.sq x' y') (hk:∀ d,o.dst=some d→kd d=.sqs [(x,y),(x',y')]):StQ md ops Q nt ins kd w0 o:=
 cB.plain hg fun a w K x7 hJ h9 eE hK=>by
  have hv:=dv h h9 eE;have x6:=dv h' h9 eE;change (kd s).holds _ w at hv;change (kd s').holds _ w at x6;rw[hs] at hv;rw[hs'] at x6;obtain⟨u,v,e,hu,hv⟩:=hv;obtain⟨u',v',e',hu',hv'⟩:=x6;obtain⟨p,n,c,rfl⟩:=hu.sh;obtain⟨q,m,d,rfl⟩:=hv.sh;obtain⟨p',n',c',rfl⟩:=hu'.sh;obtain⟨q',m',d',rfl⟩:=hv'.sh;unfold Oper.wp execOp
  have e2:(#[(0,Operand.tmp s),(1,Operand.tmp s')]:Array (Nat×Operand)).map (fun (i,x)=>(i,a.eval x))=#[(0,.agg #[.slice p n c,.slice q m d]),(1,.agg #[.slice p' n' c',.slice q' m' d'])]:=by simp[e,e']
  simp only[ho];rw[e2];simp only[Sem.run_bind,CL,Result.andThen_ok,Sem.run_pure]
  exact hK _ _ ((aa.refl w).alloc _) (fun d1 hd=>by
   show(kd d1).holds _ _
   rw[hk d1 hd]
   exact SqL.lit w [(.slice p n c,.slice q m d),(.slice p' n' c',.slice q' m' d')] [(x,y),(x',y')] rfl qD (fun i h1 h2=>by
    simp at h1
    have hi:i=0∨i=1:=qB
    rcases hi with rfl | rfl
    ·exact⟨hu,hv⟩
    ·exact⟨hu',hv'⟩))
theorem CJ (p q:Option Addr) (n c m d:Nat) (w:World):(Instr.buildSlice 190 2 #[(0,.slice p n c),(1,.slice q m d)]).run Tryz.prog w=.ok (.slice (some ⟨w.heap.size,0,none⟩) 2 2) (w.alloc (.cells #[.slice p n c,.slice q m d] 27)):=qA
theorem CK (p q p' q':Option Addr) (n c m d n' c' m' d':Nat) (w:World):(Instr.buildSlice 190 4 #[(0,.slice p n c),(1,.slice q m d),(2,.slice p' n' c'),(3,.slice q' m' d')]).run Tryz.prog w=.ok (.slice (some ⟨w.heap.size,0,none⟩) 4 4) (w.alloc (.cells #[.slice p n c,.slice q m d,.slice p' n' c',.slice q' m' d'] 27)):=qA
theorem lq (s s':Nat) (x y:List ByteArray) (ho:o.op=.buildSlice 190 2 #[(0,.tmp s),(1,.tmp s')]) (hg:o.guard=none) (h:az md ops ins o s=true) (h':az md ops ins o s'=true) (hs:kd s=.strs x) (hs':kd s'=.strs y) (hk:∀ d,o.dst=some d→kd d=.sds [x,y]):StQ md ops Q nt ins kd w0 o:=
 cB.plain hg fun a w K x6 hJ h9 eE hK=>by
  have hv:=dv h h9 eE;have hv':=dv h' h9 eE;change (kd s).holds _ w at hv;change (kd s').holds _ w at hv';rw[hs] at hv;rw[hs'] at hv';have hv:aj w (a.eval (.tmp s)) x:=hv;have hv':aj w (a.eval (.tmp s')) y:=hv';obtain⟨p,n,c,e3⟩:=hv.sh;obtain⟨q,m,d,e4⟩:=hv'.sh;rw[e3] at hv;rw[e4] at hv';unfold Oper.wp execOp
  have e2:(#[(0,Operand.tmp s),(1,Operand.tmp s')]:Array (Nat×Operand)).map (fun (i,x)=>(i,a.eval x))=#[(0,.slice p n c),(1,.slice q m d)]:=by simp[e3,e4]
  simp only[ho];rw[e2];simp only[Sem.run_bind,CJ,Result.andThen_ok,Sem.run_pure]
  exact hK _ _ ((aa.refl w).alloc _) (fun d1 hd=>by
   show(kd d1).holds _ _
   rw[hk d1 hd]
   exact SdL.lit w [.slice p n c,.slice q m d] [x,y] rfl qD (fun i h1 h2=>by
    simp at h1
    have hi:i=0∨i=1:=qB
    rcases hi with rfl | rfl
    ·exact hv
    ·exact hv'))
theorem mI (s1 s2 s3 s4:Nat) (x1 x2 x3 x4:List ByteArray) (ho:o.op=.buildSlice 190 4 #[(0,.tmp s1),(1,.tmp s2),(2,.tmp s3),(3,.tmp s4)]) (hg:o.guard=none) (h1:az md ops ins o s1=true) (h2:az md ops ins o s2=true) (h3:az md ops ins o s3=true) (h4:az md ops ins o s4=true)
  (e1:kd s1=.strs x1) (e2:kd s2=.strs x2) (e3:kd s3=.strs x3) (e4:kd s4=.strs x4) (hk:∀ d,o.dst=some d→kd d=.sds [x1,x2,x3,x4]):StQ md ops Q nt ins kd w0 o:=
 cB.plain hg fun a w K x6 hJ h9 eE hK=>by
  have v1:=dv h1 h9 eE;have v2:=dv h2 h9 eE;have v3:=dv h3 h9 eE;have v4:=dv h4 h9 eE;change (kd s1).holds _ w at v1;change (kd s2).holds _ w at v2;change (kd s3).holds _ w at v3;change (kd s4).holds _ w at v4;rw[e1] at v1;rw[e2] at v2;rw[e3] at v3;rw[e4] at v4;have v1:aj w (a.eval (.tmp s1)) x1:=v1;have v2:aj w (a.eval (.tmp s2)) x2:=v2;have v3:aj w (a.eval (.tmp s3)) x3:=v3;have v4:aj w (a.eval (.tmp s4)) x4:=v4;obtain⟨p,n,c,f1⟩:=v1.sh;obtain⟨q,m,d,f2⟩:=v2.sh;obtain⟨p',n',c',f3⟩:=v3.sh;obtain⟨q',m',d',f4⟩:=v4.sh;rw[f1] at v1;rw[f2] at v2;rw[f3] at v3;rw[f4] at v4;unfold Oper.wp execOp
  have e2:(#[(0,Operand.tmp s1),(1,Operand.tmp s2),(2,Operand.tmp s3),(3,Operand.tmp s4)]:Array (Nat×Operand)).map (fun (i,x)=>(i,a.eval x))=#[(0,.slice p n c),(1,.slice q m d),(2,.slice p' n' c'),(3,.slice q' m' d')]:=by simp[f1,f2,f3,f4]
  simp only[ho];rw[e2];simp only[Sem.run_bind,CK,Result.andThen_ok,Sem.run_pure]
  exact hK _ _ ((aa.refl w).alloc _) (fun d1 hd=>by
   show(kd d1).holds _ _
   rw[hk d1 hd]
   exact SdL.lit w [.slice p n c,.slice q m d,.slice p' n' c',.slice q' m' d'] [x1,x2,x3,x4] rfl qD (fun i h1 h2=>by
    simp at h1
    have hi:i=0∨i=1∨i=2∨i=3:=qB
    rcases hi with rfl | rfl | rfl | rfl
    ·exact v1
    ·exact v2
    ·exact v3
    ·exact v4))
theorem ph {j d0:Nat} {b:Bool} {a:Act} (hj:(ops[j]?).bind (·.dst)=some d0) (eE:d0<a.tmps.size) (hv:a.eval (.tmp d0)=.bool b):yielded ops a.tmps j=some b:=by
 unfold yielded;rw[hj]
 have:a.tmps[d0]? = some (.bool b):=by
  rw[Array.getElem?_eq_getElem eE];simp only[Act.eval] at hv
  simpa [eE] using hv
 simp[this]
theorem cJ (j d0:Nat) (b:Bool) (hg:o.guard=some (j,!b)) (hj:(ops[j]?).bind (·.dst)=some d0) (x6:d0<nt) (h:az md ops ins o d0=true) (hs:kd d0=.val (.bool b)) (hk:∀ d,o.dst=some d→kd d=.any):StQ md ops Q nt ins kd w0 o:=fun a w K x7 hJ h9 eE hK=>by
 have hv:=dv h h9 eE;change (kd d0).holds _ w at hv;rw[hs] at hv;have hv:a.eval (.tmp d0)=.bool b:=hv
 have hw:Region.wanted o (yielded ops a.tmps)=false:=by
  unfold Region.wanted;rw[hg];simp only[ph hj qB hv]
  cases b<;>rfl
 rw[hw,if_neg qD];exact hK _ _ (aa.refl w) (fun d hd=>by show(kd d).holds _ w;rw[hk d hd];exact True.intro)
theorem Gd (j d0:Nat) (b:Bool) (s:Nat) (u v:Value) (hg:o.guard=some (j,b)) (hj:(ops[j]?).bind (·.dst)=some d0) (x9:d0<nt) (h0:az md ops ins o d0=true) (x8:kd d0=.val (.bool b))
  (h:az md ops ins o s=true) (hs:kd s=.val u) (x7:∀ (a:Act) w,a.eval (.tmp s)=u→(execOp a.eval o).run Tryz.prog w=.ok (.value v) w) (hk:∀ d,o.dst=some d→kd d=.val v):StQ md ops Q nt ins kd w0 o:=fun a w K H7 hJ h9 eE hK=>by
 have x6:=dv h0 h9 eE;change (kd d0).holds _ w at x6;rw[x8] at x6;have x6:a.eval (.tmp d0)=.bool b:=x6;have hv:=dv h h9 eE;change (kd s).holds _ w at hv;rw[hs] at hv
 have hw:Region.wanted o (yielded ops a.tmps)=true:=by
  unfold Region.wanted;rw[hg];simp only[ph hj qB x6]
  cases b<;>rfl
 rw[hw,if_pos rfl];unfold Oper.wp;rw[x7 a w hv];exact hK _ _ (aa.refl w) (fun d hd=>by show(kd d).holds _ w;rw[hk d hd];exact rfl)
theorem iq (s s':Nat) (c:Operand) (v:Value) (ho:o.op=.pick (.tmp s) (.tmp s') c) (hg:o.guard=none) (h:az md ops ins o s=true) (h':az md ops ins o s'=true) (hs:kd s=.val (.bool true)) (hs':kd s'=.val v) (hk:∀ d,o.dst=some d→kd d=.val v):StQ md ops Q nt ins kd w0 o:=
 cB.plain hg fun a w K x6 hJ h9 eE hK=>by
  have hv:=dv h h9 eE;have hv':=dv h' h9 eE;change (kd s).holds _ w at hv;change (kd s').holds _ w at hv';rw[hs] at hv;rw[hs'] at hv';have hv:a.eval (.tmp s)=.bool true:=hv;have hv':a.eval (.tmp s')=v:=hv';unfold Oper.wp execOp;simp[ho,hv,hv',asBool];exact hK _ _ (aa.refl w) (fun d hd=>by show(kd d).holds _ w;rw[hk d hd];exact rfl)
theorem im (s:Nat) (c:Operand) (v:Value) (ho:o.op=.pick (.tmp s) c (.const v)) (hg:o.guard=none) (h:az md ops ins o s=true) (hs:kd s=.val (.bool false)) (hk:∀ d,o.dst=some d→kd d=.val v):StQ md ops Q nt ins kd w0 o:=
 cB.plain hg fun a w K x6 hJ h9 eE hK=>by
  have hv:=dv h h9 eE;change (kd s).holds _ w at hv;rw[hs] at hv;have hv:a.eval (.tmp s)=.bool false:=hv;unfold Oper.wp execOp;simp[ho,hv,asBool];exact hK _ _ (aa.refl w) (fun d hd=>by show(kd d).holds _ w;rw[hk d hd];exact rfl)
end
end
section
open Go.RowKit
def isM (n:Nat) (x:Int):Bool:=inR x 0 ((2:Int)^n-1)
theorem Eu (n:Nat) (h:n≤62):IntKind.i64.wrap ((2:Int)^n)=2^n∧IntKind.i64.wrap ((2:Int)^n-1)=2^n-1:=by
 have:∀ j:Fin 63,IntKind.i64.wrap ((2:Int)^(j:Nat))=(2:Int)^(j:Nat)∧IntKind.i64.wrap ((2:Int)^(j:Nat)-1)=(2:Int)^(j:Nat)-1:=by decide +kernel
 exact this ⟨n,qB⟩
theorem Aa (n:Nat) (x:Int) (w:World) (hn:n≤8):Calls Tryz.prog 112 #[.int .i64 n,.int .i64 x] w fun e w'=>e=.returned (.bool (isM n x))∧w=w':=by
 have eE:inR (n:Int) 0 30=true:=by simp[inR];omega
 obtain⟨e1,e2⟩:=Eu n qB;have H1:=hid (fun w2=>eU (n:Int) 0 30 w2);have H2:=hid (fun w2=>eU x 0 ((2:Int)^n-1) w2);have hx:isM n x=inR x 0 ((2:Int)^n-1):=rfl;rw[eE] at H1;go_enter Tryz.func112,Tryz.ntmps112;go_wp2_with fail;refine(H1.out _).mono ?_;rintro e w2 ⟨rfl,rfl⟩;go_wp2_with fail;refine(H2.out _).mono ?_;rintro e w2 ⟨rfl,rfl⟩;go_wp2_with fail;go_ret;exact⟨by rw[hx];rfl,rfl⟩
theorem zX (pr:Int→Bool) (f:FuncId) (cp:Array Value) (a:List Int) (v:Value) (w:World) (hv:aV w v a) (x7:aG f)
  (hf:∀ x w1,x∈a→aa w w1→Calls Tryz.prog f (#[.int .i64 x]++cp) w1 fun e w2=>e=.returned (.bool (pr x))∧aa w1 w2):
  Calls Tryz.prog 160 #[v,.func (.func f) #[] cp] w fun e w'=>e=.returned (.int .i64 (idxOf pr a 0))∧aa w w':=by
 have x8:=hv;obtain⟨p,cap,rfl,H9,H8,_,H7⟩:=hv;unfold maxLen at H8;have HF:=hid hf;clear hf
 have x9:∀ args w,(callFunc f args).run Tryz.prog w=.ok (.enter f args) w:=x7
 clear x7;go_enter Tryz.func160,Tryz.ntmps160;go_wp2
 go_loopw [4,8] (fun r i' wr=>∃ k:Nat,k≤a.length∧idxOf pr a 0=idxOf pr (a.drop k) k∧aa w wr∧i'=.int .i64 k∧r=.int .i64 0) (fun _ i _=>a.length-(intOf i).toNat)
 case atStart=>exact⟨0,qB,qD,aa.refl w,rfl,rfl⟩
 case round=>
  obtain⟨k,hk,hs,kw,rfl,rfl⟩:=hrel;have Hs:=hid hs;clear hs
  by_cases eE:k<a.length
  ·have h9:(k:Int)<a.length:=qB
   obtain⟨_,_,e1,_,_,x6,_⟩:=x8.keeps kw
   cases e1
   obtain⟨b,off,rfl,h1⟩:=x6.int k eE;have hd:=hid (ea pr a k eE);clear x8 x6
   cases hp:pr a[k]
   all_goals
    have Hp:=hid hp;clear hp
    go_wp2_with ((with_reducible refine(HF.out a[k] wr (zo eE) kw).mono ?_);rintro e w2 ⟨rfl,k2⟩;rw[Hp.out])
   ·go_roundw
    case rel=>exact⟨k+1,qB,by rw[Hs.out,hd.out,Hp.out];rfl,kw.trans k2,by go_num,rfl⟩
    case measure=>simp[intOf];omega
   ·go_ret
    exact⟨aK (by rw[Hs.out,hd.out,Hp.out];rfl),kw.trans k2⟩
  ·have h9:¬(k:Int)<a.length:=qB
   go_wp2;go_ret;exact⟨aK (by rw[Hs.out,eT _ _ _ qB]),kw⟩
theorem tD (pr:Int→Bool) (f:FuncId) (cp:Array Value) (a:List Int) (v:Value) (w:World) (hv:aV w v a) (eE:aG f)
  (hf:∀ x w1,x∈a→aa w w1→Calls Tryz.prog f (#[.int .i64 x]++cp) w1 fun e w2=>e=.returned (.bool (pr x))∧aa w1 w2):
  Calls Tryz.prog 110 #[v,.func (.func f) #[] cp] w fun e w'=>e=.returned (.bool (a.any pr))∧aa w w':=by
 have H:=hid (zX pr f cp a v w hv eE hf);clear hv hf eE;have he:=hid (fI pr a 0);go_enter Tryz.func110,Tryz.ntmps110
 go_wp2_with (go_at_call 160;refine H.out.mono ?_;rintro e w2 ⟨rfl,k2⟩)
 go_ret;exact⟨ab he.out,k2⟩
theorem iX (a:List Int) (v:Value) (w:World) (hv:aV w v a):Calls Tryz.prog 67 #[v] w fun e w'=>e=.returned (.int .i64 a.length)∧w=w':=by
 obtain⟨p,cap,rfl,x6,h9,_,eE⟩:=hv;unfold maxLen at h9;go_enter Tryz.func67,Tryz.ntmps67;go_wp2;go_ret;exact⟨rfl,rfl⟩
theorem oh (x:Int) (a:List Int) (B:Nat) (v:Value) (w:World) (hv:aV w v a) (hl:a.length≤8) (hc:w.cell? ⟨B,0,none⟩=some v):
  Calls Tryz.prog 111 #[.int .i64 x,.pointer (some ⟨B,0,none⟩)] w fun e w'=>e=.returned (.bool (!isM a.length x))∧aa w w':=by
 have H1:=hid (iX a v w hv);have H2:=hid (Aa a.length x w hl);obtain⟨p,cap,rfl,h9,x6,_,eE⟩:=hv;go_enter Tryz.func111,Tryz.ntmps111;go_wp2_with fail;refine H1.out.mono ?_;rintro e w2 ⟨rfl,rfl⟩;go_wp2_with fail;refine H2.out.mono ?_;rintro e w2 ⟨rfl,rfl⟩;go_wp2_with fail;go_ret;exact⟨rfl,aa.refl _⟩
theorem lO:aG 111:=fun _ _=>by kernel_rfl
theorem rV (a:List Int) (v:Value) (w:World) (hv:aV w v a) (hl:a.length≤8):Calls Tryz.prog 68 #[v] w fun e w'=>e=.returned (.bool (a.all (isM a.length)))∧aa w w':=by
 have kA:=(aa.refl w).alloc (.cells #[v] 35)
 have hc:(w.alloc (.cells #[v] 35)).cell? ⟨w.heap.size,0,none⟩=some v:=by simp
 have eE:=hv.keeps kA;have HC:=hid (tD (fun x=>!isM a.length x) 111 #[.pointer (some ⟨w.heap.size,0,none⟩)] a v (w.alloc (.cells #[v] 35)) eE lO (fun x w1 _ k1=>oh x a w.heap.size v w1 (eE.keeps k1) hl (k1.cell hc)))
 have he:(!(a.any fun x=>!isM a.length x))=a.all (isM a.length):=by rw[List.all_eq_not_any_not]
 have HE:=hid he;clear he;clear hc eE;obtain⟨p,cap,rfl,x6,x7,_,h9⟩:=hv;go_enter Tryz.func68,Tryz.ntmps68;go_wp2_with fail;refine HC.out.mono ?_;rintro e w2 ⟨rfl,k2⟩;go_wp2_with fail;go_ret;exact⟨by rw[HE.out];rfl,kA.trans k2⟩
theorem Fz (a:List Nat) (i x:Nat):zs (a.set i x)=(zs a).set i (x:Int):=by simp[zs,List.map_set]
theorem DH (a:List Nat) (i j x:Nat) (hi:i<a.length):(a.set i x).getD j 0=if i=j then x else a.getD j 0:=by
 by_cases h:i=j
 ·subst h;simp[List.getD_eq_getElem?_getD,hi]
 ·simp[List.getD_eq_getElem?_getD,h]
def Bnd (n:Nat) (a:List Nat):Prop:=∀ i,a.getD i 0<2^n
theorem CZ {n:Nat} {a:List Nat} (h:Bnd n a) (j i:Nat):Bnd n (nS a j i):=by
 unfold nS
 split
 ·intro k
  by_cases hi:i<a.length
  ·rw[DH _ _ _ _ hi]
   split
   ·exact Nat.or_lt_two_pow (h i) (h j)
   ·exact h k
  ·rw[List.set_eq_of_length_le qB];exact h k
 ·exact h
theorem tr {n:Nat} {a:List Nat} (h:Bnd n a) (j:Nat):∀ i,Bnd n (tq a j i)
 | 0=>h
 | i+1=>CZ (tr h j i) j i
theorem tp {n:Nat} {a:List Nat} (h:Bnd n a) (m:Nat):∀ j,Bnd n (nR a m j)
 | 0=>h
 | j+1=>tr (tp h m j) j m
theorem Fv (a:List Nat) (j i:Nat):(tq a j i).length=a.length:=(xa a j i).1.symm
theorem zA (a:List Nat) (m j:Nat):(nR a m j).length=a.length:=(BQ a m j).1.symm
def sU (b:List Nat):Bool:=(List.range b.length).all fun x=>(b.getD x 0).testBit x
def iA (b:List Nat):Bool:=(List.range b.length).all fun x=>inB (img b (b.getD x 0)) (b.getD x 0)
def antiQ (b:List Nat)(x y:Nat):Bool:=!((b.getD x 0).testBit y&&!(x==y)&&(b.getD y 0).testBit x)
def antiB (b:List Nat):Bool:=(List.range b.length).all fun x=>(List.range b.length).all fun y=>antiQ b x y
theorem gE {n:Nat} {P:Nat→Bool} {x:Nat} (hx:x<n) (h:P x=false):(List.range n).all P=false:=by
 rw[Bool.eq_false_iff];intro h2;have:=List.all_eq_true.1 h2 x (by simpa using hx);rw[h] at this;cases this
theorem iD {n:Nat} {P:Nat→Bool} (h:∀ j,j<n→P j=true):(List.range n).all P=true:=by
 rw[zt];intro x hx;exact h x (by simpa using hx)
theorem sI {P:Nat→Bool} {x:Nat} (h:∀ j,j<x→P j=true) (hx:P x=true):∀ j,j<x+1→P j=true:=fun j hj=>by
 by_cases e:j=x
 ·subst e;exact hx
 ·exact h j qB
theorem AZ {n:Nat} {b:List Nat} (h:Bnd n b):∀ x∈b,x<2^n:=fun x hx=>by
 obtain⟨i,hi,rfl⟩:=List.getElem_of_mem hx;rw[←bJ hi];exact h i
theorem mQ {n:Nat} {b:List Nat} (h:∀ x∈b,x<2^n):Bnd n b:=fun i=>vA h i
theorem uT {b:List Nat} {n i j:Nat} (h:Bnd n b) (hb:(b.getD i 0).testBit j=true):j<n:=by
 rcases Nat.lt_or_ge j n with h2 | h2
 ·exact h2
 ·rw[Nat.testBit_lt_two_pow (zv (h i) (Nat.pow_le_pow_right qB h2))] at hb;cases hb
def jf (w:World) (B:Nat) (n:Int) (v:Value):Prop:=w.cell? ⟨B,0,none⟩=some (.int .i64 n)∧w.cell? ⟨B,1,none⟩=some v
theorem jf.made (w:World) (n:Int) (v:Value) (t:TypeId):jf (w.alloc (.cells #[.int .i64 n,v] t)) w.heap.size n v:=by
 constructor<;>simp
end
def jk (b:List Nat) (m:Nat):Nat→Nat
 | 0=>0
 | i+1=>if inB (b.getD i 0) m then jk b m i ||| 2^i else jk b m i
theorem qP (b:List Nat) (m:Nat):∀ i,jk b m i<2^i
 | 0=>by simp[jk]
 | i+1=>by
  have h:=qP b m i;have h2:2^i<2^(i+1):=Nat.pow_lt_pow_right qB qB;unfold jk
  split
  ·exact Nat.or_lt_two_pow qB h2
  ·omega
def ew:Fm→Nat→List Fm
 | t,0=>[t]
 | .var _,_+1=>[]
 | .fls,_+1=>[]
 | .and x y,i+1=>if i<x.enc.length then ew x i++[y] else ew y (i-x.enc.length)
 | .or x y,i+1=>if i<x.enc.length then ew x i++[y] else ew y (i-x.enc.length)
 | .imp x y,i+1=>if i<x.enc.length then ew x i++[y] else ew y (i-x.enc.length)
 | .box x,i+1=>ew x i
 | .dia x,i+1=>ew x i
theorem eA (t:Fm):ew t 0=[t]:=by cases t<;>rfl
theorem eK:∀ t:Fm,ew t t.enc.length=[]
 | .var _=>rfl
 | .fls=>rfl
 | .and x y=>by
  have h:(Fm.and x y).enc.length=(x.enc.length+y.enc.length)+1:=by simp[Fm.enc]
  rw[h,ew,if_neg qB,show x.enc.length+y.enc.length-x.enc.length=y.enc.length by omega];exact eK y
 | .or x y=>by
  have h:(Fm.or x y).enc.length=(x.enc.length+y.enc.length)+1:=by simp[Fm.enc]
  rw[h,ew,if_neg qB,show x.enc.length+y.enc.length-x.enc.length=y.enc.length by omega];exact eK y
 | .imp x y=>by
  have h:(Fm.imp x y).enc.length=(x.enc.length+y.enc.length)+1:=by simp[Fm.enc]
  rw[h,ew,if_neg qB,show x.enc.length+y.enc.length-x.enc.length=y.enc.length by omega];exact eK y
 | .box x=>by
  have h:(Fm.box x).enc.length=x.enc.length+1:=by simp[Fm.enc]
  rw[h,ew];exact eK x
 | .dia x=>by
  have h:(Fm.dia x).enc.length=x.enc.length+1:=by simp[Fm.enc]
  rw[h,ew];exact eK x
def AU (n:Nd) (F G:List Fm):Prop:=
 (n.k=0∧∃ v:Nat,n.s=v∧G=.var v::F)∨(n.k=1∧G=.fls::F)∨(n.k=2∧∃ x y R,F=x::y::R∧G=.and x y::R)∨(n.k=3∧∃ x y R,F=x::y::R∧G=.or x y::R)∨
  (n.k=4∧∃ x y R,F=x::y::R∧G=.imp x y::R)∨(n.k=5∧∃ x R,F=x::R∧G=.box x::R)∨(n.k=6∧∃ x R,F=x::R∧G=.dia x::R)
theorem AU.more {n:Nd} {F G:List Fm} (h:AU n F G) (R:List Fm):AU n (F++R) (G++R):=by
 rcases h with ⟨h,v,e,rfl⟩ | ⟨h,rfl⟩ | ⟨h,x,y,S,rfl,rfl⟩ | ⟨h,x,y,S,rfl,rfl⟩ | ⟨h,x,y,S,rfl,rfl⟩ | ⟨h,x,S,rfl,rfl⟩ | ⟨h,x,S,rfl,rfl⟩
 ·exact .inl ⟨h,v,e,rfl⟩
 ·exact .inr (.inl ⟨h,rfl⟩)
 ·exact .inr (.inr (.inl ⟨h,x,y,S++R,rfl,rfl⟩))
 ·exact .inr (.inr (.inr (.inl ⟨h,x,y,S++R,rfl,rfl⟩)))
 ·exact .inr (.inr (.inr (.inr (.inl ⟨h,x,y,S++R,rfl,rfl⟩))))
 ·exact .inr (.inr (.inr (.inr (.inr (.inl ⟨h,x,S++R,rfl,rfl⟩)))))
 ·exact .inr (.inr (.inr (.inr (.inr (.inr ⟨h,x,S++R,rfl,rfl⟩)))))
theorem dQ:∀ (t:Fm) (i:Nat),i<t.enc.length→AU (t.enc.getD i ⟨0,0⟩) (ew t (i+1)) (ew t i)
 | .var v,i,h=>by
  have:i=0:=by simp[Fm.enc] at h;omega
  subst this;exact .inl ⟨rfl,v,rfl,rfl⟩
 | .fls,i,h=>by
  have:i=0:=by simp[Fm.enc] at h;omega
  subst this;exact .inr (.inl ⟨rfl,rfl⟩)
 | .and x y,i,h=>by
  have hl:(Fm.and x y).enc.length=(x.enc.length+y.enc.length)+1:=by simp[Fm.enc]
  cases i with
  | zero=>
   refine .inr (.inr (.inl (⟨rfl,x,y,[],?_,rfl⟩)));have:=Fm.enc_pos x;rw[ew,if_pos this,eA];rfl
  | succ i=>
   have hb:∀ n,(Fm.and x y).enc.getD (i+1) n=(x.enc++y.enc).getD i n:=fun n=>rfl
   rw[hb,ew,ew]
   by_cases h1:i<x.enc.length
   ·have hg:(x.enc++y.enc).getD i ⟨0,0⟩=x.enc.getD i ⟨0,0⟩:=by simp[List.getD_eq_getElem?_getD,List.getElem?_append_left h1]
    rw[hg,if_pos h1];have ih:=(dQ x i h1).more [y]
    by_cases h2:i+1<x.enc.length
    ·rw[if_pos h2];exact ih
    ·rw[if_neg h2]
     have e:i+1=x.enc.length:=qB;rw[e,eK] at ih;rw[e,Nat.sub_self,eA];exact ih
   ·have hg:(x.enc++y.enc).getD i ⟨0,0⟩=y.enc.getD (i-x.enc.length) ⟨0,0⟩:=by simp[List.getD_eq_getElem?_getD,List.getElem?_append_right (Nat.le_of_not_lt h1)]
    rw[hg,if_neg h1,if_neg qB,show i+1-x.enc.length=(i-x.enc.length)+1 by omega];exact dQ y (i-x.enc.length) qB
 | .or x y,i,h=>by
  have hl:(Fm.or x y).enc.length=(x.enc.length+y.enc.length)+1:=by simp[Fm.enc]
  cases i with
  | zero=>
   refine .inr (.inr (.inr (.inl (⟨rfl,x,y,[],?_,rfl⟩))));have:=Fm.enc_pos x;rw[ew,if_pos this,eA];rfl
  | succ i=>
   have hb:∀ n,(Fm.or x y).enc.getD (i+1) n=(x.enc++y.enc).getD i n:=fun n=>rfl
   rw[hb,ew,ew]
   by_cases h1:i<x.enc.length
   ·have hg:(x.enc++y.enc).getD i ⟨0,0⟩=x.enc.getD i ⟨0,0⟩:=by simp[List.getD_eq_getElem?_getD,List.getElem?_append_left h1]
    rw[hg,if_pos h1];have ih:=(dQ x i h1).more [y]
    by_cases h2:i+1<x.enc.length
    ·rw[if_pos h2];exact ih
    ·rw[if_neg h2]
     have e:i+1=x.enc.length:=qB;rw[e,eK] at ih;rw[e,Nat.sub_self,eA];exact ih
   ·have hg:(x.enc++y.enc).getD i ⟨0,0⟩=y.enc.getD (i-x.enc.length) ⟨0,0⟩:=by simp[List.getD_eq_getElem?_getD,List.getElem?_append_right (Nat.le_of_not_lt h1)]
    rw[hg,if_neg h1,if_neg qB,show i+1-x.enc.length=(i-x.enc.length)+1 by omega];exact dQ y (i-x.enc.length) qB
 | .imp x y,i,h=>by
  have hl:(Fm.imp x y).enc.length=(x.enc.length+y.enc.length)+1:=by simp[Fm.enc]
  cases i with
  | zero=>
   refine .inr (.inr (.inr (.inr (.inl (⟨rfl,x,y,[],?_,rfl⟩)))));have:=Fm.enc_pos x;rw[ew,if_pos this,eA];rfl
  | succ i=>
   have hb:∀ n,(Fm.imp x y).enc.getD (i+1) n=(x.enc++y.enc).getD i n:=fun n=>rfl
   rw[hb,ew,ew]
   by_cases h1:i<x.enc.length
   ·have hg:(x.enc++y.enc).getD i ⟨0,0⟩=x.enc.getD i ⟨0,0⟩:=by simp[List.getD_eq_getElem?_getD,List.getElem?_append_left h1]
    rw[hg,if_pos h1];have ih:=(dQ x i h1).more [y]
    by_cases h2:i+1<x.enc.length
    ·rw[if_pos h2];exact ih
    ·rw[if_neg h2]
     have e:i+1=x.enc.length:=qB;rw[e,eK] at ih;rw[e,Nat.sub_self,eA];exact ih
   ·have hg:(x.enc++y.enc).getD i ⟨0,0⟩=y.enc.getD (i-x.enc.length) ⟨0,0⟩:=by simp[List.getD_eq_getElem?_getD,List.getElem?_append_right (Nat.le_of_not_lt h1)]
    rw[hg,if_neg h1,if_neg qB,show i+1-x.enc.length=(i-x.enc.length)+1 by omega];exact dQ y (i-x.enc.length) qB
 | .box x,i,h=>by
  have hl:(Fm.box x).enc.length=x.enc.length+1:=by simp[Fm.enc]
  cases i with
  | zero=>
   refine .inr (.inr (.inr (.inr (.inr (.inl (⟨rfl,x,[],?_,rfl⟩))))));rw[ew,eA]
  | succ i=>
   have hb:∀ n,(Fm.box x).enc.getD (i+1) n=x.enc.getD i n:=fun n=>rfl
   rw[hb,ew,ew];exact dQ x i qB
 | .dia x,i,h=>by
  have hl:(Fm.dia x).enc.length=x.enc.length+1:=by simp[Fm.enc]
  cases i with
  | zero=>
   refine .inr (.inr (.inr (.inr (.inr (.inr (⟨rfl,x,[],?_,rfl⟩))))));rw[ew,eA]
  | succ i=>
   have hb:∀ n,(Fm.dia x).enc.getD (i+1) n=x.enc.getD i n:=fun n=>rfl
   rw[hb,ew,ew];exact dQ x i qB
section
open Go.RowKit
theorem vP (b:List Nat) (v:Value) (w:World) (hv:aV w v (zs b)) (hb:b.length≤8) (KT:Bnd b.length b):
  Calls Tryz.prog 213 #[.agg #[.int .i64 b.length,v],.int .i64 0] w fun e w'=>e=.returned (.bool (sU b))∧aa w w':=by
 have KP:=hv;obtain⟨p,cap,rfl,K0,KU,x9,H7⟩:=hv;clear x9;unfold maxLen at KU;rw[af] at*;have x6:=qJ hb;have kA:=(aa.refl w).alloc (.cells #[.int .i64 b.length,.slice p b.length cap] 41);have HB:=hid (fun i j w2 (hj:j≤8)=>de (b.getD i 0) j w2 (zv (KT i) x6) hj);have HP:Hid (sU b=(List.range b.length).all (fun x=>(b.getD x 0).testBit x)):=hid rfl
 obtain⟨G,hG⟩:∃ G:Nat→Nat,∀ i,G i=b.getD i 0:=⟨fun i=>b.getD i 0,fun _=>rfl⟩
 simp only[←hG] at HB HP;generalize hn:b.length=n at K0 KU H7 hb kA KP ⊢;generalize hP:(fun x=>(G x).testBit x)=P at HP;have HG:=hid hG;clear hG;have KV:=hid hP;clear hP;have KY:=hid KP;clear KP;have HN:=hid hn;clear hn;clear x6 KT;go_enter Tryz.func213,Tryz.ntmps213;go_wp2_with fail
 go_quiet (fail)
 go_wp2
 go_loopw [4,7] (fun r x' wr=>∃ x:Nat,x≤n∧x'=.int .i64 x∧r=.bool false∧(∀ j,j<x→P j=true)∧aa w wr) (fun _ x' _=>n-(intOf x').toNat)
 case atStart=>exact⟨0,qB,rfl,rfl,fun j h=>by omega,kA.drewN _⟩
 case round=>
  obtain⟨x,hx,rfl,rfl,x7,kw⟩:=hrel;have HA:=hid x7;clear x7
  by_cases H8:x<n
  ·have H9 : (x:Int)<n:=qB
   have eE:∀ (j:Nat) (wq:World),aa w wq→j<n→∃ b1 o1,p=some ⟨b1,o1,none⟩∧wq.cell? ⟨b1,o1+j,none⟩=some (.int .i64 (G j:Nat)):=by
    intro j wq kq hj;obtain⟨_,_,e1,_,_,KZ,_⟩:=KY.out.keeps kq;rw[af,HN.out] at e1
    cases e1
    obtain⟨b1,o1,e,h1⟩:=KZ.int j (by rw[af,HN.out];omega);rw[gu,←bJ,←HG.out] at h1;exact⟨b1,o1,e,h1⟩
   have HR:=hid eE;clear eE;obtain⟨b1,o1,rfl,h1⟩:=HR.out x wr kw H8
   have h9:P x=(G x).testBit x:=by rw[←KV.out]
   have HH:=hid (HB.out x x wr qB);have KW:=hid kw;clear kw
   cases hbit:(G x).testBit x
   ·rw[hbit] at HH h9
    have x8:=hid h9;clear h9;clear hbit;go_wp2_with fail;refine HH.out.mono ?_;rintro e w' ⟨rfl,rfl⟩;go_wp2_with fail;go_ret;refine⟨ab ?_,KW.out⟩;rw[HP.out];exact(gE (x:=x) (by have:=HN.out;omega) x8.out).symm
   ·rw[hbit] at HH h9
    have x8:=hid h9;clear h9;clear hbit;go_wp2_with fail;refine HH.out.mono ?_;rintro e w' ⟨rfl,rfl⟩;go_wp2_with fail;clear HH
    go_loopw [4,8] (fun r y' wr'=>∃ y:Nat,y≤n∧y'=.int .i64 y∧r=.bool false∧aa w wr') (fun _ y' _=>n-(intOf y').toNat)
    case atStart=>exact⟨0,qB,rfl,rfl,KW.out⟩
    case round=>
     obtain⟨y,hy,rfl,rfl,kw⟩:=hrel;clear KW
     by_cases La:y<n
     ·have KR:(y:Int)<n:=qB
      obtain⟨_,_,e,h1⟩:=HR.out x wr kw H8
      cases e
      have HH:=hid (HB.out x y wr qB);have KW:=hid kw;clear kw
      cases hbit:(G x).testBit y
      ·rw[hbit] at HH
       clear hbit;go_wp2_with fail;refine HH.out.mono ?_;rintro e w' ⟨rfl,rfl⟩;go_wp2_with fail;go_roundw
       case rel=>exact⟨y+1,qB,by go_num,rfl,KW.out⟩
       case measure=>simp[intOf];omega
      ·rw[hbit] at HH
       clear hbit;go_wp2_with fail;refine HH.out.mono ?_;rintro e w' ⟨rfl,rfl⟩;go_wp2_with fail
       go_loopw [4,9] (fun r z' wr'=>∃ z:Nat,z≤n∧z'=.int .i64 z∧r=.bool false∧aa w wr') (fun _ z' _=>n-(intOf z').toNat)
       case atStart=>exact⟨0,qB,rfl,rfl,KW.out⟩
       case round=>
        obtain⟨z,hz,rfl,rfl,kw⟩:=hrel;clear KW HH
        by_cases Lb:z<n
        ·have KS:(z:Int)<n:=qB
         obtain⟨_,_,e,h1⟩:=HR.out x wr kw H8
         cases e
         have HH:=hid (HB.out x z wr qB);have KW:=hid kw;clear kw
         cases hbit:(G x).testBit z
         ·rw[hbit] at HH
          clear hbit;go_wp2_with fail;refine HH.out.mono ?_;rintro e w' ⟨rfl,rfl⟩;go_wp2_with fail;go_roundw
          case rel=>exact⟨z+1,qB,by go_num,rfl,KW.out⟩
          case measure=>simp[intOf];omega
         ·rw[hbit] at HH
          clear hbit;go_wp2_with fail;refine HH.out.mono ?_;rintro e w' ⟨rfl,rfl⟩;go_wp2_with fail
          go_quiet (fail)
          go_wp2_with fail;go_roundw
          case rel=>exact⟨z+1,qB,by go_num,rfl,KW.out.drewN _⟩
          case measure=>simp[intOf];omega
        ·obtain rfl:z=n:=qB
         have KS:¬(z:Int)<z:=qB;go_wp2_with fail;go_roundw
         case rel=>exact⟨y+1,qB,by go_num,rfl,kw⟩
         case measure=>simp[intOf];omega
     ·obtain rfl:y=n:=qB
      have KR:¬(y:Int)<y:=qB;go_wp2_with fail;go_roundw
      case rel=>exact⟨x+1,qB,by go_num,rfl,sI HA.out x8.out,kw⟩
      case measure=>simp[intOf];omega
  ·obtain rfl:x=n:=qB
   have H9:¬(x:Int)<x:=qB;go_wp2_with fail;go_ret;refine⟨ab ?_,kw⟩;rw[HP.out];exact(iD (fun j hj=>HA.out j (by have:=HN.out;omega))).symm
theorem mM (b:List Nat) (v:Value) (w:World) (hv:aV w v (zs b)) (hb:b.length≤8) (h9:Bnd b.length b):
  Calls Tryz.prog 213 #[.agg #[.int .i64 b.length,v],.int .i64 2] w fun e w'=>e=.returned (.bool (iA b))∧aa w w':=by
 have H7:=hv;obtain⟨p,cap,rfl,Ld,KZ,KR,KS⟩:=hv;clear KR;unfold maxLen at KZ;rw[af] at*;have x8:=qJ hb;have kA:=(aa.refl w).alloc (.cells #[.int .i64 b.length,.slice p b.length cap] 41);have HB:=hid (fun i j w2 (hj:j≤8)=>de (b.getD i 0) j w2 (zv (h9 i) x8) hj);have HG:=hid (fun i w2 (k:aa w w2)=>vN b (b.getD i 0) _ w2 (H7.keeps k) hb (AZ h9) (h9 i));have HW:=hid (fun i=>xe (img b (b.getD i 0)) (b.getD i 0) (zv (ID (AZ h9) _) qB) (zv (h9 i) qB));have HP:Hid (iA b=(List.range b.length).all (fun x=>inB (img b (b.getD x 0)) (b.getD x 0))):=hid rfl
 obtain⟨G,H9⟩:∃ G:Nat→Nat,∀ i,G i=b.getD i 0:=⟨fun i=>b.getD i 0,fun _=>rfl⟩
 simp only[←H9] at HB HP HG HW
 obtain⟨I,KP⟩:∃ I:Nat→Nat,∀ i,I i=img b (G i):=⟨fun i=>img b (G i),fun _=>rfl⟩
 simp only[←KP] at HP HG HW;generalize hn:b.length=n at Ld KZ KS hb kA H7 HG ⊢;generalize hP:(fun x=>inB (I x) (G x))=P at HP;have K0:=hid H9;clear H9;have Lf:=hid KP;clear KP;have La:=hid hP;clear hP;have Lb:=hid H7;clear H7;have HN:=hid hn;clear hn;clear x8 h9;go_enter Tryz.func213,Tryz.ntmps213;go_wp2_with fail
 go_quiet (fail)
 go_wp2
 go_loopw [4,7] (fun r x' wr=>∃ x:Nat,x≤n∧x'=.int .i64 x∧r=.bool false∧(∀ j,j<x→P j=true)∧aa w wr) (fun _ x' _=>n-(intOf x').toNat)
 case atStart=>exact⟨0,qB,rfl,rfl,fun j h=>by omega,kA.drewN _⟩
 case round=>
  obtain⟨x,hx,rfl,rfl,x9,kw⟩:=hrel;have HA:=hid x9;clear x9
  by_cases KT:x<n
  ·have KU : (x:Int)<n:=qB
   have eE:∀ (j:Nat) (wq:World),aa w wq→j<n→∃ b1 o1,p=some ⟨b1,o1,none⟩∧wq.cell? ⟨b1,o1+j,none⟩=some (.int .i64 (G j:Nat)):=by
    intro j wq kq hj;obtain⟨_,_,e1,_,_,Lc,_⟩:=Lb.out.keeps kq;rw[af,HN.out] at e1
    cases e1
    obtain⟨b1,o1,e,h1⟩:=Lc.int j (by rw[af,HN.out];omega);rw[gu,←bJ,←K0.out] at h1;exact⟨b1,o1,e,h1⟩
   have HR:=hid eE;clear eE;obtain⟨b1,o1,rfl,h1⟩:=HR.out x wr kw KT
   have x6:P x=inB (I x) (G x):=by rw[←La.out]
   have HH:=hid (HG.out x wr kw);have x7:=HW.out x;have KW:=hid kw;clear kw
   cases hbit:inB (I x) (G x)
   ·rw[hbit] at x6 x7
    have H8:=hid x6;clear x6
    have Le:(bits .andNot .i64 ((I x:Nat):Int) ((G x:Nat):Int) != 0)=true:=by rw[bne,x7];rfl
    clear hbit x7;go_wp2_with fail
    go_quiet (first | (go_at_call 243;refine mi (HG.out x _ (KW.out.drewN _))))
    go_wp2_with fail;go_ret;refine⟨ab ?_,KW.out.drewN _⟩;rw[HP.out];exact(gE (x:=x) (by have:=HN.out;omega) H8.out).symm
   ·rw[hbit] at x6 x7
    have H8:=hid x6;clear x6
    have Le:(bits .andNot .i64 ((I x:Nat):Int) ((G x:Nat):Int) != 0)=false:=by rw[bne,x7];rfl
    clear hbit x7;go_wp2_with fail
    go_quiet (first | (go_at_call 243;refine mi (HG.out x _ (KW.out.drewN _))))
    go_wp2_with fail;have KWn:=hid (fun nn=>KW.out.drewN nn);clear HH
    go_loopw [4,8] (fun r y' wr'=>∃ y:Nat,y≤n∧y'=.int .i64 y∧r=.bool false∧aa w wr') (fun _ y' _=>n-(intOf y').toNat)
    case atStart=>exact⟨0,qB,rfl,rfl,KWn.out _⟩
    case round=>
     obtain⟨y,hy,rfl,rfl,kw⟩:=hrel;clear KW
     by_cases Lg:y<n
     ·have KV:(y:Int)<n:=qB
      obtain⟨_,_,e,h1⟩:=HR.out x wr kw KT
      cases e
      have HH:=hid (HB.out x y wr qB);have KW:=hid kw;clear kw
      cases hbit:(G x).testBit y
      ·rw[hbit] at HH
       clear hbit;go_wp2_with fail;refine HH.out.mono ?_;rintro e w' ⟨rfl,rfl⟩;go_wp2_with fail;go_roundw
       case rel=>exact⟨y+1,qB,by go_num,rfl,KW.out⟩
       case measure=>simp[intOf];omega
      ·rw[hbit] at HH
       clear hbit;go_wp2_with fail;refine HH.out.mono ?_;rintro e w' ⟨rfl,rfl⟩;go_wp2_with fail
       go_loopw [4,9] (fun r z' wr'=>∃ z:Nat,z≤n∧z'=.int .i64 z∧r=.bool false∧aa w wr') (fun _ z' _=>n-(intOf z').toNat)
       case atStart=>exact⟨0,qB,rfl,rfl,KW.out⟩
       case round=>
        obtain⟨z,hz,rfl,rfl,kw⟩:=hrel;clear KW HH
        by_cases Lh:z<n
        ·have KY:(z:Int)<n:=qB
         obtain⟨_,_,e,h1⟩:=HR.out x wr kw KT
         cases e
         have HH:=hid (HB.out x z wr qB);have KW:=hid kw;clear kw
         cases hbit:(G x).testBit z
         ·rw[hbit] at HH
          clear hbit;go_wp2_with fail;refine HH.out.mono ?_;rintro e w' ⟨rfl,rfl⟩;go_wp2_with fail;go_roundw
          case rel=>exact⟨z+1,qB,by go_num,rfl,KW.out⟩
          case measure=>simp[intOf];omega
         ·rw[hbit] at HH
          clear hbit;go_wp2_with fail;refine HH.out.mono ?_;rintro e w' ⟨rfl,rfl⟩;go_wp2_with fail
          go_quiet (fail)
          go_wp2_with fail;go_roundw
          case rel=>exact⟨z+1,qB,by go_num,rfl,KW.out.drewN _⟩
          case measure=>simp[intOf];omega
        ·obtain rfl:z=n:=qB
         have KY:¬(z:Int)<z:=qB;go_wp2_with fail;go_roundw
         case rel=>exact⟨y+1,qB,by go_num,rfl,kw⟩
         case measure=>simp[intOf];omega
     ·obtain rfl:y=n:=qB
      have KV:¬(y:Int)<y:=qB;go_wp2_with fail;go_roundw
      case rel=>exact⟨x+1,qB,by go_num,rfl,sI HA.out H8.out,kw⟩
      case measure=>simp[intOf];omega
  ·obtain rfl:x=n:=qB
   have KU:¬(x:Int)<x:=qB;go_wp2_with fail;go_ret;refine⟨ab ?_,kw⟩;rw[HP.out];exact(iD (fun j hj=>HA.out j (by have:=HN.out;omega))).symm
end
section
section
variable {b:List Nat} (hb:b.length≤8) (hbm:Bnd b.length b) (hr:sU b=true) (ht:iA b=true) (ha:antiB b=true)
include hb hbm hr ht ha
end
end
section
section
variable {b:List Nat} (hb:b.length≤8) (hbm:Bnd b.length b) (hr:sU b=true) (ht:iA b=true) (ha:antiB b=true)
include hb hbm hr ht ha
end
end
def fQ:List Nat→List Nat→Bool
 | [],[]=>false
 | [],_::_=>true
 | _::_,[]=>false
 | x::a,y::b=>if x=y then fQ a b else decide (x<y)
def Hu (n:Nat):Nat→List Nat→List (List Nat)
 | 0,o=>[o]
 | f+1,o=>((List.range n).filter fun i=>!o.contains i).flatMap fun i=>Hu n f (o++[i])
def yH (n:Nat):List (List Nat):=Hu n n []
def dq (n:Nat):Nat→List (List Nat)
 | 0=>[[]]
 | k+1=>(dq n k).flatMap fun o=>((List.range n).filter fun i=>!o.contains i).map fun i=>o++[i]
def sqz (o:List Nat) (m:Nat):Nat→Nat
 | 0=>0
 | k+1=>sqz o m k ||| (if m.testBit (o.getD k 0) then 2^k else 0)
def gP (a o:List Nat):List Nat:=o.map fun x=>sqz o (a.getD x 0) o.length
def oz (a:List Nat):List Nat:=(yH a.length).foldl (fun best o=>if fQ (gP a o) best then gP a o else best) a
theorem pS:∀ n,n≤4→yH n=dq n n:=by
 intro n hn;have:n=0∨n=1∨n=2∨n=3∨n=4:=qB
 rcases this with rfl | rfl | rfl | rfl | rfl<;>decide +kernel
section
open Go.RowKit
def E0 (b:List Nat):Bool:=(List.range b.length).all fun x=>b.getD x 0 != 0
theorem vQ (b:List Nat) (v:Value) (w:World) (hv:aV w v (zs b)) (hb:b.length≤8) (KV:Bnd b.length b):
  Calls Tryz.prog 213 #[.agg #[.int .i64 b.length,v],.int .i64 1] w fun e w'=>e=.returned (.bool (E0 b))∧aa w w':=by
 have KS:=hv;obtain⟨p,cap,rfl,Lc,KY,H8,H9⟩:=hv;clear H8;unfold maxLen at KY;rw[af] at*;have x6:=qJ hb;have kA:=(aa.refl w).alloc (.cells #[.int .i64 b.length,.slice p b.length cap] 41);have HB:=hid (fun i j w2 (hj:j≤8)=>de (b.getD i 0) j w2 (zv (KV i) x6) hj);have HP:Hid (E0 b=(List.range b.length).all (fun x=>b.getD x 0 != 0)):=hid rfl
 obtain⟨G,H7⟩:∃ G:Nat→Nat,∀ i,G i=b.getD i 0:=⟨fun i=>b.getD i 0,fun _=>rfl⟩
 simp only[←H7] at HB HP;generalize hn:b.length=n at Lc KY H9 hb kA KS ⊢;generalize hP:(fun x=>G x != 0)=P at HP;have KZ:=hid H7;clear H7;have K0:=hid hP;clear hP;have La:=hid KS;clear KS;have HN:=hid hn;clear hn;clear x6 KV;go_enter Tryz.func213,Tryz.ntmps213;go_wp2_with fail
 go_quiet (fail)
 go_wp2
 go_loopw [4,7] (fun r x' wr=>∃ x:Nat,x≤n∧x'=.int .i64 x∧r=.bool false∧(∀ j,j<x→P j=true)∧aa w wr) (fun _ x' _=>n-(intOf x').toNat)
 case atStart=>exact⟨0,qB,rfl,rfl,fun j h=>by omega,kA.drewN _⟩
 case round=>
  obtain⟨x,hx,rfl,rfl,x7,kw⟩:=hrel;have HA:=hid x7;clear x7
  by_cases KP:x<n
  ·have KR : (x:Int)<n:=qB
   have h9:∀ (j:Nat) (wq:World),aa w wq→j<n→∃ b1 o1,p=some ⟨b1,o1,none⟩∧wq.cell? ⟨b1,o1+j,none⟩=some (.int .i64 (G j:Nat)):=by
    intro j wq kq hj;obtain⟨_,_,e1,_,_,Lb,_⟩:=La.out.keeps kq;rw[af,HN.out] at e1
    cases e1
    obtain⟨b1,o1,e,h1⟩:=Lb.int j (by rw[af,HN.out];omega);rw[gu,←bJ,←KZ.out] at h1;exact⟨b1,o1,e,h1⟩
   have HR:=hid h9;clear h9;obtain⟨b1,o1,rfl,h1⟩:=HR.out x wr kw KP
   have x8:P x=(G x != 0):=by rw[←K0.out]
   have KW:=hid kw;clear kw
   by_cases eE:G x=0
   ·have x9:Hid (P x=false):=hid (by rw[x8,eE];rfl)
    rw[eE,show((0:Nat):Int)=0 from rfl] at h1;clear x8 eE;go_wp2_with fail;go_ret;refine⟨ab ?_,KW.out⟩;rw[HP.out];exact(gE (x:=x) (by have:=HN.out;omega) x9.out).symm
   ·have x9:Hid (P x=true):=hid (by rw[x8];simpa using eE)
    have Ld:((((G x:Nat):Int))==0)=false:=by simp;omega
    clear x8 eE;go_wp2_with fail
    go_loopw [4,8] (fun r y' wr'=>∃ y:Nat,y≤n∧y'=.int .i64 y∧r=.bool false∧aa w wr') (fun _ y' _=>n-(intOf y').toNat)
    case atStart=>exact⟨0,qB,rfl,rfl,KW.out⟩
    case round=>
     obtain⟨y,hy,rfl,rfl,kw⟩:=hrel;clear KW
     by_cases Le:y<n
     ·have KT:(y:Int)<n:=qB
      obtain⟨_,_,e,h1⟩:=HR.out x wr kw KP
      cases e
      have HH:=hid (HB.out x y wr qB);have KW:=hid kw;clear kw
      cases eE:(G x).testBit y
      ·rw[eE] at HH
       clear eE;go_wp2_with fail;refine HH.out.mono ?_;rintro e w' ⟨rfl,rfl⟩;go_wp2_with fail;go_roundw
       case rel=>exact⟨y+1,qB,by go_num,rfl,KW.out⟩
       case measure=>simp[intOf];omega
      ·rw[eE] at HH
       clear eE;go_wp2_with fail;refine HH.out.mono ?_;rintro e w' ⟨rfl,rfl⟩;go_wp2_with fail
       go_loopw [4,9] (fun r z' wr'=>∃ z:Nat,z≤n∧z'=.int .i64 z∧r=.bool false∧aa w wr') (fun _ z' _=>n-(intOf z').toNat)
       case atStart=>exact⟨0,qB,rfl,rfl,KW.out⟩
       case round=>
        obtain⟨z,hz,rfl,rfl,kw⟩:=hrel;clear KW HH
        by_cases Lf:z<n
        ·have KU:(z:Int)<n:=qB
         obtain⟨_,_,e,h1⟩:=HR.out x wr kw KP
         cases e
         have HH:=hid (HB.out x z wr qB);have KW:=hid kw;clear kw
         cases eE:(G x).testBit z
         ·rw[eE] at HH
          clear eE;go_wp2_with fail;refine HH.out.mono ?_;rintro e w' ⟨rfl,rfl⟩;go_wp2_with fail;go_roundw
          case rel=>exact⟨z+1,qB,by go_num,rfl,KW.out⟩
          case measure=>simp[intOf];omega
         ·rw[eE] at HH
          clear eE;go_wp2_with fail;refine HH.out.mono ?_;rintro e w' ⟨rfl,rfl⟩;go_wp2_with fail
          go_quiet (fail)
          go_wp2_with fail;go_roundw
          case rel=>exact⟨z+1,qB,by go_num,rfl,KW.out.drewN _⟩
          case measure=>simp[intOf];omega
        ·obtain rfl:z=n:=qB
         have KU:¬(z:Int)<z:=qB;go_wp2_with fail;go_roundw
         case rel=>exact⟨y+1,qB,by go_num,rfl,kw⟩
         case measure=>simp[intOf];omega
     ·obtain rfl:y=n:=qB
      have KT:¬(y:Int)<y:=qB;go_wp2_with fail;go_roundw
      case rel=>exact⟨x+1,qB,by go_num,rfl,sI HA.out x9.out,kw⟩
      case measure=>simp[intOf];omega
  ·obtain rfl:x=n:=qB
   have KR:¬(x:Int)<x:=qB;go_wp2_with fail;go_ret;refine⟨ab ?_,kw⟩;rw[HP.out];exact(iD (fun j hj=>HA.out j (by have:=HN.out;omega))).symm
def FZ (b:List Nat) (x y:Nat):Bool:=!((b.getD x 0).testBit y)||inB (b.getD x 0) (b.getD y 0)
def Dw (b:List Nat):Bool:=(List.range b.length).all fun x=>(List.range b.length).all fun y=>FZ b x y
theorem vR (b:List Nat) (v:Value) (w:World) (hv:aV w v (zs b)) (hb:b.length≤8) (x8:Bnd b.length b):
  Calls Tryz.prog 213 #[.agg #[.int .i64 b.length,v],.int .i64 4] w fun e w'=>e=.returned (.bool (Dw b))∧aa w w':=by
 have KU:=hv;obtain⟨p,cap,rfl,Lf,K0,H9,KP⟩:=hv;clear H9;unfold maxLen at K0;rw[af] at*;have x6:=qJ hb;have kA:=(aa.refl w).alloc (.cells #[.int .i64 b.length,.slice p b.length cap] 41);have HB:=hid (fun i j w2 (hj:j≤8)=>de (b.getD i 0) j w2 (zv (x8 i) x6) hj);have HP:Hid (Dw b=(List.range b.length).all (fun x=>(List.range b.length).all fun y=>FZ b x y)):=hid rfl
 obtain⟨G,H7⟩:∃ G:Nat→Nat,∀ i,G i=b.getD i 0:=⟨fun i=>b.getD i 0,fun _=>rfl⟩
 have HW:=hid (fun i j=>xe (b.getD i 0) (b.getD j 0) (zv (x8 i) qB) (zv (x8 j) qB));simp only[←H7] at HB HW
 obtain⟨Q,H8⟩:∃ Q:Nat→Nat→Bool,∀ i j,Q i j=FZ b i j:=⟨fun i j=>FZ b i j,fun _ _=>rfl⟩
 simp only[←H8] at HP;generalize hn:b.length=n at Lf K0 KP hb kA KU ⊢;generalize hP:(fun x=>(List.range b.length).all fun y=>Q x y)=P at HP;have x9:=hid H7;clear H7;have Lc:=hid H8;clear H8;have KZ:=hid hP;clear hP;have Ld:=hid KU;clear KU;have HN:=hid hn;clear hn;clear x6 x8;go_enter Tryz.func213,Tryz.ntmps213;go_wp2_with fail
 go_quiet (fail)
 go_wp2
 go_loopw [4,7] (fun r x' wr=>∃ x:Nat,x≤n∧x'=.int .i64 x∧r=.bool false∧(∀ j,j<x→P j=true)∧aa w wr) (fun _ x' _=>n-(intOf x').toNat)
 case atStart=>exact⟨0,qB,rfl,rfl,fun j h=>by omega,kA.drewN _⟩
 case round=>
  obtain⟨x,hx,rfl,rfl,x7,kw⟩:=hrel;have HA:=hid x7;clear x7
  by_cases KR:x<n
  ·have KS : (x:Int)<n:=qB
   have eE:∀ (j:Nat) (wq:World),aa w wq→j<n→∃ b1 o1,p=some ⟨b1,o1,none⟩∧wq.cell? ⟨b1,o1+j,none⟩=some (.int .i64 (G j:Nat)):=by
    intro j wq kq hj;obtain⟨_,_,e1,_,_,Le,_⟩:=Ld.out.keeps kq;rw[af,HN.out] at e1
    cases e1
    obtain⟨b1,o1,e,h1⟩:=Le.int j (by rw[af,HN.out];omega);rw[gu,←bJ,←x9.out] at h1;exact⟨b1,o1,e,h1⟩
   have HR:=hid eE;clear eE;obtain⟨b1,o1,rfl,h1⟩:=HR.out x wr kw KR;have KW:=hid kw;clear kw;go_wp2_with fail
   go_loopw [4,8] (fun r y' wr'=>∃ y:Nat,y≤n∧y'=.int .i64 y∧r=.bool false∧aa w wr'∧(∀ j,j<y→Q x j=true)) (fun _ y' _=>n-(intOf y').toNat)
   case atStart=>exact⟨0,qB,rfl,rfl,KW.out,fun j h=>by omega⟩
   case round=>
    obtain⟨y,hy,rfl,rfl,kw,KT⟩:=hrel;clear KW
    by_cases Lh:y<n
    ·have KV:(y:Int)<n:=qB
     obtain⟨_,_,e,h1⟩:=HR.out x wr kw KR
     cases e
     obtain⟨_,_,e,h2⟩:=HR.out y wr kw Lh
     cases e
     have HQ:=hid KT;clear KT
     have hq:Q x y=(!((G x).testBit y)||inB (G x) (G y)):=by rw[Lc.out,x9.out,x9.out];rfl
     have Hq:=hid hq;clear hq;have HH:=hid (HB.out x y wr qB);have h9:=HW.out x y;have KW:=hid kw;clear kw
     cases hbit:(G x).testBit y
     ·rw[hbit] at HH Hq
      clear hbit h9;go_wp2_with fail;refine HH.out.mono ?_;rintro e w' ⟨rfl,rfl⟩;go_wp2_with fail;go_roundw
      case rel=>exact⟨y+1,qB,by go_num,rfl,KW.out,sI HQ.out (by rw[Hq.out];rfl)⟩
      case measure=>simp[intOf];omega
     ·rw[hbit] at HH Hq
      clear hbit
      cases hin:inB (G x) (G y)
      ·rw[hin] at h9 Hq
       have La:Hid (Q x y=false):=hid (by rw[Hq.out];rfl)
       have Lg:(bits .andNot .i64 ((G x:Nat):Int) ((G y:Nat):Int) != 0)=true:=by rw[bne,h9];rfl
       clear hin h9 Hq;go_wp2_with fail;refine HH.out.mono ?_;rintro e w' ⟨rfl,rfl⟩;go_wp2_with fail
       go_quiet (fail)
       go_wp2_with fail;go_ret;refine⟨ab ?_,KW.out.drewN _⟩;rw[HP.out];refine(gE (x:=x) (by have:=HN.out;omega) ?_).symm;rw[←KZ.out];exact gE (x:=y) (by have:=HN.out;omega) La.out
      ·rw[hin] at h9 Hq
       have Lb:Hid (Q x y=true):=hid (by rw[Hq.out];rfl)
       have Lg:(bits .andNot .i64 ((G x:Nat):Int) ((G y:Nat):Int) != 0)=false:=by rw[bne,h9];rfl
       clear hin h9 Hq;go_wp2_with fail;refine HH.out.mono ?_;rintro e w' ⟨rfl,rfl⟩;go_wp2_with fail
       go_quiet (fail)
       go_wp2_with fail;have KWn:=hid (fun nn=>KW.out.drewN nn)
       go_loopw [4,9] (fun r z' wr'=>∃ z:Nat,z≤n∧z'=.int .i64 z∧r=.bool false∧aa w wr') (fun _ z' _=>n-(intOf z').toNat)
       case atStart=>exact⟨0,qB,rfl,rfl,KWn.out _⟩
       case round=>
        obtain⟨z,hz,rfl,rfl,kw⟩:=hrel;clear KW HH
        by_cases Li:z<n
        ·have KY:(z:Int)<n:=qB
         obtain⟨_,_,e,h1⟩:=HR.out x wr kw KR
         cases e
         have HH:=hid (HB.out x z wr qB);have KW:=hid kw;clear kw
         cases hbit:(G x).testBit z
         ·rw[hbit] at HH
          clear hbit;go_wp2_with fail;refine HH.out.mono ?_;rintro e w' ⟨rfl,rfl⟩;go_wp2_with fail;go_roundw
          case rel=>exact⟨z+1,qB,by go_num,rfl,KW.out⟩
          case measure=>simp[intOf];omega
         ·rw[hbit] at HH
          clear hbit;go_wp2_with fail;refine HH.out.mono ?_;rintro e w' ⟨rfl,rfl⟩;go_wp2_with fail
          go_quiet (fail)
          go_wp2_with fail;go_roundw
          case rel=>exact⟨z+1,qB,by go_num,rfl,KW.out.drewN _⟩
          case measure=>simp[intOf];omega
        ·obtain rfl:z=n:=qB
         have KY:¬(z:Int)<z:=qB;go_wp2_with fail;go_roundw
         case rel=>exact⟨y+1,qB,by go_num,rfl,kw,sI HQ.out Lb.out⟩
         case measure=>simp[intOf];omega
    ·obtain rfl:y=n:=qB
     have KV:¬(y:Int)<y:=qB;go_wp2_with fail;go_roundw
     case rel=>exact⟨x+1,qB,by go_num,rfl,sI HA.out (by rw[←KZ.out];exact iD (fun j hj=>KT j (by have:=HN.out;omega))),kw⟩
     case measure=>simp[intOf];omega
  ·obtain rfl:x=n:=qB
   have KS:¬(x:Int)<x:=qB;go_wp2_with fail;go_ret;refine⟨ab ?_,kw⟩;rw[HP.out];exact(iD (fun j hj=>HA.out j (by have:=HN.out;omega))).symm
end
end Go.Proofs.YtagoboblkadelaaGreat
