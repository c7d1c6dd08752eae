import Derived.Test.YtagoboblkadelaaGreatZPZ
import Derived.Laws.Tables
/- own -/
namespace Go.Proofs.YtagoboblkadelaaGreat
section
open Go.RowKit
def cP (m:Nat) (w:World) (B0:Nat) (v:Value):Prop:=∃ b n c ss,v=.slice (some ⟨b,0,none⟩) n c∧aA w B0 (.slice (some ⟨b,0,none⟩) n c) ss∧ss.length≤m∧aW ss
theorem cP.dr {m:Nat} {w w':World} {B b:Nat} {v:Value} (h:cP m w b v) (k:Dr B w w') (hB:B<b):cP m w' b v:=by
 obtain⟨x,n,c,ss,e,h1,h2⟩:=h;exact⟨x,n,c,ss,e,h1.drX k hB,h2⟩
theorem cP.mono {m:Nat} {w:World} {b b':Nat} {v:Value} (h:cP m w b v) (k:b'≤b):cP m w b' v:=by
 obtain⟨x,n,c,ss,e,h1,h2⟩:=h;exact⟨x,n,c,ss,e,h1.mono k,h2⟩
theorem cP.up {m m':Nat} {w:World} {b:Nat} {v:Value} (h:cP m w b v) (k:m≤m'):cP m' w b v:=by
 obtain⟨x,n,c,ss,e,h1,h2,h3⟩:=h;exact⟨x,n,c,ss,e,h1,qB,h3⟩
theorem cP.boxed {m:Nat} {w:World} {b r i:Nat} {v x:Value} {T:TypeId} {cs:List Value} (h:cP m w b v) (hb:aR w r T cs) (t:T≠9):cP m (w.setCell ⟨r,i,none⟩ x) b v:=by
 obtain⟨y,n,c,ss,e,h1,h2⟩:=h;exact⟨y,n,c,ss,e,iU h1 hb t,h2⟩
theorem cP.shape {m:Nat} {w:World} {b:Nat} {v:Value} (h:cP m w b v):∃ p n c,v=.slice p n c:=by
 obtain⟨y,n,c,ss,e,_⟩:=h;exact⟨_,n,c,e⟩
theorem EV:aW []:=⟨fun s hs=>(by cases hs),by simp[Asc]⟩
theorem iW {s:ByteArray} (h:∃ t,ck s t):aW [s]:=⟨fun x hx=>by rw[zu] at hx;subst hx;exact h,by simp[Asc]⟩
theorem cP.insert {w w':World} {B:Nat} {ss:List ByteArray} {s:ByteArray} {e:Ending} {m:Nat} (h:xi w B (ae ss s) e w') (hl:ss.length≤m) (h1:aW ss) (h2:∃ t,ck s t):∃ v,e=.returned v∧cP (m+1) w' B v∧aa w w':=by
 obtain⟨b,n,c,rfl,ho,k⟩:=h
 have eE:∃ g,b=⟨g,0,none⟩:=by
  rcases ho.2 with ⟨e,_⟩ | ⟨g,cap,cur,e,_⟩
  ·cases e
  ·cases e;exact⟨g,rfl⟩
 obtain⟨g,rfl⟩:=eE;exact⟨_,rfl,⟨g,n,c,_,rfl,ho,by have:=(aX ss s).1;omega,a8 h1 h2⟩,k⟩
inductive Kd where
 | src | box (r:Nat) | names (nm:List ByteArray) | rnd (m:Nat) | ptr | txt4 | fm (k:Nat) | str | one | side | seq | any
def Kd.holds (B base:Nat):Kd→Value→World→Prop
 | .src,v,_=>v=.pointer (some ⟨B,0,none⟩)
 | .box r,v,_=>v=.pointer (some ⟨r,0,none⟩)
 | .names nm,v,w=>∃ g,v=.slice (some ⟨g,0,none⟩) nm.length nm.length∧B<g∧g<w.heap.size∧au w v nm
 | .rnd m,v,_=>∃ r:Nat,v=.int .i64 r∧r<m
 | .ptr,v,w=>∃ g o,∃ s:ByteArray,v=.pointer (some ⟨g,o,none⟩)∧g≠B∧g<w.heap.size∧w.cell? ⟨g,o,none⟩=some (.string s)∧s.size≤4
 | .txt4,v,_=>∃ s:ByteArray,v=.string s∧s.size≤4
 | .fm k,v,w=>∃ (t:Fm) (b:Nat),t.wf∧t.enc.length≤k∧B<b∧aU w b v t.enc
 | .str,v,_=>∃ s:ByteArray,v=.string s∧∃ t,ck s t
 | .one,v,w=>∃ (g:Nat) (s:ByteArray),v=.slice (some ⟨g,0,none⟩) 1 1∧aA w base v [s]∧∃ t,ck s t
 | .side,v,w=>cP 4 w base v
 | .seq,v,w=>∃ x y,v=.agg #[x,y]∧cP 4 w base x∧cP 4 w base y
 | .any,_,_=>True
theorem Kd.dr {B base:Nat} (hB:B<base) {w w':World} (h:Dr B w w'):∀ {k:Kd} {v:Value},k.holds B base v w→k.holds B base v w'
 | .src,_,hv=>hv
 | .box _,_,hv=>hv
 | .rnd _,_,hv=>hv
 | .txt4,_,hv=>hv
 | .str,_,hv=>hv
 | .any,_,hv=>hv
 | .names nm,v,⟨g,e,h1,h2,h3⟩=>⟨g,e,h1,zv h2 h.size,by subst e;exact h3.dr h qB h2⟩
 | .ptr,v,⟨g,o,s,e,h1,h2,h3,h4⟩=>⟨g,o,s,e,h1,zv h2 h.size,by rw[(h.1.cell h2 h1).1];exact h3,h4⟩
 | .fm k,v,⟨t,b,h1,h2,h3,h4⟩=>⟨t,b,h1,h2,h3,h4.dr h h3⟩
 | .one,v,⟨g,s,e,h1,h2⟩=>⟨g,s,e,h1.drX h hB,h2⟩
 | .side,v,hv=>cP.dr hv h hB
 | .seq,v,⟨x,y,e,h1,h2⟩=>⟨x,y,e,h1.dr h hB,h2.dr h hB⟩
structure JD (B base r0:Nat) (w0 w:World):Prop where
 d0:Dr B w0 w
 src:Src w B
 sz:base≤w.heap.size
 hB:B<base
 hr:base≤r0
 box:aR w r0 29 [.slice none 0 0,.slice none 0 0]
theorem JD.dr {B base r0:Nat} {w0 w w':World} (k:Dr B w w') (h:JD B base r0 w0 w):JD B base r0 w0 w':=
 ⟨h.d0.trans k,k.2,zx h.sz k.size,h.hB,h.hr,h.box.dr k (by have:=h.hB;have:=h.hr;omega)⟩
def eC (md:Region.Mode) (ops:Array Oper) (ins:List Nat) (o:Oper) (s:Nat):Bool:=ins.contains s||(List.range ops.size).any fun j=>fX md o j&&fe ops j s
section
variable {md:Region.Mode} {ops:Array Oper} {Q:Exit→Act→World→Prop} {nt:Nat} {ins:List Nat} {kd:Nat→Kd} {B base r0:Nat} {w0:World} {o:Oper}
def StD (md:Region.Mode) (ops:Array Oper) (Q:Exit→Act→World→Prop) (nt:Nat) (ins:List Nat) (kd:Nat→Kd) (B base r0:Nat) (w0:World) (o:Oper):Prop:=
 uR Tryz.prog md ops Q nt ins (fun s v w=>(kd s).holds B base v w) (Dr B) (JD B base r0 w0) o
theorem mF {s:Nat} (h:eC md ops ins o s=true) {V:Nat→Value→World→Prop} {a:Act} {w:World} (h9:∀ s,ins.contains s=true→V s (a.eval (.tmp s)) w) (eE:∀ j d,fX md o j=true→fe ops j d=true→V d (a.eval (.tmp d)) w):V s (a.eval (.tmp s)) w:=by
 unfold eC at h;rw[Bool.or_eq_true,List.any_eq_true] at h
 rcases h with h | ⟨j,_,h⟩
 ·exact h9 s h
 ·rw[zk] at h
  exact eE j s h.1 h.2
theorem cW (s:Nat) (ho:o.op=.move (.tmp s)∨o.op=.assign (.tmp s)) (h:eC md ops ins o s=true) (hk:∀ d,o.dst=some d→kd d=kd s):StD md ops Q nt ins kd B base r0 w0 o:=
 fun a w K x6 hJ h9 eE hK=>by
  have hv:=mF h h9 eE;have:=hK (a.eval (.tmp s)) w (Dr.of hJ.src (aa.refl w)) (fun d hd=>by show(kd d).holds B base _ w;rw[hk d hd];exact hv);unfold Oper.wp execOp
  rcases ho with ho | ho
  ·rw[ho];exact this
  ·rw[ho];exact this
theorem nI (nm:List ByteArray) (hn:nm.length≤100) (eE:∀ (a:Act) w,(execOp a.eval o).run Tryz.prog w=.ok (.value (.slice (some ⟨w.heap.size,0,none⟩) nm.length nm.length)) (w.alloc (.cells (nm.map Value.string).toArray 9)))
  (hk:∀ d,o.dst=some d→kd d=.names nm):StD md ops Q nt ins kd B base r0 w0 o:=
 fun a w K x7 hJ x6 h9 hK=>by
  unfold Oper.wp;rw[eE];have k:=(aa.refl w).alloc (.cells (nm.map Value.string).toArray 9)
  exact hK _ _ (Dr.of hJ.src k) (fun d hd=>by
   show(kd d).holds B base _ _
   rw[hk d hd]
   exact⟨_,rfl,by have:=hJ.sz;have:=hJ.hB;omega,qD,au.lit nm qB⟩)
theorem GJ (eE:∀ (a:Act) w,(execOp a.eval o).run Tryz.prog w=.ok (.value (.slice (some ⟨w.heap.size,0,none⟩) 0 0)) (w.alloc (.cells #[] 9))) (hk:∀ d,o.dst=some d→kd d=.side):StD md ops Q nt ins kd B base r0 w0 o:=
 fun a w K x7 hJ x6 h9 hK=>by
  unfold Oper.wp;rw[eE];have k:=(aa.refl w).alloc (.cells #[] 9)
  exact hK _ _ (Dr.of hJ.src k) (fun d hd=>by
   show(kd d).holds B base _ _
   rw[hk d hd]
   exact cP.mono ⟨_,_,_,[],rfl,aA.empty w,qD,EV⟩ hJ.sz)
theorem CE (s:ByteArray) (w:World):(Instr.buildSlice 27 1 #[(0,.string s)]).run Tryz.prog w=.ok (.slice (some ⟨w.heap.size,0,none⟩) 1 1) (w.alloc (.cells #[.string s] 9)):=qA
theorem nJ (s:Nat) (ho:o.op=.buildSlice 27 1 #[(0,.tmp s)]) (h:eC md ops ins o s=true) (hs:kd s=.str) (hk:∀ d,o.dst=some d→kd d=.one∨kd d=.side):StD md ops Q nt ins kd B base r0 w0 o:=
 fun a w K x7 hJ x6 h9 hK=>by
  have hv:=mF h x6 h9;change (kd s).holds B base _ w at hv;rw[hs] at hv;obtain⟨x,e,hx⟩:=hv;have ke:=(aa.refl w).alloc (.cells #[.string x] 9)
  have eE:aA (w.alloc (.cells #[.string x] 9)) w.heap.size (.slice (some ⟨w.heap.size,0,none⟩) 1 1) [x]:=by
   have h:=World.ownsRow_lit (base:=w.heap.size) (e:=9) (size:=1) w #[.string x] 1 (zm _) (by simp[maxLen]) qD;exact h
  have:=hK (.slice (some ⟨w.heap.size,0,none⟩) 1 1) (w.alloc (.cells #[.string x] 9)) (Dr.of hJ.src ke) (fun d hd=>by
   show(kd d).holds B base _ _
   rcases hk d hd with e | e<;>rw[e]
   ·exact⟨_,x,rfl,eE.mono hJ.sz,hx⟩
   ·exact cP.mono (m:=4) ⟨_,_,_,_,rfl,eE,qD,iW hx⟩ hJ.sz)
  unfold Oper.wp execOp;simp only[ho]
  have e2:(#[(0,Operand.tmp s)]:Array (Nat×Operand)).map (fun (i,x)=>(i,a.eval x))=#[(0,.string x)]:=by simp[e]
  rw[e2];simp only[Sem.run_bind,CE,Result.andThen_ok];exact this
theorem s0 (n:Nat) (hn:n≤1000000) (h0:0<n) (s:Nat) (ats:Array TypeId) (ho:o.op=.call { callee:=.value (.func 53),args:=#[.tmp s,.const (.int .i64 n)],argTypes:=ats }) (hE:aG 53) (h:eC md ops ins o s=true) (hs:kd s=.src) (hk:∀ d,o.dst=some d→kd d=.rnd n):StD md ops Q nt ins kd B base r0 w0 o:=
 fun a w K x6 hJ h9 eE hK=>by
  have hv:=mF h h9 eE;change (kd s).holds B base _ w at hv;rw[hs] at hv;have hv:a.eval (.tmp s)=.pointer (some ⟨B,0,none⟩):=hv;refine je _ _ _ ho hE #[.pointer (some ⟨B,0,none⟩),.int .i64 n] (by simp[hv];rfl) ((aE n B w hJ.src qB).mono ?_);rintro e w' ⟨r,rfl,hr,d⟩
  exact⟨_,rfl,hK _ _ d (fun d' hd=>by
   show(kd d').holds B base _ _
   rw[hk d' hd]
   exact⟨r,rfl,qB⟩)⟩
theorem vn {k:Nat} {v:Value} {w:World} (h:(Kd.fm k).holds B base v w) (hk:k≤100):∃ t:Fm,t.wf∧t.enc.length≤k∧Nds w v t.enc:=by
 obtain⟨t,b,h1,h2,_,h4⟩:=h;exact⟨t,h1,h2,h4.nds qB⟩
theorem uN (c k:Nat) (hc:c<2) (x8:k≤90) (s:Nat) (ats:Array TypeId) (ho:o.op=.call { callee:=.value (.func 96),args:=#[.const (.int .i64 (5+(c:Int))),.tmp s],argTypes:=ats }) (hE:aG 96) (h:eC md ops ins o s=true) (hs:kd s=.fm k) (hk:∀ d,o.dst=some d→kd d=.fm (k+1)):StD md ops Q nt ins kd B base r0 w0 o:=
 fun a w K x9 hJ h9 eE hK=>by
  have hv:=mF h h9 eE;change (kd s).holds B base _ w at hv;rw[hs] at hv;obtain⟨t,h1,h2,h3⟩:=vn hv qB;obtain⟨z,hz,H7,okz⟩:=lC c h1 hc;have x6:=ee (5+(c:Int)) t.enc _ w h3 qB;rw[hz] at x6;refine je _ _ _ ho hE #[.int .i64 (5+(c:Int)),a.eval (.tmp s)] (by simp;rfl) (x6.mono ?_);rintro e w' ⟨v',rfl,x7,kk⟩
  exact⟨_,rfl,hK _ _ (Dr.of hJ.src kk) (fun d hd=>by
   show(kd d).holds B base _ _
   rw[hk d hd]
   exact⟨z,w.heap.size,okz,qB,by have:=hJ.hB;have:=hJ.sz;omega,x7⟩)⟩
theorem AJ (c k l:Nat) (hc:c<3) (x8:k≤40) (x9:l≤40) (s s':Nat) (ats:Array TypeId) (ho:o.op=.call { callee:=.value (.func 42),args:=#[.const (.int .i64 (2+(c:Int))),.tmp s,.tmp s'],argTypes:=ats }) (hE:aG 42) (h:eC md ops ins o s=true) (h':eC md ops ins o s'=true) (hs:kd s=.fm k) (hs':kd s'=.fm l) (hk:∀ d,o.dst=some d→kd d=.fm (k+l+1)):StD md ops Q nt ins kd B base r0 w0 o:=
 fun a w K H7 hJ h9 eE hK=>by
  have hv:=mF h h9 eE;have hv':=mF h' h9 eE;change (kd s).holds B base _ w at hv;change (kd s').holds B base _ w at hv';rw[hs] at hv;rw[hs'] at hv';obtain⟨t,h1,h2,h3⟩:=vn hv qB;obtain⟨u,g1,g2,g3⟩:=vn hv' qB;obtain⟨z,hz,H8,okz⟩:=jx c h1 g1 hc;have x6:=bQ (2+(c:Int)) t.enc u.enc _ _ w h3 g3 qB;rw[hz] at x6;refine je _ _ _ ho hE #[.int .i64 (2+(c:Int)),a.eval (.tmp s),a.eval (.tmp s')] (by simp;rfl) (x6.mono ?_);rintro e w' ⟨v',rfl,x7,kk⟩
  exact⟨_,rfl,hK _ _ (Dr.of hJ.src kk) (fun d hd=>by
   show(kd d).holds B base _ _
   rw[hk d hd]
   exact⟨z,w.heap.size,okz,qB,by have:=hJ.hB;have:=hJ.sz;omega,x7⟩)⟩
theorem gQ (k:Nat) (x6:k≤40) (s:Nat) (ats:Array TypeId) (ho:o.op=.call { callee:=.value (.func 97),args:=#[.tmp s],argTypes:=ats }) (hE:aG 97) (h:eC md ops ins o s=true) (hs:kd s=.fm k) (hk:∀ d,o.dst=some d→kd d=.str):StD md ops Q nt ins kd B base r0 w0 o:=
 fun a w K x7 hJ h9 eE hK=>by
  have hv:=mF h h9 eE;change (kd s).holds B base _ w at hv;rw[hs] at hv;obtain⟨t,h1,h2,h3⟩:=vn hv qB;refine je _ _ _ ho hE #[a.eval (.tmp s)] qD ((eI t h1 qB _ w h3).mono ?_);rintro e w' ⟨x,rfl,hb,kk⟩
  exact⟨_,rfl,hK _ _ (Dr.of hJ.src kk) (fun d hd=>by
   show(kd d).holds B base _ _
   rw[hk d hd]
   exact⟨x,rfl,t,h1,hb,qB⟩)⟩
theorem yR (s s':Nat) (ats:Array TypeId) (ho:o.op=.call { callee:=.value (.func 54),args:=#[.tmp s,.tmp s'],argTypes:=ats }) (hE:aG 54) (h:eC md ops ins o s=true) (h':eC md ops ins o s'=true) (hs:kd s=.one) (hs':kd s'=.str) (hk:∀ d,o.dst=some d→kd d=.side):StD md ops Q nt ins kd B base r0 w0 o:=
 fun a w K x7 hJ h9 eE hK=>by
  have hv:=mF h h9 eE;have hv':=mF h' h9 eE;change (kd s).holds B base _ w at hv;change (kd s').holds B base _ w at hv';rw[hs] at hv;rw[hs'] at hv';obtain⟨g,x,e1,h1,h2⟩:=hv;obtain⟨y,e2,g2⟩:=hv';rw[e1] at h1;refine je _ _ _ ho hE #[.slice (some ⟨g,0,none⟩) 1 1,.string y] (by simp[e1,e2]) ((fu [x] g 0 1 1 y base w h1 qD hJ.sz).mono ?_);intro e w' hr;obtain⟨v,rfl,x6,kk⟩:=cP.insert hr (m:=1) qD (iW h2) g2
  exact⟨_,rfl,hK _ _ (Dr.of hJ.src kk) (fun d hd=>by
   show(kd d).holds B base _ _
   rw[hk d hd]
   exact x6.up qB)⟩
theorem AA (g n r:Nat) (hr:r<n) (hn:n≤100) (w:World):(Instr.indexAt 27 (.slice (some ⟨g,0,none⟩) n n) (.int .i64 (r:Int))).run Tryz.prog w=.ok (.pointer (some ⟨g,r,none⟩)) w:=by
 have _:=hn;simp[Instr.indexAt,go_sem,hr]
theorem nH (nm:List ByteArray) (hn:nm.length≤100) (x6:∀ s∈nm,s.size≤4) (m:Nat) (hm:m≤nm.length) (s s':Nat) (ho:o.op=.indexAddr 27 (.tmp s) (.tmp s')) (h:eC md ops ins o s=true) (h':eC md ops ins o s'=true) (hs:kd s=.names nm) (hs':kd s'=.rnd m) (hk:∀ d,o.dst=some d→kd d=.ptr):StD md ops Q nt ins kd B base r0 w0 o:=
 fun a w K x7 hJ h9 eE hK=>by
  have hv:=mF h h9 eE;have hv':=mF h' h9 eE;change (kd s).holds B base _ w at hv;change (kd s').holds B base _ w at hv';rw[hs] at hv;rw[hs'] at hv';obtain⟨g,e1,h1,h2,h3⟩:=hv;obtain⟨r,e2,hr⟩:=hv';rw[e1] at h3;obtain⟨b9,o9,e9,hc⟩:=h3.get r qB
  cases e9
  rw[Nat.zero_add] at hc;unfold Oper.wp execOp;simp only[ho,e1,e2,Sem.run_bind,AA g nm.length r qB hn,Result.andThen_ok]
  exact hK _ _ (Dr.of hJ.src (aa.refl w)) (fun d hd=>by
   show(kd d).holds B base _ _
   rw[hk d hd]
   exact⟨g,r,_,rfl,qB,h2,hc,x6 _ (zo _)⟩)
theorem CG (p:Addr) (s:ByteArray) (w:World) (h:w.cell? p=some (.string s)):(Instr.loadAt 9 (.pointer (some p))).run Tryz.prog w=.ok (.string s) w:=by
 simp[Instr.loadAt,go_sem,h]
theorem sZ (s:Nat) (ho:o.op=.load 9 (.tmp s)) (h:eC md ops ins o s=true) (hs:kd s=.ptr) (hk:∀ d,o.dst=some d→kd d=.txt4):StD md ops Q nt ins kd B base r0 w0 o:=
 fun a w K x6 hJ h9 eE hK=>by
  have hv:=mF h h9 eE;change (kd s).holds B base _ w at hv;rw[hs] at hv;obtain⟨g,q,x,e1,_,_,hc,hx⟩:=hv;unfold Oper.wp execOp;simp only[ho,e1,Sem.run_bind,CG _ x w hc,Result.andThen_ok]
  exact hK _ _ (Dr.of hJ.src (aa.refl w)) (fun d hd=>by
   show(kd d).holds B base _ _
   rw[hk d hd]
   exact⟨x,rfl,hx⟩)
theorem Ay (p q:Option Addr) (n c m d:Nat) (w:World):(Instr.build 29 #[(0,.slice p n c),(1,.slice q m d)]).run Tryz.prog w=.ok (.agg #[.slice p n c,.slice q m d]) w:=by
 kernel_rfl
theorem nG (s s':Nat) (ho:o.op=.build 29 #[(0,.tmp s),(1,.tmp s')]) (h:eC md ops ins o s=true) (h':eC md ops ins o s'=true) (hs:kd s=.side) (hs':kd s'=.side) (hk:∀ d,o.dst=some d→kd d=.seq):StD md ops Q nt ins kd B base r0 w0 o:=
 fun a w K x6 hJ h9 eE hK=>by
  have hv:=mF h h9 eE;have hv':=mF h' h9 eE;change (kd s).holds B base _ w at hv;change (kd s').holds B base _ w at hv';rw[hs] at hv;rw[hs'] at hv';unfold Oper.wp execOp;obtain⟨p,n,c,e3⟩:=cP.shape hv;obtain⟨q,m,d,e4⟩:=cP.shape hv';rw[e3] at hv;rw[e4] at hv'
  have e2:(#[(0,Operand.tmp s),(1,Operand.tmp s')]:Array (Nat×Operand)).map (fun (i,x)=>(i,a.eval x))=#[(0,.slice p n c),(1,.slice q m d)]:=by simp[e3,e4]
  simp only[ho];rw[e2];simp only[Sem.run_bind,Ay,Result.andThen_ok]
  exact hK _ _ (Dr.of hJ.src (aa.refl w)) (fun d hd=>by
   show(kd d).holds B base _ _
   rw[hk d hd]
   exact⟨_,_,rfl,hv,hv'⟩)
theorem AE (r:Nat) (p q:Option Addr) (n c m d:Nat) (w:World) (hb:aR w r 29 [.slice none 0 0,.slice none 0 0]):(Instr.storeAt 29 (.pointer (some ⟨r,0,none⟩)) (.agg #[.slice p n c,.slice q m d])).run Tryz.prog w=.ok () ((w.setCell ⟨r,0,none⟩ (.slice p n c)).setCell ⟨r,1,none⟩ (.slice q m d)):=by
 have a0:=hb.cell 0 qD;have a1:=hb.cell 1 qD;have f0:=hb.froz 0;have f1:=hb.froz 1;simp only[zl,zj] at a0 a1;simp[Instr.storeAt,go_sem,a0,a1,f0,f1]
structure Kg (nt:Nat) (ins:List Nat) (kd:Nat→Kd) (ops:Array Oper) (L base r0:Nat) (a:Act) (w':World) (x y:Value):Prop where
 size:a.tmps.size=nt
 df:a.defers=[]
 ptr:∀ s,ins.contains s=true→kd s=.box r0→a.eval (.tmp s)=.pointer (some ⟨r0,0,none⟩)
 dsts:∀ j d,j<L→fe ops j d=true→kd d=.txt4→∃ s:ByteArray,a.eval (.tmp d)=.string s∧s.size≤4
 c0:w'.cell? ⟨r0,0,none⟩=some x
 c1:w'.cell? ⟨r0,1,none⟩=some y
 sx:cP 4 w' base x
 sy:cP 4 w' base y
 x1:∃ p n c,x=.slice p n c
 y1:∃ p n c,y=.slice p n c
theorem nK {L:Nat} (s s':Nat) (ho:o.op=.store 29 (.tmp s) (.tmp s')) (hd:o.dst=none) (j:Nat) (hi:ins.contains s=true) (hj:j<L) (h':fe ops j s'=true) (hs:kd s=.box r0) (hs':kd s'=.seq)
  (x7:w0.heap.size≤r0) (x6:∀ a w' x y,Dr B w0 w'→Kg nt ins kd ops L base r0 a w' x y→Q .normal a w'):uQ Tryz.prog ops Q L nt ins (fun s v w=>(kd s).holds B base v w) (JD B base r0 w0) o:=
 fun a w K x9 x8 hJ h9 eE hK=>by
  have hD:=hJ.d0;have hv:=h9 s hi;have hv':=eE j s' hj h';change (kd s).holds B base _ w at hv;change (kd s').holds B base _ w at hv';rw[hs] at hv;rw[hs'] at hv';have hv:a.eval (.tmp s)=.pointer (some ⟨r0,0,none⟩):=hv;obtain⟨x,y,e,hx,hy⟩:=hv';obtain⟨p,n,c,rfl⟩:=hx.shape;obtain⟨q,m,d,rfl⟩:=hy.shape;have hB:=hJ.hB;have hr:=hJ.hr;have b1:=hJ.box.set 0 (.slice p n c);have b2:=b1.set 1 (.slice q m d);have d1:=hD.box (i:=0) (x:=.slice p n c) hJ.box qB x7;have d2:=d1.box (i:=1) (x:=.slice q m d) b1 qB x7;unfold Oper.wp execOp;simp only[ho,hv,e,Sem.run_bind,AE r0 p q n c m d w hJ.box,Result.andThen_ok]
  show K (a.put o.dst undef) _
  rw[hd];refine hK _ _ (x6 a _ (.slice p n c) (.slice q m d) d2 ⟨x9,x8,fun s hs hk=>?_,fun j d hj hd hk=>?_,b2.cell 0 qD,b2.cell 1 qD,(hx.boxed hJ.box qC).boxed b1 qC,(hy.boxed hJ.box qC).boxed b1 qC,⟨_,_,_,rfl⟩,⟨_,_,_,rfl⟩⟩)
  ·have:=h9 s hs
   change (kd s).holds B base _ w at this;rw[hk] at this;exact this
  ·have:=eE j d hj hd
   change (kd d).holds B base _ w at this;rw[hk] at this;exact this
end
end
section
open Go.RowKit
theorem IX (k:Nat) (hk:k<2) (t:Fm) (ht:t.wf) (hl:t.enc.length≤100) (v:Value) (w:World) (hn:Nds w v t.enc):
  Calls Tryz.prog 96 #[.int .i64 (5+(k:Int)),v] w fun e w'=>∃ p n c z,e=.returned (.slice p n c)∧aU w' w.heap.size (.slice p n c) (Fm.enc z)∧Fm.wf z∧(Fm.enc z).length=t.enc.length+1∧aa w w':=by
 obtain⟨z,hz,eE,okz⟩:=lC k ht hk;have h:=ee (5+(k:Int)) t.enc v w hn qB;rw[hz] at h;refine h.mono ?_;rintro e w' ⟨v',rfl,ho,kk⟩;obtain⟨p,n,c,rfl⟩:=ho.own_shape;exact⟨p,n,c,z,rfl,ho,okz,eE,kk⟩
theorem Ib (k:Nat) (hk:k<3) (t u:Fm) (ht:t.wf) (hu:u.wf) (hl:t.enc.length≤100) (hl':u.enc.length≤100) (v v':Value) (w:World) (hn:Nds w v t.enc) (hn':Nds w v' u.enc):
  Calls Tryz.prog 42 #[.int .i64 (2+(k:Int)),v,v'] w fun e w'=>∃ p n c z,e=.returned (.slice p n c)∧aU w' w.heap.size (.slice p n c) (Fm.enc z)∧Fm.wf z∧(Fm.enc z).length=t.enc.length+u.enc.length+1∧aa w w':=by
 obtain⟨z,hz,eE,okz⟩:=jx k ht hu hk;have h:=bQ (2+(k:Int)) t.enc u.enc v v' w hn hn' qB;rw[hz] at h;refine h.mono ?_;rintro e w' ⟨v',rfl,ho,kk⟩;obtain⟨p,n,c,rfl⟩:=ho.own_shape;exact⟨p,n,c,z,rfl,ho,okz,eE,kk⟩
theorem BK (t:Fm) (ht:t.wf) (hl:t.enc.length≤40) (v:Value) (w:World) (hn:Nds w v t.enc):
  Calls Tryz.prog 97 #[v] w fun e w'=>∃ s,e=.returned (.string s)∧(∃ t,ck s t)∧aa w w':=by
 refine(eI t ht qB v w hn).mono ?_;rintro e w' ⟨s,rfl,hb,k⟩;exact⟨s,rfl,⟨t,ht,hb,hl⟩,k⟩
theorem Bw (w:World) (s:ByteArray):aA (w.alloc (.cells #[.string s] 9)) w.heap.size (.slice (some ⟨w.heap.size,0,none⟩) 1 1) [s]:=by
 have h:=World.ownsRow_lit (base:=w.heap.size) (e:=9) (size:=1) w #[.string s] 1 (zm _) (by simp[maxLen]) qD;exact h
def KnX (B:Nat) (w:World) (e:Ending) (w':World):Prop:=∃ s x y,e=.returned (.tuple #[.string s,.agg #[x,y]])∧s.size≤4∧cP 4 w' w.heap.size x∧cP 4 w' w.heap.size y∧Dr B w w'
theorem mB:aG 53:=fun _ _=>by kernel_rfl
theorem nW:aG 96:=fun _ _=>by kernel_rfl
theorem uZ:aG 42:=fun _ _=>by kernel_rfl
theorem fh:aG 97:=fun _ _=>by kernel_rfl
theorem uv:aG 54:=fun _ _=>by kernel_rfl
def D0 (r0:Nat):Nat→Kd
 | 0=>.src
 | 2=>.txt4
 | 3=>.box r0
 | 4=>.fm 3
 | 5=>.fm 3
 | 6=>.fm 7
 | 7=>.fm 4
 | 21=>.names [⟨#[75]⟩,⟨#[68]⟩,⟨#[84]⟩,⟨#[75,52]⟩,⟨#[83,52]⟩,⟨#[71,76]⟩,⟨#[83,53]⟩]
 | 22=>.src
 | 23=>.rnd 7
 | 24=>.ptr
 | 25=>.txt4
 | 26=>.fm 7
 | 27=>.fm 8
 | 28=>.str
 | 29=>.one
 | 30=>.fm 4
 | 31=>.str
 | 32=>.side
 | 33=>.fm 3
 | 34=>.fm 4
 | 35=>.str
 | 36=>.side
 | 37=>.seq
 | 40=>.names [⟨#[84]⟩,⟨#[83,52]⟩,⟨#[83,53]⟩]
 | 41=>.src
 | 42=>.rnd 3
 | 43=>.ptr
 | 44=>.txt4
 | 45=>.fm 4
 | 46=>.str
 | 47=>.side
 | 48=>.fm 3
 | 49=>.str
 | 50=>.side
 | 51=>.seq
 | 54=>.names [⟨#[75,52]⟩,⟨#[83,52]⟩,⟨#[71,76]⟩,⟨#[83,53]⟩]
 | 55=>.src
 | 56=>.rnd 4
 | 57=>.ptr
 | 58=>.txt4
 | 59=>.fm 4
 | 60=>.str
 | 61=>.side
 | 62=>.fm 4
 | 63=>.fm 5
 | 64=>.str
 | 65=>.side
 | 66=>.seq
 | 91=>.names [⟨#[75]⟩,⟨#[84]⟩,⟨#[83,52]⟩]
 | 92=>.src
 | 93=>.rnd 3
 | 94=>.ptr
 | 95=>.txt4
 | 96=>.fm 3
 | 97=>.fm 3
 | 98=>.fm 7
 | 99=>.fm 8
 | 100=>.str
 | 101=>.side
 | 102=>.fm 3
 | 103=>.fm 4
 | 104=>.str
 | 105=>.one
 | 106=>.fm 3
 | 107=>.fm 4
 | 108=>.str
 | 109=>.side
 | 110=>.seq
 | 111=>.names [⟨#[75]⟩,⟨#[84]⟩,⟨#[71,76]⟩]
 | 112=>.src
 | 113=>.rnd 3
 | 114=>.ptr
 | 115=>.txt4
 | 116=>.side
 | 117=>.fm 3
 | 118=>.fm 3
 | 119=>.fm 7
 | 120=>.fm 3
 | 121=>.fm 11
 | 122=>.str
 | 123=>.side
 | 124=>.seq
 | _=>.any
set_option maxRecDepth 100000 in
set_option maxHeartbeats 8000000 in
theorem tW (B:Nat) (w:World) (hs:Src w B):Calls Tryz.prog 51 #[.pointer (some ⟨B,0,none⟩)] w (KnX B w):=by
 have kA:=(aa.refl w).alloc (.cells #[.slice none 0 0,.slice none 0 0] 29);have hb:=aR.made w 29 [.slice none 0 0,.slice none 0 0] qD qD;have d0:=Dr.of hs kA;have hB:=hs.lt
 have Lu:(w.alloc (.cells #[.slice none 0 0,.slice none 0 0] 29)).heap.size=w.heap.size+1:=by simp
 have H1:=hid (jt B 2 qB true 3 qB _ d0.2);go_enter Tryz.func51,Tryz.ntmps51;go_wp2_with fail;refine H1.out.mono ?_;rintro e w1 ⟨v1,ta,rfl,ha,LF,KV,d1⟩;have H2:=hid (jt B 2 qB true 3 qB w1 d1.2);have Ly:=d1.2.lt;rw[Lu] at ha;have Li:=hb.dr d1 qB;have D1:=d0.trans d1;obtain⟨pa,na,qa,rfl⟩:=ha.own_shape;clear hb d0 kA;go_wp2_with fail;refine H2.out.mono ?_;rintro e w2 ⟨v2,tb,rfl,Lc,LG,Ll,d2⟩;have KY:=Li.dr d2 qB;have KS:=ha.dr d2 qB;have x7:=Lc.mono (show w.heap.size+1≤w1.heap.size by have:=d1.size;omega);have D2:=D1.trans d2;obtain⟨pb,nb,qb,rfl⟩:=Lc.own_shape;have H3:=hid (Ib 2 qB ta tb KV Ll qB qB _ _ w2 (KS.nds qB) (x7.nds qB));clear Li d1 d2 D1 ha Lc;go_wp2_with fail;refine H3.out.mono ?_;rintro e w3 ⟨pi,ni,qi,ti,rfl,hi,Lt,LH,k3⟩;have H4:=hid (IX 0 qB ta KV qB _ w3 ((KS.keeps k3).nds qB));go_wp2_with fail;refine H4.out.mono ?_;rintro e w4 ⟨px,nx,qx,tx,rfl,hx,K0,LI,k4⟩;have D4:=(D2.keeps k3).keeps k4;have Lj:=(KY.keeps k3).keeps k4;have Lh:=(KS.keeps k3).keeps k4;have KT:=(x7.keeps k3).keeps k4;have Lk:=(hi.keeps k4).mono (show w.heap.size+1≤w2.heap.size by have:=(KS.len);have:=D2.size;have:=KY.lt;omega);have Lm:=hx.mono (show w.heap.size+1≤w3.heap.size by have:=(KY.keeps k3).lt;omega);clear KS x7 KY hi hx k3 k4 D2 H1 H2 H3 H4;go_wp2_with fail;refine(aE 7 B _ D4.2 qB).mono ?_;rintro e w5 ⟨r5,rfl,LJ,d5⟩;have D5:=D4.trans d5;have KZ:=Lj.dr d5 qB;have Lb:=Lh.dr d5 qB;have x8:=KT.dr d5 qB;have Ld:=Lk.dr d5 qB;have Le:=Lm.dr d5 qB;have HA:=hid (fun wz (D:Dr B w5 wz)=>(Lb.dr D qB).nds qB);have Lw:=hid (fun wz (D:Dr B w5 wz)=>(x8.dr D qB).nds qB);have Lx:=hid (fun wz (D:Dr B w5 wz)=>(Ld.dr D qB).nds qB);have La:=hid (fun wz (D:Dr B w5 wz)=>(Le.dr D qB).nds qB);have LO:w.heap.size<w5.heap.size:=KZ.lt;have Lg:=hid D5;have Lf:=hid KZ;have KP:=hid D5.2;have kd5:=(aa.refl w5).drew;have HJ:Hid (JD B w.heap.size w.heap.size w w5.drew):=hid ⟨D5.keeps kd5,D5.2.keeps kd5,zx qB kd5.size,hB,zm _,KZ.keeps kd5⟩
 have KU:∀ s,([0,3,4,5,6,7]:List Nat).contains s=true→s=0∨s=3∨s=4∨s=5∨s=6∨s=7:=fun s hs=>by simpa using hs
 have x9:Hid ((Kd.fm 3).holds B w.heap.size (.slice pa na qa) w5.drew):=hid ⟨ta,_,KV,qB,qB,Lb.keeps kd5⟩;have H7:Hid ((Kd.fm 3).holds B w.heap.size (.slice pb nb qb) w5.drew):=hid ⟨tb,_,Ll,qB,qB,x8.keeps kd5⟩;have H8:Hid ((Kd.fm 7).holds B w.heap.size (.slice pi ni qi) w5.drew):=hid ⟨ti,_,Lt,qB,qB,Ld.keeps kd5⟩;have H9:Hid ((Kd.fm 4).holds B w.heap.size (.slice px nx qx) w5.drew):=hid ⟨tx,_,K0,qB,qB,Le.keeps kd5⟩;have eE:=hid KU;clear Lh KT Lk Lm Lj D4 d5 D5 KZ Lb x8 Ld Le KU kd5
 by_cases h0:r5=0
 ·subst h0
  go_wp2_with fail;refine dN (L:=18) (nt:=125) (ins:=[0,3,4,5,6,7]) qA qA (fun s v wz=>(D0 w.heap.size s).holds B w.heap.size v wz) (Dr B) (fun _ _ _ _ h=>Kd.dr hB h) (JD B w.heap.size w.heap.size w) (fun _ _ k h=>h.dr k) ?_ qA rfl HJ.out (fun s hs=>?_)
  rotate_left
  ·rcases eE.out s hs with rfl | rfl | rfl | rfl | rfl | rfl
   ·exact(rfl:_=_)
   ·exact(rfl:_=_)
   ·exact x9.out
   ·exact H7.out
   ·exact H8.out
   ·exact H9.out
  refine⟨?_,?_,?_,?_,?_,?_,?_,?_,?_,?_,?_,?_,?_,?_,?_,?_,?_,?_,?_,True.intro⟩
  ·rw[if_neg qC]
   exact nI [⟨#[75]⟩,⟨#[68]⟩,⟨#[84]⟩,⟨#[75,52]⟩,⟨#[83,52]⟩,⟨#[71,76]⟩,⟨#[83,53]⟩] qC (fun a w=>by kernel_rfl) (dd rfl)
  ·rw[if_neg qC]
   exact cW 0 (.inl rfl) qA (dd rfl)
  ·rw[if_neg qC]
   exact s0 7 qC qC 22 _ rfl mB qA rfl (dd rfl)
  ·rw[if_neg qC]
   exact nH [⟨#[75]⟩,⟨#[68]⟩,⟨#[84]⟩,⟨#[75,52]⟩,⟨#[83,52]⟩,⟨#[71,76]⟩,⟨#[83,53]⟩] qC qC 7 qC 21 23 rfl qA qA rfl rfl (dd rfl)
  ·rw[if_neg qC]
   exact sZ 24 rfl qA rfl (dd rfl)
  ·rw[if_neg qC]
   exact cW 6 (.inl rfl) qA (dd rfl)
  ·rw[if_neg qC]
   exact uN 0 7 qC qC 26 _ rfl nW qA rfl (dd rfl)
  ·rw[if_neg qC]
   exact gQ 8 qC 27 _ rfl fh qA rfl (dd rfl)
  ·rw[if_neg qC]
   exact nJ 28 rfl qA rfl (fun d hd=>by cases hd;exact .inl rfl)
  ·rw[if_neg qC]
   exact cW 7 (.inl rfl) qA (dd rfl)
  ·rw[if_neg qC]
   exact gQ 4 qC 30 _ rfl fh qA rfl (dd rfl)
  ·rw[if_neg qC]
   exact yR 29 31 _ rfl uv qA qA rfl rfl (dd rfl)
  ·rw[if_neg qC]
   exact cW 5 (.inl rfl) qA (dd rfl)
  ·rw[if_neg qC]
   exact uN 0 3 qC qC 33 _ rfl nW qA rfl (dd rfl)
  ·rw[if_neg qC]
   exact gQ 4 qC 34 _ rfl fh qA rfl (dd rfl)
  ·rw[if_neg qC]
   exact nJ 35 rfl qA rfl (fun d hd=>by cases hd;exact .inr rfl)
  ·rw[if_neg qC]
   exact nG 32 36 rfl qA qA rfl rfl (dd rfl)
  ·rw[if_neg qC]
   exact cW 25 (.inr rfl) qA (dd rfl)
  ·rw[if_pos rfl]
   refine nK 3 37 rfl rfl 16 qA qC qA rfl rfl (zm _) ?_;intro a w' x y D h;obtain⟨s,e2,x6⟩:=h.dsts 17 2 qC qA rfl;have e3:=h.ptr 3 qA rfl;obtain⟨p,n,c,rfl⟩:=h.x1;obtain⟨q,m,d,rfl⟩:=h.y1;have y0:=h.c0;have y1:=h.c1;have HK:=hid (show KnX B w (.returned (.tuple #[.string s,.agg #[.slice p n c,.slice q m d]])) w' from⟨s,_,_,rfl,x6,h.sx,h.sy,D⟩);have r2:a.tmps.getD 2 undef=.string s:=e2;have r3:a.tmps.getD 3 undef=.pointer (some ⟨w.heap.size,0,none⟩):=e3;rw[Array.getD_eq_getD_getElem?] at r2 r3;have h9:=h.df;simp only[Exit.then];go_wp2_with fail;exact bodyPost_ret (v:=.tuple #[.string s,.agg #[.slice p n c,.slice q m d]]) (by simp[results,Tryz.results51,go_sem,y0,y1,r2,r3]) h9 HK.out
 ·have h0':((r5:Nat):Int)≠0:=qB
  by_cases h1:r5=1
  ·subst h1
   go_wp2_with fail;refine dN (L:=13) (nt:=125) (ins:=[0,3,4,5,6,7]) qA qA (fun s v wz=>(D0 w.heap.size s).holds B w.heap.size v wz) (Dr B) (fun _ _ _ _ h=>Kd.dr hB h) (JD B w.heap.size w.heap.size w) (fun _ _ k h=>h.dr k) ?_ qA rfl HJ.out (fun s hs=>?_)
   rotate_left
   ·rcases eE.out s hs with rfl | rfl | rfl | rfl | rfl | rfl
    ·exact(rfl:_=_)
    ·exact(rfl:_=_)
    ·exact x9.out
    ·exact H7.out
    ·exact H8.out
    ·exact H9.out
   refine⟨?_,?_,?_,?_,?_,?_,?_,?_,?_,?_,?_,?_,?_,?_,True.intro⟩
   ·rw[if_neg qC]
    exact nI [⟨#[84]⟩,⟨#[83,52]⟩,⟨#[83,53]⟩] qC (fun a w=>by kernel_rfl) (dd rfl)
   ·rw[if_neg qC]
    exact cW 0 (.inl rfl) qA (dd rfl)
   ·rw[if_neg qC]
    exact s0 3 qC qC 41 _ rfl mB qA rfl (dd rfl)
   ·rw[if_neg qC]
    exact nH [⟨#[84]⟩,⟨#[83,52]⟩,⟨#[83,53]⟩] qC qC 3 qC 40 42 rfl qA qA rfl rfl (dd rfl)
   ·rw[if_neg qC]
    exact sZ 43 rfl qA rfl (dd rfl)
   ·rw[if_neg qC]
    exact cW 7 (.inl rfl) qA (dd rfl)
   ·rw[if_neg qC]
    exact gQ 4 qC 45 _ rfl fh qA rfl (dd rfl)
   ·rw[if_neg qC]
    exact nJ 46 rfl qA rfl (fun d hd=>by cases hd;exact .inr rfl)
   ·rw[if_neg qC]
    exact cW 4 (.inl rfl) qA (dd rfl)
   ·rw[if_neg qC]
    exact gQ 3 qC 48 _ rfl fh qA rfl (dd rfl)
   ·rw[if_neg qC]
    exact nJ 49 rfl qA rfl (fun d hd=>by cases hd;exact .inr rfl)
   ·rw[if_neg qC]
    exact nG 47 50 rfl qA qA rfl rfl (dd rfl)
   ·rw[if_neg qC]
    exact cW 44 (.inr rfl) qA (dd rfl)
   ·rw[if_pos rfl]
    refine nK 3 51 rfl rfl 11 qA qC qA rfl rfl (zm _) ?_;intro a w' x y D h;obtain⟨s,e2,x6⟩:=h.dsts 12 2 qC qA rfl;have e3:=h.ptr 3 qA rfl;obtain⟨p,n,c,rfl⟩:=h.x1;obtain⟨q,m,d,rfl⟩:=h.y1;have y0:=h.c0;have y1:=h.c1;have HK:=hid (show KnX B w (.returned (.tuple #[.string s,.agg #[.slice p n c,.slice q m d]])) w' from⟨s,_,_,rfl,x6,h.sx,h.sy,D⟩);have r2:a.tmps.getD 2 undef=.string s:=e2;have r3:a.tmps.getD 3 undef=.pointer (some ⟨w.heap.size,0,none⟩):=e3;rw[Array.getD_eq_getD_getElem?] at r2 r3;have h9:=h.df;simp only[Exit.then];go_wp2_with fail;exact bodyPost_ret (v:=.tuple #[.string s,.agg #[.slice p n c,.slice q m d]]) (by simp[results,Tryz.results51,go_sem,y0,y1,r2,r3]) h9 HK.out
  ·have h1':((r5:Nat):Int)≠1:=qB
   by_cases h2:r5=2
   ·subst h2
    go_wp2_with fail;refine dN (L:=14) (nt:=125) (ins:=[0,3,4,5,6,7]) qA qA (fun s v wz=>(D0 w.heap.size s).holds B w.heap.size v wz) (Dr B) (fun _ _ _ _ h=>Kd.dr hB h) (JD B w.heap.size w.heap.size w) (fun _ _ k h=>h.dr k) ?_ qA rfl HJ.out (fun s hs=>?_)
    rotate_left
    ·rcases eE.out s hs with rfl | rfl | rfl | rfl | rfl | rfl
     ·exact(rfl:_=_)
     ·exact(rfl:_=_)
     ·exact x9.out
     ·exact H7.out
     ·exact H8.out
     ·exact H9.out
    refine⟨?_,?_,?_,?_,?_,?_,?_,?_,?_,?_,?_,?_,?_,?_,?_,True.intro⟩
    ·rw[if_neg qC]
     exact nI [⟨#[75,52]⟩,⟨#[83,52]⟩,⟨#[71,76]⟩,⟨#[83,53]⟩] qC (fun a w=>by kernel_rfl) (dd rfl)
    ·rw[if_neg qC]
     exact cW 0 (.inl rfl) qA (dd rfl)
    ·rw[if_neg qC]
     exact s0 4 qC qC 55 _ rfl mB qA rfl (dd rfl)
    ·rw[if_neg qC]
     exact nH [⟨#[75,52]⟩,⟨#[83,52]⟩,⟨#[71,76]⟩,⟨#[83,53]⟩] qC qC 4 qC 54 56 rfl qA qA rfl rfl (dd rfl)
    ·rw[if_neg qC]
     exact sZ 57 rfl qA rfl (dd rfl)
    ·rw[if_neg qC]
     exact cW 7 (.inl rfl) qA (dd rfl)
    ·rw[if_neg qC]
     exact gQ 4 qC 59 _ rfl fh qA rfl (dd rfl)
    ·rw[if_neg qC]
     exact nJ 60 rfl qA rfl (fun d hd=>by cases hd;exact .inr rfl)
    ·rw[if_neg qC]
     exact cW 7 (.inl rfl) qA (dd rfl)
    ·rw[if_neg qC]
     exact uN 0 4 qC qC 62 _ rfl nW qA rfl (dd rfl)
    ·rw[if_neg qC]
     exact gQ 5 qC 63 _ rfl fh qA rfl (dd rfl)
    ·rw[if_neg qC]
     exact nJ 64 rfl qA rfl (fun d hd=>by cases hd;exact .inr rfl)
    ·rw[if_neg qC]
     exact nG 61 65 rfl qA qA rfl rfl (dd rfl)
    ·rw[if_neg qC]
     exact cW 58 (.inr rfl) qA (dd rfl)
    ·rw[if_pos rfl]
     refine nK 3 66 rfl rfl 12 qA qC qA rfl rfl (zm _) ?_;intro a w' x y D h;obtain⟨s,e2,x6⟩:=h.dsts 13 2 qC qA rfl;have e3:=h.ptr 3 qA rfl;obtain⟨p,n,c,rfl⟩:=h.x1;obtain⟨q,m,d,rfl⟩:=h.y1;have y0:=h.c0;have y1:=h.c1;have HK:=hid (show KnX B w (.returned (.tuple #[.string s,.agg #[.slice p n c,.slice q m d]])) w' from⟨s,_,_,rfl,x6,h.sx,h.sy,D⟩);have r2:a.tmps.getD 2 undef=.string s:=e2;have r3:a.tmps.getD 3 undef=.pointer (some ⟨w.heap.size,0,none⟩):=e3;rw[Array.getD_eq_getD_getElem?] at r2 r3;have h9:=h.df;simp only[Exit.then];go_wp2_with fail;exact bodyPost_ret (v:=.tuple #[.string s,.agg #[.slice p n c,.slice q m d]]) (by simp[results,Tryz.results51,go_sem,y0,y1,r2,r3]) h9 HK.out
   ·have h2':((r5:Nat):Int)≠2:=qB
    by_cases h3:r5=3
    ·subst h3
     have DD:Dr B w5 w5:=Dr.of KP.out (aa.refl w5);have bd:=Lf.out;go_wp2_with fail;refine(Ib 2 qB tx ta K0 KV qB qB _ _ w5 (La.out w5 DD) (HA.out w5 DD)).mono ?_;rintro e W2 ⟨p2,n2,q2,z2,rfl,Ln,Lq,Lz,k2⟩;have D2:=DD.keeps k2;have b2:=bd.keeps k2;go_wp2_with fail;refine(IX 0 qB z2 Lq qB _ W2 (Ln.nds qB)).mono ?_;rintro e W3 ⟨p3,n3,q3,z3,rfl,Lo,Lr,LC,k3⟩;have D3:=D2.keeps k3;have b3:=b2.keeps k3;go_wp2_with fail;refine(BK z3 Lr qB _ W3 (Lo.nds qB)).mono ?_;rintro e W4 ⟨s4,rfl,LL,k4⟩;have D4:=D3.keeps k4;have b4:=b3.keeps k4;have ka5:=(aa.refl W4).alloc (.cells #[.string s4] 9);have sd5:=Bw W4 s4
     have gs5:w.heap.size≤W4.heap.size:=by have:=b4.lt;omega
     have D5:=D4.keeps ka5;have b5:=b4.keeps ka5;go_wp2_with fail;refine(BK tx K0 qB _ (W4.alloc (.cells #[.string s4] 9)) (La.out (W4.alloc (.cells #[.string s4] 9)) D5)).mono ?_;rintro e W7 ⟨s7,rfl,LN,k7⟩;have D7:=D5.keeps k7;have b7:=b5.keeps k7;have sd5_7:=sd5.keeps k7;have ka8:=(aa.refl W7).alloc (.cells #[.string s7] 9);have sd8:=Bw W7 s7
     have gs8:w.heap.size≤W7.heap.size:=by have:=b7.lt;omega
     have D8:=D7.keeps ka8;have b8:=b7.keeps ka8;have sd5_7_8:=sd5_7.keeps ka8;have f0:=b8.cell 0 qD;have f1:=b8.cell 1 qD;have g0:=b8.froz 0;have g1:=b8.froz 1;simp only[zl,zj] at f0 f1;have hX:=(cP.mono (m:=4) ⟨_,_,_,_,rfl,sd5_7_8,qD,iW (by assumption)⟩ gs5);have hY:=(cP.mono (m:=4) ⟨_,_,_,_,rfl,sd8,qD,iW (by assumption)⟩ gs8);have e1:=b8.set 0 (.slice (some ⟨W4.heap.size,0,none⟩) 1 1);have e2:=e1.set 1 (.slice (some ⟨W7.heap.size,0,none⟩) 1 1);have y0:=e2.cell 0 qD;have y1:=e2.cell 1 qD;simp only[zb,zc,zl,zj] at y0 y1;have KR:=((Lg.out.trans D8).box (i:=0) (x:=(.slice (some ⟨W4.heap.size,0,none⟩) 1 1)) b8 qB (zm _)).box (i:=1) (x:=(.slice (some ⟨W7.heap.size,0,none⟩) 1 1)) e1 qB (zm _);have HO:=hid ((⟨⟨#[71,76]⟩,(.slice (some ⟨W4.heap.size,0,none⟩) 1 1),(.slice (some ⟨W7.heap.size,0,none⟩) 1 1),rfl,qC,(hX.boxed b8 qC).boxed e1 qC,(hY.boxed b8 qC).boxed e1 qC,KR⟩:KnX B w (.returned (.tuple #[.string ⟨#[71,76]⟩,.agg #[(.slice (some ⟨W4.heap.size,0,none⟩) 1 1),(.slice (some ⟨W7.heap.size,0,none⟩) 1 1)]])) _));clear hX hY e1 e2 KR;go_wp2_with fail;refine bodyPost_ret (v:=.tuple #[.string ⟨#[71,76]⟩,.agg #[(.slice (some ⟨W4.heap.size,0,none⟩) 1 1),(.slice (some ⟨W7.heap.size,0,none⟩) 1 1)]]) (by simp[results,Tryz.results51,go_sem,y0,y1]) rfl HO.out
    ·have h3':((r5:Nat):Int)≠3:=qB
     by_cases h4:r5=4
     ·subst h4
      have DD:Dr B w5 w5:=Dr.of KP.out (aa.refl w5);have bd:=Lf.out;go_wp2_with fail;refine(BK tx K0 qB _ w5 (La.out w5 DD)).mono ?_;rintro e W1 ⟨s1,rfl,LK,k1⟩;have D1:=DD.keeps k1;have b1:=bd.keeps k1;have ka2:=(aa.refl W1).alloc (.cells #[.string s1] 9);have sd2:=Bw W1 s1
      have gs2:w.heap.size≤W1.heap.size:=by have:=b1.lt;omega
      have D2:=D1.keeps ka2;have b2:=b1.keeps ka2;go_wp2_with fail;refine(IX 1 qB ta KV qB _ (W1.alloc (.cells #[.string s1] 9)) (HA.out (W1.alloc (.cells #[.string s1] 9)) D2)).mono ?_;rintro e W4 ⟨p4,n4,q4,z4,rfl,Lp,Ls,LD,k4⟩;have D4:=D2.keeps k4;have b4:=b2.keeps k4;have sd2_4:=sd2.keeps k4;go_wp2_with fail;refine(BK z4 Ls qB _ W4 (Lp.nds qB)).mono ?_;rintro e W5 ⟨s5,rfl,LM,k5⟩;have D5:=D4.keeps k5;have b5:=b4.keeps k5;have sd2_4_5:=sd2_4.keeps k5;have ka6:=(aa.refl W5).alloc (.cells #[.string s5] 9);have sd6:=Bw W5 s5
      have gs6:w.heap.size≤W5.heap.size:=by have:=b5.lt;omega
      have D6:=D5.keeps ka6;have b6:=b5.keeps ka6;have sd2_4_5_6:=sd2_4_5.keeps ka6;have f0:=b6.cell 0 qD;have f1:=b6.cell 1 qD;have g0:=b6.froz 0;have g1:=b6.froz 1;simp only[zl,zj] at f0 f1;have hX:=(cP.mono (m:=4) ⟨_,_,_,_,rfl,sd2_4_5_6,qD,iW (by assumption)⟩ gs2);have hY:=(cP.mono (m:=4) ⟨_,_,_,_,rfl,sd6,qD,iW (by assumption)⟩ gs6);have e1:=b6.set 0 (.slice (some ⟨W1.heap.size,0,none⟩) 1 1);have e2:=e1.set 1 (.slice (some ⟨W5.heap.size,0,none⟩) 1 1);have y0:=e2.cell 0 qD;have y1:=e2.cell 1 qD;simp only[zb,zc,zl,zj] at y0 y1;have KR:=((Lg.out.trans D6).box (i:=0) (x:=(.slice (some ⟨W1.heap.size,0,none⟩) 1 1)) b6 qB (zm _)).box (i:=1) (x:=(.slice (some ⟨W5.heap.size,0,none⟩) 1 1)) e1 qB (zm _);have HO:=hid ((⟨⟨#[68]⟩,(.slice (some ⟨W1.heap.size,0,none⟩) 1 1),(.slice (some ⟨W5.heap.size,0,none⟩) 1 1),rfl,qC,(hX.boxed b6 qC).boxed e1 qC,(hY.boxed b6 qC).boxed e1 qC,KR⟩:KnX B w (.returned (.tuple #[.string ⟨#[68]⟩,.agg #[(.slice (some ⟨W1.heap.size,0,none⟩) 1 1),(.slice (some ⟨W5.heap.size,0,none⟩) 1 1)]])) _));clear hX hY e1 e2 KR;go_wp2_with fail;refine bodyPost_ret (v:=.tuple #[.string ⟨#[68]⟩,.agg #[(.slice (some ⟨W1.heap.size,0,none⟩) 1 1),(.slice (some ⟨W5.heap.size,0,none⟩) 1 1)]]) (by simp[results,Tryz.results51,go_sem,y0,y1]) rfl HO.out
     ·have h4':((r5:Nat):Int)≠4:=qB
      by_cases h5:r5=5
      ·subst h5
       go_wp2_with fail;refine dN (L:=21) (nt:=125) (ins:=[0,3,4,5,6,7]) qA qA (fun s v wz=>(D0 w.heap.size s).holds B w.heap.size v wz) (Dr B) (fun _ _ _ _ h=>Kd.dr hB h) (JD B w.heap.size w.heap.size w) (fun _ _ k h=>h.dr k) ?_ qA rfl HJ.out (fun s hs=>?_)
       rotate_left
       ·rcases eE.out s hs with rfl | rfl | rfl | rfl | rfl | rfl
        ·exact(rfl:_=_)
        ·exact(rfl:_=_)
        ·exact x9.out
        ·exact H7.out
        ·exact H8.out
        ·exact H9.out
       refine⟨?_,?_,?_,?_,?_,?_,?_,?_,?_,?_,?_,?_,?_,?_,?_,?_,?_,?_,?_,?_,?_,?_,True.intro⟩
       ·rw[if_neg qC]
        exact nI [⟨#[75]⟩,⟨#[84]⟩,⟨#[83,52]⟩] qC (fun a w=>by kernel_rfl) (dd rfl)
       ·rw[if_neg qC]
        exact cW 0 (.inl rfl) qA (dd rfl)
       ·rw[if_neg qC]
        exact s0 3 qC qC 92 _ rfl mB qA rfl (dd rfl)
       ·rw[if_neg qC]
        exact nH [⟨#[75]⟩,⟨#[84]⟩,⟨#[83,52]⟩] qC qC 3 qC 91 93 rfl qA qA rfl rfl (dd rfl)
       ·rw[if_neg qC]
        exact sZ 94 rfl qA rfl (dd rfl)
       ·rw[if_neg qC]
        exact cW 4 (.inl rfl) qA (dd rfl)
       ·rw[if_neg qC]
        exact cW 5 (.inl rfl) qA (dd rfl)
       ·rw[if_neg qC]
        exact AJ 1 3 3 qC qC qC 96 97 _ rfl uZ qA qA rfl rfl (dd rfl)
       ·rw[if_neg qC]
        exact uN 1 7 qC qC 98 _ rfl nW qA rfl (dd rfl)
       ·rw[if_neg qC]
        exact gQ 8 qC 99 _ rfl fh qA rfl (dd rfl)
       ·rw[if_neg qC]
        exact nJ 100 rfl qA rfl (fun d hd=>by cases hd;exact .inr rfl)
       ·rw[if_neg qC]
        exact cW 4 (.inl rfl) qA (dd rfl)
       ·rw[if_neg qC]
        exact uN 1 3 qC qC 102 _ rfl nW qA rfl (dd rfl)
       ·rw[if_neg qC]
        exact gQ 4 qC 103 _ rfl fh qA rfl (dd rfl)
       ·rw[if_neg qC]
        exact nJ 104 rfl qA rfl (fun d hd=>by cases hd;exact .inl rfl)
       ·rw[if_neg qC]
        exact cW 5 (.inl rfl) qA (dd rfl)
       ·rw[if_neg qC]
        exact uN 1 3 qC qC 106 _ rfl nW qA rfl (dd rfl)
       ·rw[if_neg qC]
        exact gQ 4 qC 107 _ rfl fh qA rfl (dd rfl)
       ·rw[if_neg qC]
        exact yR 105 108 _ rfl uv qA qA rfl rfl (dd rfl)
       ·rw[if_neg qC]
        exact nG 101 109 rfl qA qA rfl rfl (dd rfl)
       ·rw[if_neg qC]
        exact cW 95 (.inr rfl) qA (dd rfl)
       ·rw[if_pos rfl]
        refine nK 3 110 rfl rfl 19 qA qC qA rfl rfl (zm _) ?_;intro a w' x y D h;obtain⟨s,e2,x6⟩:=h.dsts 20 2 qC qA rfl;have e3:=h.ptr 3 qA rfl;obtain⟨p,n,c,rfl⟩:=h.x1;obtain⟨q,m,d,rfl⟩:=h.y1;have y0:=h.c0;have y1:=h.c1;have HK:=hid (show KnX B w (.returned (.tuple #[.string s,.agg #[.slice p n c,.slice q m d]])) w' from⟨s,_,_,rfl,x6,h.sx,h.sy,D⟩);have r2:a.tmps.getD 2 undef=.string s:=e2;have r3:a.tmps.getD 3 undef=.pointer (some ⟨w.heap.size,0,none⟩):=e3;rw[Array.getD_eq_getD_getElem?] at r2 r3;have h9:=h.df;simp only[Exit.then];go_wp2_with fail;exact bodyPost_ret (v:=.tuple #[.string s,.agg #[.slice p n c,.slice q m d]]) (by simp[results,Tryz.results51,go_sem,y0,y1,r2,r3]) h9 HK.out
      ·have h5':((r5:Nat):Int)≠5:=qB
       go_wp2_with fail;refine dN (L:=15) (nt:=125) (ins:=[0,3,4,5,6,7]) qA qA (fun s v wz=>(D0 w.heap.size s).holds B w.heap.size v wz) (Dr B) (fun _ _ _ _ h=>Kd.dr hB h) (JD B w.heap.size w.heap.size w) (fun _ _ k h=>h.dr k) ?_ qA rfl HJ.out (fun s hs=>?_)
       rotate_left
       ·rcases eE.out s hs with rfl | rfl | rfl | rfl | rfl | rfl
        ·exact(rfl:_=_)
        ·exact(rfl:_=_)
        ·exact x9.out
        ·exact H7.out
        ·exact H8.out
        ·exact H9.out
       refine⟨?_,?_,?_,?_,?_,?_,?_,?_,?_,?_,?_,?_,?_,?_,?_,?_,True.intro⟩
       ·rw[if_neg qC]
        exact nI [⟨#[75]⟩,⟨#[84]⟩,⟨#[71,76]⟩] qC (fun a w=>by kernel_rfl) (dd rfl)
       ·rw[if_neg qC]
        exact cW 0 (.inl rfl) qA (dd rfl)
       ·rw[if_neg qC]
        exact s0 3 qC qC 112 _ rfl mB qA rfl (dd rfl)
       ·rw[if_neg qC]
        exact nH [⟨#[75]⟩,⟨#[84]⟩,⟨#[71,76]⟩] qC qC 3 qC 111 113 rfl qA qA rfl rfl (dd rfl)
       ·rw[if_neg qC]
        exact sZ 114 rfl qA rfl (dd rfl)
       ·rw[if_neg qC]
        exact GJ (fun a w=>by kernel_rfl) (dd rfl)
       ·rw[if_neg qC]
        exact cW 4 (.inl rfl) qA (dd rfl)
       ·rw[if_neg qC]
        exact cW 5 (.inl rfl) qA (dd rfl)
       ·rw[if_neg qC]
        exact AJ 0 3 3 qC qC qC 117 118 _ rfl uZ qA qA rfl rfl (dd rfl)
       ·rw[if_neg qC]
        exact cW 4 (.inl rfl) qA (dd rfl)
       ·rw[if_neg qC]
        exact AJ 2 7 3 qC qC qC 119 120 _ rfl uZ qA qA rfl rfl (dd rfl)
       ·rw[if_neg qC]
        exact gQ 11 qC 121 _ rfl fh qA rfl (dd rfl)
       ·rw[if_neg qC]
        exact nJ 122 rfl qA rfl (fun d hd=>by cases hd;exact .inr rfl)
       ·rw[if_neg qC]
        exact nG 116 123 rfl qA qA rfl rfl (dd rfl)
       ·rw[if_neg qC]
        exact cW 115 (.inr rfl) qA (dd rfl)
       ·rw[if_pos rfl]
        refine nK 3 124 rfl rfl 13 qA qC qA rfl rfl (zm _) ?_;intro a w' x y D h;obtain⟨s,e2,x6⟩:=h.dsts 14 2 qC qA rfl;have e3:=h.ptr 3 qA rfl;obtain⟨p,n,c,rfl⟩:=h.x1;obtain⟨q,m,d,rfl⟩:=h.y1;have y0:=h.c0;have y1:=h.c1;have HK:=hid (show KnX B w (.returned (.tuple #[.string s,.agg #[.slice p n c,.slice q m d]])) w' from⟨s,_,_,rfl,x6,h.sx,h.sy,D⟩);have r2:a.tmps.getD 2 undef=.string s:=e2;have r3:a.tmps.getD 3 undef=.pointer (some ⟨w.heap.size,0,none⟩):=e3;rw[Array.getD_eq_getD_getElem?] at r2 r3;have h9:=h.df;simp only[Exit.then];go_wp2_with fail;exact bodyPost_ret (v:=.tuple #[.string s,.agg #[.slice p n c,.slice q m d]]) (by simp[results,Tryz.results51,go_sem,y0,y1,r2,r3]) h9 HK.out
end
end Go.Proofs.YtagoboblkadelaaGreat
