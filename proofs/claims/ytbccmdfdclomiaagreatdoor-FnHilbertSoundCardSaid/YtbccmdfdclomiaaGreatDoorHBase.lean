import Derived.Test.YtbccmdfdclomiaaGreatDoorHQQ
/- own -/
namespace Go.Proofs.YtbccmdfdclomiaaGreatDoor
section
theorem take_set {α:Type} (xs:List α) (k:Nat) (y:α) (h:k<xs.length):(xs.set k y).take (k+1)=xs.take k++[y]:=by
 induction xs generalizing k with
 | nil=>simp at h
 | cons x l ih=>
  cases k with
  | zero=>simp
  | succ k=>simpa using ih k (by simpa using h)
structure Nd where
 k:Int
 s:Int
deriving DecidableEq
def partsOf (k:Int):Nat:=if k=2∨k=3∨k=4 then 2 else if k=5∨k=6 then 1 else 0
theorem partsOf_le (k:Int):partsOf k≤2:=by unfold partsOf;split;omega;split<;>omega
def skip:Nat→List Nd→Option (List Nd)
 | 0,l=>some l
 | _+1,[]=>none
 | n+1,x::l=>skip (n+partsOf x.k) l
def skipInt (n:Nat) (a:List Nd) (i:Nat):Int:=match skip n (a.drop i) with | none=>-1 | some r=>a.length-r.length
theorem skip_step (n:Nat) (a:List Nd) (i:Nat) (h:i<a.length):skipInt (n+1) a i=skipInt (n+partsOf a[i].k) a (i+1):=by
 unfold skipInt;rw [List.drop_eq_getElem_cons h];rfl
theorem skip_end (n:Nat) (a:List Nd) (i:Nat) (h:a.length≤i):skipInt (n+1) a i = -1:=by
 unfold skipInt;rw [List.drop_eq_nil_of_le h];rfl
theorem skip_zero (a:List Nd) (i:Nat) (h:i≤a.length):skipInt 0 a i=i:=by
 unfold skipInt;simp [skip];omega
def okNd (n:Nd):Bool:=if n.k=0 then decide (0≤n.s∧n.s≤5) else decide (1≤n.k∧n.k≤6∧n.s=0)
def isTree (a:List Nd):Bool:=a.all okNd&&(decide (0<a.length)&&(skipInt 1 a 0==(a.length:Int)))
def isFm (a:List Nd):Bool:=decide (a.length≤40)&&isTree a
inductive Fm where
 | var (v:Nat)
 | fls
 | and (a b:Fm)
 | or (a b:Fm)
 | imp (a b:Fm)
 | box (a:Fm)
 | dia (a:Fm)
deriving DecidableEq
namespace Fm
def enc:Fm→List Nd
 | var v=>[⟨0,v⟩]
 | fls=>[⟨1,0⟩]
 | and a b=>⟨2,0⟩::(a.enc++b.enc)
 | or a b=>⟨3,0⟩::(a.enc++b.enc)
 | imp a b=>⟨4,0⟩::(a.enc++b.enc)
 | box a=>⟨5,0⟩::a.enc
 | dia a=>⟨6,0⟩::a.enc
def wf:Fm→Prop
 | var v=>v<6
 | fls=>True
 | and a b=>a.wf∧b.wf
 | or a b=>a.wf∧b.wf
 | imp a b=>a.wf∧b.wf
 | box a=>a.wf
 | dia a=>a.wf
def plain:Fm→Bool
 | var _=>true
 | fls=>true
 | and a b=>a.plain&&b.plain
 | or a b=>a.plain&&b.plain
 | imp a b=>a.plain&&b.plain
 | box _=>false
 | dia _=>false
def not (a:Fm):Fm:=imp a fls
def kind:Fm→Int
 | var _=>0
 | fls=>1
 | and _ _=>2
 | or _ _=>3
 | imp _ _=>4
 | box _=>5
 | dia _=>6
def sym:Fm→Int
 | var v=>v
 | _=>0
def tail:Fm→List Nd
 | var _=>[]
 | fls=>[]
 | and a b=>a.enc++b.enc
 | or a b=>a.enc++b.enc
 | imp a b=>a.enc++b.enc
 | box a=>a.enc
 | dia a=>a.enc
theorem enc_head (t:Fm):t.enc=⟨t.kind,t.sym⟩::t.tail:=by cases t<;>rfl
def isFls:Fm→Bool
 | fls=>true
 | _=>false
theorem kind_isFls (t:Fm):(t.kind==1)=t.isFls:=by cases t<;>rfl
def isNeg:Fm→Bool
 | imp _ b=>b.isFls
 | _=>false
theorem enc_pos (t:Fm):0<t.enc.length:=by cases t<;>simp [enc]
end Fm
open Fm
theorem skip_enc (t:Fm):∀ (n:Nat) (r:List Nd),skip (n+1) (t.enc++r)=skip n r:=by
 induction t with
 | var v=>intro n r;simp [enc,skip,partsOf]
 | fls=>intro n r;simp [enc,skip,partsOf]
 | and a b iha ihb=>intro n r;simp only [enc,List.cons_append,skip,List.append_assoc];show skip ((n+1)+1) _=_;rw [iha,ihb]
 | or a b iha ihb=>intro n r;simp only [enc,List.cons_append,skip,List.append_assoc];show skip ((n+1)+1) _=_;rw [iha,ihb]
 | imp a b iha ihb=>intro n r;simp only [enc,List.cons_append,skip,List.append_assoc];show skip ((n+1)+1) _=_;rw [iha,ihb]
 | box a iha=>intro n r;simp [enc,skip,partsOf,iha]
 | dia a iha=>intro n r;simp [enc,skip,partsOf,iha]
theorem skip_one (t:Fm) (r:List Nd):skip 1 (t.enc++r)=some r:=by rw [show (1:Nat)=0+1 from rfl,skip_enc];cases r<;>rfl
theorem skip_trees:∀ (l:List Nd) (n:Nat) (r:List Nd),(∀ x∈l,okNd x=true)→skip n l=some r→
  ∃ ts:List Fm,ts.length=n∧(∀ t∈ts,t.wf)∧l=ts.flatMap enc++r:=by
 intro l
 induction l with
 | nil=>
  intro n r _ h
  cases n with
  | zero=>simp [skip] at h;subst h;exact ⟨[],rfl,by simp,by simp⟩
  | succ n=>simp [skip] at h
 | cons x l ih=>
  intro n r ho h
  cases n with
  | zero=>simp [skip] at h;subst h;exact ⟨[],rfl,by simp,by simp⟩
  | succ n=>
   simp only [skip] at h;obtain ⟨ts,hl,hw,he⟩:=ih _ _ (fun y hy=>ho y (List.mem_cons_of_mem _ hy)) h;have hx:=ho x (List.mem_cons_self ..);obtain ⟨k,s⟩:=x;unfold okNd at hx
   simp only at hx hl
   by_cases h0:k=0
   ·subst h0
    simp at hx
    obtain ⟨v,rfl⟩:=Int.eq_ofNat_of_zero_le hx.1;exact ⟨var v::ts,by simp [partsOf] at hl;simp [hl],by simpa [wf] using ⟨by omega,hw⟩,by simp [enc,he]⟩
   ·rw [if_neg h0] at hx
    simp at hx
    obtain ⟨h1,h6,rfl⟩:=hx
    have hk:k=1∨k=2∨k=3∨k=4∨k=5∨k=6:=by omega
    rcases hk with rfl | rfl | rfl | rfl | rfl | rfl
    ·exact ⟨fls::ts,by simp [partsOf] at hl;simp [hl],by simpa [wf] using hw,by simp [enc,he]⟩
    ·simp [partsOf] at hl
     match ts,hl,hw,he with
     | a::b::ts,hl,hw,he=>
      simp at hw
      exact ⟨and a b::ts,by simpa using hl,by simpa [wf] using ⟨⟨hw.1,hw.2.1⟩,hw.2.2⟩,by simp [enc,he]⟩
    ·simp [partsOf] at hl
     match ts,hl,hw,he with
     | a::b::ts,hl,hw,he=>
      simp at hw
      exact ⟨or a b::ts,by simpa using hl,by simpa [wf] using ⟨⟨hw.1,hw.2.1⟩,hw.2.2⟩,by simp [enc,he]⟩
    ·simp [partsOf] at hl
     match ts,hl,hw,he with
     | a::b::ts,hl,hw,he=>
      simp at hw
      exact ⟨imp a b::ts,by simpa using hl,by simpa [wf] using ⟨⟨hw.1,hw.2.1⟩,hw.2.2⟩,by simp [enc,he]⟩
    ·simp [partsOf] at hl
     match ts,hl,hw,he with
     | a::ts,hl,hw,he=>
      simp at hw
      exact ⟨box a::ts,by simpa using hl,by simpa [wf] using hw,by simp [enc,he]⟩
    ·simp [partsOf] at hl
     match ts,hl,hw,he with
     | a::ts,hl,hw,he=>
      simp at hw
      exact ⟨dia a::ts,by simpa using hl,by simpa [wf] using hw,by simp [enc,he]⟩
theorem isTree_enc {a:List Nd} (h:isTree a=true):∃ t:Fm,t.wf∧a=t.enc:=by
 simp only [isTree,Bool.and_eq_true,List.all_eq_true,decide_eq_true_eq,beq_iff_eq] at h;obtain ⟨ho,hp,hs⟩:=h;unfold skipInt at hs;simp only [List.drop_zero] at hs
 cases hk:skip 1 a with
 | none=>simp only [hk] at hs;omega
 | some r=>
  simp [hk] at hs
  have hr:r=[]:=by apply List.eq_nil_of_length_eq_zero;omega
  subst hr;obtain ⟨ts,hl,hw,he⟩:=skip_trees a 1 [] ho hk
  match ts,hl with
  | [t],_=>exact ⟨t,hw t (by simp),by simpa using he⟩
theorem okNd_enc {t:Fm} (h:t.wf):∀ x∈t.enc,okNd x=true:=by
 induction t with
 | var v=>intro x hx;simp [enc] at hx;subst hx;simp [wf] at h;simp [okNd];omega
 | fls=>intro x hx;simp [enc] at hx;subst hx;simp [okNd]
 | and a b iha ihb=>intro x hx;simp [enc] at hx;simp [wf] at h;rcases hx with rfl | hx | hx;simp [okNd];exact iha h.1 x hx;exact ihb h.2 x hx
 | or a b iha ihb=>intro x hx;simp [enc] at hx;simp [wf] at h;rcases hx with rfl | hx | hx;simp [okNd];exact iha h.1 x hx;exact ihb h.2 x hx
 | imp a b iha ihb=>intro x hx;simp [enc] at hx;simp [wf] at h;rcases hx with rfl | hx | hx;simp [okNd];exact iha h.1 x hx;exact ihb h.2 x hx
 | box a iha=>intro x hx;simp [enc] at hx;rcases hx with rfl | hx;simp [okNd];exact iha h x hx
 | dia a iha=>intro x hx;simp [enc] at hx;rcases hx with rfl | hx;simp [okNd];exact iha h x hx
theorem isTree_of_enc {t:Fm} (h:t.wf):isTree t.enc=true:=by
 have h1:=skip_one t [];simp only [List.append_nil] at h1;simp only [isTree,Bool.and_eq_true,List.all_eq_true,decide_eq_true_eq,beq_iff_eq];exact ⟨okNd_enc h,enc_pos t,by simp [skipInt,h1]⟩
theorem skipInt_enc (l:List Nd) (t:Fm) (r:List Nd):skipInt 1 (l++(t.enc++r)) l.length=l.length+t.enc.length:=by
 unfold skipInt;simp [skip_one];omega
end
section
open Go.RowKit
theorem hid {p:Prop} (h:p):Hid p:=h
theorem ret_int {k:IntKind} {a b:Int} (h:a=b):Ending.returned (.int k a)=.returned (.int k b):=by rw [h]
theorem ret_bool {a b:Bool} (h:a=b):Ending.returned (.bool a)=.returned (.bool b):=by rw [h]
def Keeps (w w':World):Prop:=Below w.heap.size w w'
theorem Keeps.refl (w:World):Keeps w w:=Below.refl _ _
theorem Keeps.trans {a b c:World} (h:Keeps a b) (k:Keeps b c):Keeps a c:=Below.trans h (Below.mono k h.size)
theorem Keeps.alloc {a w:World} (h:Keeps a w) (o:Obj):Keeps a (w.alloc o):=Below.alloc h h.size o
theorem Keeps.drew {a w:World} (h:Keeps a w):Keeps a w.drew:=Below.drew h
theorem Keeps.drewN {a w:World} (h:Keeps a w) (n:Nat):Keeps a (w.drewN n):=⟨h.os,h.tape,h.output,h.size,h.block⟩
theorem Keeps.setCell {a w:World} (h:Keeps a w) {p:Addr} (hp:a.heap.size≤p.block) (u:Value):Keeps a (w.setCell p u):=Below.setCell h hp u
theorem Keeps.block {w w':World} (h:Keeps w w') {k:Nat} (hk:k<w.heap.size):w'.heap[k]? = w.heap[k]? := Below.block h k hk
theorem Keeps.cell {w w':World} (h:Keeps w w') {p:Addr} {v:Value} (hc:w.cell? p=some v):w'.cell? p=some v:=
 (Below.cell h (World.block_lt_of_cell? w p hc)).trans hc
theorem Keeps.size {w w':World} (h:Keeps w w'):w.heap.size≤w'.heap.size:=Below.size h
theorem Keeps.grown {a w w':World} {row:Option Nat} (h:Keeps a w) (hg:w.grownBy w' row) (hr:∀ k,row=some k→a.heap.size≤k):Keeps a w':=
 Below.grown h hg h.size hr
theorem Keeps.both {w w1:World} (h:Keeps w w1):(∀ b o,b<w.heap.size→w1.cell? ⟨b,o,none⟩=w.cell? ⟨b,o,none⟩)∧(∀ b o,b<w.heap.size→w1.frozen? ⟨b,o,none⟩=w.frozen? ⟨b,o,none⟩):=
 ⟨fun b o hb=>Below.cell h (p:=⟨b,o,none⟩) hb,fun b o hb=>Below.frozen h (p:=⟨b,o,none⟩) hb⟩
theorem grown_trans {w w1 w2:World} {row:Option Nat} (h:w.grownBy w1 row) (k:w1.grownBy w2 row):w.grownBy w2 row:=
 ⟨k.os.trans h.os,k.tape.trans h.tape,k.output.trans h.output,Nat.le_trans h.size k.size,fun i hi hr=>(k.block i (Nat.lt_of_lt_of_le hi h.size) hr).trans (h.block i hi hr)⟩
theorem grown_set {w:World} (g o:Nat) (u:Value):w.grownBy (w.setCell ⟨g,o,none⟩ u) (some g):=
 ⟨rfl,rfl,rfl,by simp,fun k _ hk=>heap_setCell_other w ⟨g,o,none⟩ k u (fun e=>hk (by simp [e]))⟩
theorem grown_refl (w:World) (row:Option Nat):w.grownBy w row:=⟨rfl,rfl,rfl,Nat.le_refl _,fun _ _ _=>rfl⟩
def At (w:World) (p:Option Addr) (vs:List Value):Prop:=
 ∀ j (h:j<vs.length),∃ b off,p=some ⟨b,off,none⟩∧w.cell? ⟨b,off+j,none⟩=some vs[j]
theorem At.keeps {w w':World} {p:Option Addr} {vs:List Value} (h:At w p vs) (k:Keeps w w'):At w' p vs:=fun j hj=>by
 obtain ⟨b,off,hp,hc⟩:=h j hj;exact ⟨b,off,hp,k.cell hc⟩
theorem At.sub {w:World} {b off:Nat} {xs ys zs:List Value} (h:At w (some ⟨b,off,none⟩) (xs++(ys++zs))) {o:Nat} (ho:o=off+xs.length):At w (some ⟨b,o,none⟩) ys:=fun j hj=>by
 subst ho;obtain ⟨b',off',hp,hc⟩:=h (xs.length+j) (by simp;omega)
 cases hp
 refine ⟨b,_,rfl,?_⟩;rw [Nat.add_assoc,hc]
 congr 1
 rw [List.getElem_append_right (by omega),List.getElem_append_left (by simpa using hj)]
 simp
theorem At.nil (w:World) (p:Option Addr):At w p []:=fun j hj=>by simp at hj
theorem At.of_own {w:World} {base:Nat} {e:TypeId} {size:Nat} {v:Value} {n:Nat} {xs:List Value} (h:w.ownsRow base e size v n xs):
  ∃ p cap,v=.slice p n cap∧n≤cap∧cap≤maxLen∧At w p xs:=by
 rcases h with ⟨hl,⟨rfl,rfl⟩ | ⟨g,cap,cur,rfl,_,hg,hn,hm,hs,ht⟩⟩
 ·have:xs=[]:=List.eq_nil_of_length_eq_zero (by simpa using hl)
  subst this;exact ⟨none,0,rfl,Nat.le_refl _,by simp [maxLen],At.nil _ _⟩
 ·refine ⟨_,cap,rfl,hn,hm,fun j hj=>⟨g,0,rfl,?_⟩⟩
  have:=World.ownsRow.cells (w:=w) (base:=g) (e:=e) (size:=size) (v:=.slice (some ⟨g,0,none⟩) n cap) (n:=n) (xs:=xs) ⟨hl,.inr ⟨g,cap,cur,rfl,Nat.le_refl _,hg,hn,hm,hs,ht⟩⟩ (g:=g) rfl j _ (List.getElem?_eq_getElem hj)
  have hadd:(⟨g,0,none⟩:Addr).add j=⟨g,0+j,none⟩:=by unfold Addr.add;split<;>simp_all
  rwa [hadd] at this
theorem own_keeps {w w':World} {base:Nat} {e:TypeId} {size:Nat} {v:Value} {n:Nat} {xs:List Value} (h:w.ownsRow base e size v n xs) (k:Keeps w w'):w'.ownsRow base e size v n xs:=by
 refine ⟨h.1,?_⟩
 rcases h.2 with hn | ⟨g,cap,cur,rfl,hb,hgg,rest⟩
 ·exact .inl hn
 ·exact .inr ⟨g,cap,cur,rfl,hb,(k.block (Array.getElem?_eq_some_iff.1 hgg).1).trans hgg,rest⟩
theorem own_mono {w:World} {base base':Nat} {e:TypeId} {size:Nat} {v:Value} {n:Nat} {xs:List Value} (h:w.ownsRow base e size v n xs) (hb:base'≤base):w.ownsRow base' e size v n xs:=by
 refine ⟨h.1,?_⟩
 rcases h.2 with hn | ⟨g,cap,cur,rfl,hb',hgg,rest⟩
 ·exact .inl hn
 ·exact .inr ⟨g,cap,cur,rfl,Nat.le_trans hb hb',hgg,rest⟩
def intCells (a:List Int):List Value:=a.map (Value.int .i64)
def Ints (w:World) (v:Value) (a:List Int):Prop:=∃ p cap,v=.slice p a.length cap∧a.length≤cap∧cap≤maxLen∧At w p (intCells a)∧a.length≤2147483648
theorem Ints.keeps {w w':World} {v:Value} {a:List Int} (h:Ints w v a) (k:Keeps w w'):Ints w' v a:=by
 obtain ⟨p,cap,hv,h1,h2,h3,h4⟩:=h;exact ⟨p,cap,hv,h1,h2,h3.keeps k,h4⟩
theorem At.int {w:World} {p:Option Addr} {a:List Int} (h:At w p (intCells a)) (i:Nat) (hi:i<a.length):
  ∃ b off,p=some ⟨b,off,none⟩∧w.cell? ⟨b,off+i,none⟩=some (.int .i64 a[i]):=by
 obtain ⟨b,off,hp,hc⟩:=h i (by simpa [intCells] using hi);exact ⟨b,off,hp,by simpa [intCells] using hc⟩
def OwnI (w:World) (B:Nat) (v:Value) (a:List Int):Prop:=w.ownsRow B 2 1 v a.length (intCells a)
theorem OwnI.ints {w:World} {B:Nat} {v:Value} {a:List Int} (h:OwnI w B v a) (hl:a.length≤2147483648):Ints w v a:=by
 obtain ⟨p,cap,h1,h2,h3,h4⟩:=At.of_own h;exact ⟨p,cap,h1,h2,h3,h4,hl⟩
theorem OwnI.keeps {w w':World} {B:Nat} {v:Value} {a:List Int} (h:OwnI w B v a) (k:Keeps w w'):OwnI w' B v a:=own_keeps h k
theorem OwnI.mono {w:World} {B B':Nat} {v:Value} {a:List Int} (h:OwnI w B v a) (k:B'≤B):OwnI w B' v a:=own_mono h k
section
variable {P:Program}
theorem run_append_none (w:World) (t ty e:TypeId) (i:TypeInfo) (ht:P.underlying t=some (.slice e)) (hi:P.info? e=some i) (base:Option Addr) (n cap:Nat) (h:n≤cap) (c:Nat):
  (Builtin.append_ #[t,t] ty #[.slice base n cap,.slice none 0 c]).run P w=.ok (.slice base n cap) w:=by
 cases base<;>simp [Builtin.append_,run_underlying ht,sizeOf,typeInfo,hi,Builtin.lenOf,Builtin.firstCells,h,storeCells]
theorem wp_append_at {w:World} {o:Oper} {a:Act} {K:Act→World→Prop} {Q:Exit→Act→World→Prop} (s x:Operand) (t:TypeId)
  (ho:o.op=.call { callee:=.builtin .append,args:=#[s,x],argTypes:=#[t,t] })
  (e:TypeId) (i:TypeInfo) (z:Value) (size bytes:Nat) (ht:P.underlying t=some (.slice e)) (hi:P.info? e=some i) (hz:i.zero=some z)
  (hsize:i.size=size) (hby:i.bytes=bytes) (hzs:z.cells.size=size) (hsz:0<size) (base:Nat)
  (v:Value) (n:Nat) (xs:List Value) (hs:a.eval s=v) (hown:w.ownsRow base e size v n xs)
  (p:Option Addr) (m c:Nat) (news:List Value) (hx:a.eval x=.slice p m c) (hl:news.length=m*size) (hat:At w p news) (h1:∀ u∈news,u.oneCell'=true)
  (h63:n+m≤maxLen) (hbytes:(n+m)*bytes≤140737488355328) (hbase:base≤w.heap.size)
  (h:∀ v' w',w'.ownsRow base e size v' (n+m) (xs++news)→w.grownBy w' v.ownBlock→(∀ k,v.ownBlock=some k→base≤k)→K (a.put o.dst v') w'):o.wp P a w K Q:=by
 have hlt:=fun k hk=>(hown.lt k hk).1
 cases p with
 | some ad=>
  refine wp_append_own w s x t ho base e i z size bytes ht hi hz hsize hby hzs hsz v n xs hs hown ad m c news hx hl ?_ h1 h63 hbytes hbase (fun v' w' h1 h2 _=>h v' w' h1 h2 hlt);intro j u hu;obtain ⟨hj,rfl⟩:=List.getElem?_eq_some_iff.1 hu;obtain ⟨b,off,hp,hc⟩:=hat j hj
  cases hp
  have hadd:(⟨b,off,none⟩:Addr).add j=⟨b,off+j,none⟩:=by unfold Addr.add;split<;>simp_all
  rw [hadd];exact hc
 | none=>
  have hn:news=[]:=by
   cases news with
   | nil=>rfl
   | cons u r=>obtain ⟨b,off,hp,_⟩:=hat 0 (by simp);cases hp
  subst hn
  have hm:m=0:=by
   rcases Nat.eq_zero_or_pos m with h | h
   ·exact h
   ·have:=Nat.mul_pos h hsz;simp at hl;omega
  subst hm;obtain ⟨p',cap,hv,hnc,_,_⟩:=At.of_own hown;have hr:=run_append_none (P:=P) w t o.type e i ht hi p' n cap hnc c;unfold Oper.wp execOp;simp only [ho,resolve,invoke,builtin,Sem.run_bind,Sem.run_pure,Result.andThen_ok,List.map_toArray,List.map_cons,List.map_nil,hs,hx,hv,hr];refine h _ _ ?_ ⟨rfl,rfl,rfl,Nat.le_refl _,fun _ _ _=>rfl⟩ hlt;rw [←hv]
  simpa using hown
end
theorem intCells_one (a:List Int):∀ u∈intCells a,u.oneCell'=true:=by
 intro u hu;simp [intCells] at hu;obtain ⟨x,_,rfl⟩:=hu;rfl
theorem infoI:(Tryz.prog.info? 2).map (fun i=>(i.zero,i.size,i.bytes))=some (some (.int .i64 0),1,8):=by kernel_rfl
theorem appIK {w:World} {o:Oper} {a:Act} {K:Act→World→Prop} {Q:Exit→Act→World→Prop} (s x:Operand)
  (ho:o.op=.call { callee:=.builtin .append,args:=#[s,x],argTypes:=#[28,28] }) (base:Nat) (v:Value) (xs:List Int) (hs:a.eval s=v) (hown:OwnI w base v xs)
  (u:Value) (ys:List Int) (hx:a.eval x=u) (hu:Ints w u ys) (hbase:base≤w.heap.size) (hlen:xs.length+ys.length≤2147483648)
  (h:∀ v' w',OwnI w' base v' (xs++ys)→w.grownBy w' v.ownBlock→(∀ k,v.ownBlock=some k→base≤k)→K (a.put o.dst v') w'):o.wp Tryz.prog a w K Q:=by
 obtain ⟨i0,hi,hz0,hz1,hz2⟩:=info_parts infoI;obtain ⟨p,cap,rfl,_,_,hat,_⟩:=hu;refine wp_append_at s x _ ho _ i0 _ 1 8 Tryz.underlying28 hi hz0 hz1 hz2 rfl (by decide) base v _ _ hs hown p _ cap _ hx (by simp [intCells]) hat (intCells_one _) (by unfold maxLen;omega) (by omega) hbase ?_;intro v' w' h1 h2 h3;refine h v' w' ?_ h2 h3;unfold OwnI;rw [List.length_append,show intCells (xs++ys)=intCells xs++intCells ys by simp [intCells]];exact h1
theorem appI {w:World} {ops:Array Oper} {rest:List Oper} {o:Oper} {a:Act} {Q:Exit→Act→World→Prop} (hgd:o.guard=none) (s x:Operand)
  (ho:o.op=.call { callee:=.builtin .append,args:=#[s,x],argTypes:=#[28,28] }) (base:Nat) (v:Value) (xs:List Int) (hs:a.eval s=v) (hown:OwnI w base v xs)
  (u:Value) (ys:List Int) (hx:a.eval x=u) (hu:Ints w u ys) (hbase:base≤w.heap.size) (hlen:xs.length+ys.length≤2147483648)
  (h:∀ v' w',OwnI w' base v' (xs++ys)→w.grownBy w' v.ownBlock→(∀ k,v.ownBlock=some k→base≤k)→wpList Tryz.prog ops Q rest (a.put o.dst v') w'):wpList Tryz.prog ops Q (o::rest) a w:=
 wpList_plain hgd fun _ hK=>appIK s x ho base v xs hs hown u ys hx hu hbase hlen fun v' w' h1 h2 h3=>hK _ _ (h v' w' h1 h2 h3)
theorem Ints.lit1 (w:World) (x:Int):Ints (w.alloc (.cells #[.int .i64 x] 2)) (.slice (some ⟨w.heap.size,0,none⟩) 1 1) [x]:=by
 refine ⟨_,1,rfl,by simp,by simp [maxLen],?_,by simp⟩;intro j hj;simp [intCells] at hj;subst hj;exact ⟨_,_,rfl,by simp [intCells]⟩
theorem OwnI.empty (w:World):OwnI (w.alloc (.cells #[] 2)) w.heap.size (.slice (some ⟨w.heap.size,0,none⟩) 0 0) []:=
 World.ownsRow_made w #[] 0 (Nat.le_refl _) (by simp [maxLen]) (by simp)
theorem OwnI.nil (w:World) (B:Nat):OwnI w B (.slice none 0 0) []:=World.ownsRow_nil w B _ 1
theorem OwnI.len {w:World} {B:Nat} {v:Value} {a:List Int} (h:OwnI w B v a):∀ k,v.ownBlock=some k→B≤k∧k<w.heap.size:=World.ownsRow.lt h
def ndCells:List Nd→List Value
 | []=>[]
 | n::l=>.int .i64 n.k::.int .i64 n.s::ndCells l
theorem ndCells_length (a:List Nd):(ndCells a).length=a.length*2:=by
 induction a with
 | nil=>rfl
 | cons n l ih=>simp only [ndCells,List.length_cons,ih];omega
theorem ndCells_append (a b:List Nd):ndCells (a++b)=ndCells a++ndCells b:=by
 induction a with
 | nil=>rfl
 | cons n l ih=>simp [ndCells,ih]
theorem ndCells_get (a:List Nd) (i:Nat) (h:i<a.length):(ndCells a)[i*2]? = some (.int .i64 a[i].k)∧(ndCells a)[i*2+1]? = some (.int .i64 a[i].s):=by
 induction a generalizing i with
 | nil=>simp at h
 | cons n l ih=>
  cases i with
  | zero=>simp [ndCells]
  | succ i=>
   have:=ih i (by simpa using h);rw [show (i+1)*2=i*2+1+1 by omega]
   simpa [ndCells] using this
def Nds (w:World) (v:Value) (a:List Nd):Prop:=∃ p cap,v=.slice p a.length cap∧a.length≤cap∧cap≤maxLen∧At w p (ndCells a)∧a.length≤2147483648
theorem Nds.keeps {w w':World} {v:Value} {a:List Nd} (h:Nds w v a) (k:Keeps w w'):Nds w' v a:=by
 obtain ⟨p,cap,hv,h1,h2,h3,h4⟩:=h;exact ⟨p,cap,hv,h1,h2,h3.keeps k,h4⟩
theorem At.nd {w:World} {p:Option Addr} {a:List Nd} (h:At w p (ndCells a)) (i:Nat) (hi:i<a.length):
  ∃ b off,p=some ⟨b,off,none⟩∧w.cell? ⟨b,off+i*2,none⟩=some (.int .i64 a[i].k)∧w.cell? ⟨b,off+i*2+1,none⟩=some (.int .i64 a[i].s):=by
 obtain ⟨g1,g2⟩:=ndCells_get a i hi;have hl:=ndCells_length a;obtain ⟨b,off,hp,hc⟩:=h (i*2) (by omega);obtain ⟨b',off',hp',hc'⟩:=h (i*2+1) (by omega);rw [hp] at hp'
 cases hp'
 refine ⟨b,off,hp,?_,?_⟩
 ·rw [hc];rw [List.getElem?_eq_getElem (by omega)] at g1;exact g1
 ·rw [show off+i*2+1=off+(i*2+1) by omega,hc'];rw [List.getElem?_eq_getElem (by omega)] at g2;exact g2
theorem Nds.head {w:World} {v:Value} {x:Nd} {r:List Nd} (h:Nds w v (x::r)):∃ b off n cap,v=.slice (some ⟨b,off,none⟩) n cap∧0<n∧n≤cap∧cap≤maxLen∧n≤2147483648∧w.cell? ⟨b,off,none⟩=some (.int .i64 x.k)∧w.cell? ⟨b,off+1,none⟩=some (.int .i64 x.s):=by
 obtain ⟨p,cap,rfl,h1,h2,h3,h4⟩:=h;obtain ⟨b,off,rfl,h5,h6⟩:=h3.nd 0 (by simp);exact ⟨b,off,_,cap,rfl,by simp,h1,h2,h4,by simpa using h5,by simpa using h6⟩
theorem Nds.root {w:World} {v:Value} {t:Fm} (h:Nds w v t.enc):∃ b off n cap,v=.slice (some ⟨b,off,none⟩) n cap∧0<n∧n≤cap∧cap≤maxLen∧n≤2147483648∧w.cell? ⟨b,off,none⟩=some (.int .i64 t.kind)∧w.cell? ⟨b,off+1,none⟩=some (.int .i64 t.sym):=by
 rw [Fm.enc_head] at h;exact h.head
theorem At.ptrN {w:World} {p:Option Addr} {a:List Nd} (h:At w p (ndCells a)) (hp:0<a.length):∃ b off,p=some ⟨b,off,none⟩:=by
 obtain ⟨b,off,hp,_⟩:=h.nd 0 hp;exact ⟨b,off,hp⟩
theorem Nds.sub {w:World} {b off:Nat} {l m r:List Nd} (h:At w (some ⟨b,off,none⟩) (ndCells (l++(m++r)))) (hl:m.length≤2147483648) {o n cap:Nat} (ho:o=off+l.length*2) (hn:n=m.length) (hc:n≤cap) (hm:cap≤maxLen):
  Nds w (.slice (some ⟨b,o,none⟩) n cap) m:=by
 subst hn;rw [ndCells_append,ndCells_append] at h;exact ⟨_,_,rfl,hc,hm,h.sub (by rw [ndCells_length];exact ho),hl⟩
def OwnN (w:World) (B:Nat) (v:Value) (a:List Nd):Prop:=w.ownsRow B 74 2 v a.length (ndCells a)
theorem OwnN.nds {w:World} {B:Nat} {v:Value} {a:List Nd} (h:OwnN w B v a) (hl:a.length≤2147483648):Nds w v a:=by
 obtain ⟨p,cap,h1,h2,h3,h4⟩:=At.of_own h;exact ⟨p,cap,h1,h2,h3,h4,hl⟩
theorem OwnN.keeps {w w':World} {B:Nat} {v:Value} {a:List Nd} (h:OwnN w B v a) (k:Keeps w w'):OwnN w' B v a:=own_keeps h k
theorem OwnN.mono {w:World} {B B':Nat} {v:Value} {a:List Nd} (h:OwnN w B v a) (k:B'≤B):OwnN w B' v a:=own_mono h k
theorem ndCells_one (a:List Nd):∀ u∈ndCells a,u.oneCell'=true:=by
 induction a with
 | nil=>intro u hu;simp [ndCells] at hu
 | cons n l ih=>intro u hu;simp [ndCells] at hu;rcases hu with rfl | rfl | hu;rfl;rfl;exact ih u hu
theorem infoN:(Tryz.prog.info? 74).map (fun i=>(i.zero,i.size,i.bytes))=some (some (.agg #[.int .i64 0,.int .i64 0]),2,16):=by kernel_rfl
theorem appNK {w:World} {o:Oper} {a:Act} {K:Act→World→Prop} {Q:Exit→Act→World→Prop} (s x:Operand)
  (ho:o.op=.call { callee:=.builtin .append,args:=#[s,x],argTypes:=#[34,34] }) (base:Nat) (v:Value) (xs:List Nd) (hs:a.eval s=v) (hown:OwnN w base v xs)
  (u:Value) (ys:List Nd) (hx:a.eval x=u) (hu:Nds w u ys) (hbase:base≤w.heap.size) (hlen:xs.length+ys.length≤2147483648)
  (h:∀ v' w',OwnN w' base v' (xs++ys)→w.grownBy w' v.ownBlock→(∀ k,v.ownBlock=some k→base≤k)→K (a.put o.dst v') w'):o.wp Tryz.prog a w K Q:=by
 obtain ⟨i0,hi,hz0,hz1,hz2⟩:=info_parts infoN;obtain ⟨p,cap,rfl,_,_,hat,_⟩:=hu;refine wp_append_at s x _ ho _ i0 _ 2 16 Tryz.underlying34 hi hz0 hz1 hz2 rfl (by decide) base v _ _ hs hown p _ cap _ hx (ndCells_length _) hat (ndCells_one _) (by unfold maxLen;omega) (by omega) hbase ?_;intro v' w' h1 h2 h3;refine h v' w' ?_ h2 h3;unfold OwnN;rw [List.length_append,show ndCells (xs++ys)=ndCells xs++ndCells ys by exact ndCells_append _ _];exact h1
theorem appN {w:World} {ops:Array Oper} {rest:List Oper} {o:Oper} {a:Act} {Q:Exit→Act→World→Prop} (hgd:o.guard=none) (s x:Operand)
  (ho:o.op=.call { callee:=.builtin .append,args:=#[s,x],argTypes:=#[34,34] }) (base:Nat) (v:Value) (xs:List Nd) (hs:a.eval s=v) (hown:OwnN w base v xs)
  (u:Value) (ys:List Nd) (hx:a.eval x=u) (hu:Nds w u ys) (hbase:base≤w.heap.size) (hlen:xs.length+ys.length≤2147483648)
  (h:∀ v' w',OwnN w' base v' (xs++ys)→w.grownBy w' v.ownBlock→(∀ k,v.ownBlock=some k→base≤k)→wpList Tryz.prog ops Q rest (a.put o.dst v') w'):wpList Tryz.prog ops Q (o::rest) a w:=
 wpList_plain hgd fun _ hK=>appNK s x ho base v xs hs hown u ys hx hu hbase hlen fun v' w' h1 h2 h3=>hK _ _ (h v' w' h1 h2 h3)
theorem stepN {w:World} {ops:Array Oper} {o:Oper} {a:Act} {K:Act→World→Prop} {Q:Exit→Act→World→Prop} {E:Prop} (hgd:o.guard=none) (s x:Operand)
  (ho:o.op=.call { callee:=.builtin .append,args:=#[s,x],argTypes:=#[34,34] }) (base:Nat) (v:Value) (xs:List Nd) (hs:a.eval s=v) (hown:OwnN w base v xs)
  (u:Value) (ys:List Nd) (hx:a.eval x=u) (hu:Nds w u ys) (hbase:base≤w.heap.size) (hlen:xs.length+ys.length≤2147483648)
  (h:∀ v' w',OwnN w' base v' (xs++ys)→w.grownBy w' v.ownBlock→(∀ k,v.ownBlock=some k→base≤k)→K (a.put o.dst v') w'):if Region.wanted o (yielded ops a.tmps)=true then Oper.wp Tryz.prog o a w K Q else E:=by
 rw [if_pos (by simp [Region.wanted,hgd])];exact appNK s x ho base v xs hs hown u ys hx hu hbase hlen h
theorem OwnN.len {w:World} {B:Nat} {v:Value} {a:List Nd} (h:OwnN w B v a):∀ k,v.ownBlock=some k→B≤k∧k<w.heap.size:=World.ownsRow.lt h
theorem OwnN.lit1 (w:World) (n:Nd):OwnN (w.alloc (.cells #[.int .i64 n.k,.int .i64 n.s] 74)) w.heap.size (.slice (some ⟨w.heap.size,0,none⟩) 1 1) [n]:=by
 refine ⟨by simp [ndCells],.inr ⟨w.heap.size,1,_,rfl,Nat.le_refl _,heap_alloc_new w _,by simp,by simp [maxLen],by simp,by simp [ndCells]⟩⟩
theorem OwnN.nil (w:World) (B:Nat):OwnN w B (.slice none 0 0) []:=World.ownsRow_nil w B _ 2
theorem OwnN.empty (w:World):OwnN (w.alloc (.cells #[] 74)) w.heap.size (.slice (some ⟨w.heap.size,0,none⟩) 0 0) []:=
 World.ownsRow_made w #[] 0 (Nat.le_refl _) (by simp [maxLen]) (by simp)
def SlC {α:Type} (sz:Nat) (R:World→(Nat→Value)→α→Prop) (w:World) (v:Value) (xs:List α):Prop:=
 ∃ p cap,v=.slice p xs.length cap∧xs.length≤cap∧cap≤maxLen∧xs.length≤2147483648∧
  ∀ i (h:i<xs.length),∃ b off f,p=some ⟨b,off,none⟩∧(∀ c,c<sz→w.cell? ⟨b,off+i*sz+c,none⟩=some (f c))∧R w f xs[i]
def Stays {α:Type} (R:World→(Nat→Value)→α→Prop):Prop:=∀ w w' f x,Keeps w w'→R w f x→R w' f x
theorem SlC.keeps {α:Type} {sz:Nat} {R:World→(Nat→Value)→α→Prop} (hR:Stays R) {w w':World} {v:Value} {xs:List α} (h:SlC sz R w v xs) (k:Keeps w w'):SlC sz R w' v xs:=by
 obtain ⟨p,cap,hv,h1,h2,h3,h4⟩:=h;refine ⟨p,cap,hv,h1,h2,h3,fun i hi=>?_⟩;obtain ⟨b,off,f,hp,hc,hr⟩:=h4 i hi;exact ⟨b,off,f,hp,fun c hcs=>k.cell (hc c hcs),hR _ _ _ _ k hr⟩
theorem SlC.lit {α:Type} {R:World→(Nat→Value)→α→Prop} (hR:Stays R) (w:World) (E:TypeId) (us:List Value) (xs:List α) (hl:xs.length=us.length) (hm:xs.length≤2147483648)
  (h:∀ i (h1:i<us.length) (h2:i<xs.length),R w (fun _=>us[i]) xs[i]):SlC 1 R (w.alloc (.cells us.toArray E)) (.slice (some ⟨w.heap.size,0,none⟩) us.length us.length) xs:=by
 refine ⟨_,us.length,by rw [hl],by omega,by unfold maxLen;omega,hm,fun i hi=>⟨w.heap.size,0,fun _=>us[i]'(by omega),rfl,fun c hc=>?_,hR _ _ _ _ ((Keeps.refl w).alloc _) (h i (by omega) hi)⟩⟩
 obtain rfl:c=0:=by omega
 rw [cell_of_row _ w.heap.size (0+i*1+0) us.toArray E (0,0) (heap_alloc_new w _)];simp [hl▸hi]
def NdsL (w:World) (v:Value) (xs:List (List Nd)):Prop:=SlC 1 (fun w f x=>Nds w (f 0) x) w v xs
theorem NdsL.keeps {w w':World} {v:Value} {xs:List (List Nd)} (h:NdsL w v xs) (k:Keeps w w'):NdsL w' v xs:=
 SlC.keeps (R:=fun w f x=>Nds w (f 0) x) (fun _ _ _ _ k h=>Nds.keeps h k) h k
theorem NdsL.lit {w:World} (us:List Value) (xs:List (List Nd)) (hl:xs.length=us.length) (hm:xs.length≤2147483648)
  (h:∀ i (h1:i<us.length) (h2:i<xs.length),Nds w us[i] xs[i]):NdsL (w.alloc (.cells us.toArray 34)) (.slice (some ⟨w.heap.size,0,none⟩) us.length us.length) xs:=
 SlC.lit (R:=fun w f x=>Nds w (f 0) x) (fun _ _ _ _ k h=>Nds.keeps h k) w _ us xs hl hm h
theorem NdsL.lit1 {w:World} {u:Value} {x:List Nd} (h:Nds w u x):NdsL (w.alloc (.cells #[u] 34)) (.slice (some ⟨w.heap.size,0,none⟩) 1 1) [x]:=
 NdsL.lit [u] [x] rfl (by simp) (fun i h1 h2=>by
  obtain rfl:i=0:=by simp at h1;omega
  exact h)
theorem NdsL.lit2 {w:World} {u u':Value} {x x':List Nd} (h:Nds w u x) (h':Nds w u' x'):NdsL (w.alloc (.cells #[u,u'] 34)) (.slice (some ⟨w.heap.size,0,none⟩) 2 2) [x,x']:=
 NdsL.lit [u,u'] [x,x'] rfl (by simp) (fun i h1 h2=>by
  simp at h1
  have hi:i=0∨i=1:=by omega
  rcases hi with rfl | rfl
  ·exact h
  ·exact h')
theorem NdsL.lit3 {w:World} {u u' u'':Value} {x x' x'':List Nd} (h:Nds w u x) (h':Nds w u' x') (h'':Nds w u'' x''):NdsL (w.alloc (.cells #[u,u',u''] 34)) (.slice (some ⟨w.heap.size,0,none⟩) 3 3) [x,x',x'']:=
 NdsL.lit [u,u',u''] [x,x',x''] rfl (by simp) (fun i h1 h2=>by
  simp at h1
  have hi:i=0∨i=1∨i=2:=by omega
  rcases hi with rfl | rfl | rfl
  ·exact h
  ·exact h'
  ·exact h'')
theorem NdsL.lit3N {w:World} {N:Nat} (hN:N=w.heap.size) {u u' u'':Value} {x x' x'':List Nd} (h:Nds w u x) (h':Nds w u' x') (h'':Nds w u'' x''):NdsL (w.alloc (.cells #[u,u',u''] 34)) (.slice (some ⟨N,0,none⟩) 3 3) [x,x',x'']:=by
 subst hN;exact NdsL.lit3 h h' h''
theorem NdsL.lit2N {w:World} {N:Nat} (hN:N=w.heap.size) {u u':Value} {x x':List Nd} (h:Nds w u x) (h':Nds w u' x'):NdsL (w.alloc (.cells #[u,u'] 34)) (.slice (some ⟨N,0,none⟩) 2 2) [x,x']:=by
 subst hN;exact NdsL.lit2 h h'
theorem Nds.shape {w:World} {v:Value} {a:List Nd} (h:Nds w v a):∃ p n cap,v=.slice p n cap:=by
 obtain ⟨p,cap,hv,_⟩:=h;exact ⟨p,_,cap,hv⟩
theorem NdsL.get {w:World} {p:Option Addr} {n cap:Nat} {xs:List (List Nd)} (h:NdsL w (.slice p n cap) xs) (i:Nat) (hi:i<xs.length):
  ∃ b off u,p=some ⟨b,off,none⟩∧w.cell? ⟨b,off+i,none⟩=some u∧Nds w u xs[i]:=by
 obtain ⟨p',cap',hv,h1,h2,h3,h4⟩:=h
 cases hv
 obtain ⟨b,off,f,hp,hc,hr⟩:=h4 i hi;exact ⟨b,off,f 0,hp,by simpa using hc 0 (by omega),hr⟩
theorem OwnI.shape {w:World} {B:Nat} {v:Value} {a:List Int} (h:OwnI w B v a) (hp:0<a.length):∃ g cap,v=.slice (some ⟨g,0,none⟩) a.length cap∧B≤g∧g<w.heap.size∧a.length≤cap∧cap≤maxLen:=by
 rcases h.2 with ⟨_,h0⟩ | ⟨g,cap,cur,rfl,hb,hg,hn,hm,_⟩
 ·omega
 ·exact ⟨g,cap,rfl,hb,(Array.getElem?_eq_some_iff.1 hg).1,hn,hm⟩
theorem OwnI.cell {w:World} {B:Nat} {g n cap:Nat} {a:List Int} (h:OwnI w B (.slice (some ⟨g,0,none⟩) n cap) a) (i:Nat) (hi:i<a.length):
  w.cell? ⟨g,i,none⟩=some (.int .i64 a[i])∧w.frozen? ⟨g,i,none⟩=false:=by
 obtain ⟨g',cap',hv,_⟩:=h.shape (by omega)
 cases hv
 have h':w.ownsRow B 2 1 (.slice (some ⟨g,0,none⟩) a.length cap) a.length (intCells a):=h;refine ⟨?_,h'.frozenAt i⟩;rw [h'.cellAt i (by omega)];simp [intCells,hi]
theorem OwnI.store {w:World} {B:Nat} {g n cap:Nat} {a:List Int} (h:OwnI w B (.slice (some ⟨g,0,none⟩) n cap) a) (i:Nat) (hi:i<a.length) (x:Int):
  OwnI (w.setCell ⟨g,i,none⟩ (.int .i64 x)) B (.slice (some ⟨g,0,none⟩) n cap) (a.set i x)∧w.grownBy (w.setCell ⟨g,i,none⟩ (.int .i64 x)) (some g):=by
 obtain ⟨g',cap',hv,_⟩:=h.shape (by omega)
 cases hv
 have h':w.ownsRow B 2 1 (.slice (some ⟨g,0,none⟩) a.length cap) a.length (intCells a):=h;have:=h'.stored i (.int .i64 x);refine ⟨?_,this.2⟩;unfold OwnI;rw [List.length_set,show intCells (a.set i x)=(intCells a).set i (.int .i64 x) by simp [intCells,List.map_set]];exact this.1
theorem OwnN.shape {w:World} {B:Nat} {v:Value} {a:List Nd} (h:OwnN w B v a) (hp:0<a.length):∃ g cap,v=.slice (some ⟨g,0,none⟩) a.length cap∧B≤g∧g<w.heap.size∧a.length≤cap∧cap≤maxLen:=by
 rcases h.2 with ⟨_,h0⟩ | ⟨g,cap,cur,rfl,hb,hg,hn,hm,_⟩
 ·omega
 ·exact ⟨g,cap,rfl,hb,(Array.getElem?_eq_some_iff.1 hg).1,hn,hm⟩
theorem OwnN.cell {w:World} {B:Nat} {g n cap:Nat} {a:List Nd} (h:OwnN w B (.slice (some ⟨g,0,none⟩) n cap) a) (i:Nat) (hi:i<a.length):
  w.cell? ⟨g,i*2,none⟩=some (.int .i64 a[i].k)∧w.cell? ⟨g,i*2+1,none⟩=some (.int .i64 a[i].s)∧w.frozen? ⟨g,i*2,none⟩=false∧w.frozen? ⟨g,i*2+1,none⟩=false:=by
 obtain ⟨g',cap',hv,_⟩:=h.shape (by omega)
 cases hv
 have h':w.ownsRow B 74 2 (.slice (some ⟨g,0,none⟩) a.length cap) a.length (ndCells a):=h;obtain ⟨g1,g2⟩:=ndCells_get a i hi;exact ⟨by rw [h'.cellAt _ (by omega)];exact g1,by rw [h'.cellAt _ (by omega)];exact g2,h'.frozenAt _,h'.frozenAt _⟩
theorem ndCells_setk (a:List Nd) (i:Nat) (hi:i<a.length) (x:Int):(ndCells a).set (i*2) (.int .i64 x)=ndCells (a.set i ⟨x,a[i].s⟩):=by
 induction a generalizing i with
 | nil=>simp at hi
 | cons n l ih=>
  cases i with
  | zero=>simp [ndCells]
  | succ i=>rw [show (i+1)*2=i*2+1+1 by omega];simpa [ndCells] using ih i (by simpa using hi)
theorem ndCells_sets (a:List Nd) (i:Nat) (hi:i<a.length) (x:Int):(ndCells a).set (i*2+1) (.int .i64 x)=ndCells (a.set i ⟨a[i].k,x⟩):=by
 induction a generalizing i with
 | nil=>simp at hi
 | cons n l ih=>
  cases i with
  | zero=>simp [ndCells]
  | succ i=>rw [show (i+1)*2+1=i*2+1+1+1 by omega];simpa [ndCells] using ih i (by simpa using hi)
theorem OwnN.storek {w:World} {B:Nat} {g n cap:Nat} {a:List Nd} (h:OwnN w B (.slice (some ⟨g,0,none⟩) n cap) a) (i:Nat) (hi:i<a.length) (x:Int):
  OwnN (w.setCell ⟨g,i*2,none⟩ (.int .i64 x)) B (.slice (some ⟨g,0,none⟩) n cap) (a.set i ⟨x,a[i].s⟩)∧w.grownBy (w.setCell ⟨g,i*2,none⟩ (.int .i64 x)) (some g):=by
 obtain ⟨g',cap',hv,_⟩:=h.shape (by omega)
 cases hv
 have h':w.ownsRow B 74 2 (.slice (some ⟨g,0,none⟩) a.length cap) a.length (ndCells a):=h;have:=h'.stored (i*2) (.int .i64 x);refine ⟨?_,this.2⟩;unfold OwnN;rw [List.length_set,←ndCells_setk a i hi];exact this.1
theorem OwnN.stores {w:World} {B:Nat} {g n cap:Nat} {a:List Nd} (h:OwnN w B (.slice (some ⟨g,0,none⟩) n cap) a) (i:Nat) (hi:i<a.length) (x:Int):
  OwnN (w.setCell ⟨g,i*2+1,none⟩ (.int .i64 x)) B (.slice (some ⟨g,0,none⟩) n cap) (a.set i ⟨a[i].k,x⟩)∧w.grownBy (w.setCell ⟨g,i*2+1,none⟩ (.int .i64 x)) (some g):=by
 obtain ⟨g',cap',hv,_⟩:=h.shape (by omega)
 cases hv
 have h':w.ownsRow B 74 2 (.slice (some ⟨g,0,none⟩) a.length cap) a.length (ndCells a):=h;have:=h'.stored (i*2+1) (.int .i64 x);refine ⟨?_,this.2⟩;unfold OwnN;rw [List.length_set,←ndCells_sets a i hi];exact this.1
def Strs (w:World) (v:Value) (ss:List ByteArray):Prop:=SlC 1 (fun _ f (s:ByteArray)=>f 0=.string s) w v ss
theorem Strs.keeps {w w':World} {v:Value} {ss:List ByteArray} (h:Strs w v ss) (k:Keeps w w'):Strs w' v ss:=
 SlC.keeps (R:=fun _ f (s:ByteArray)=>f 0=.string s) (fun _ _ _ _ _ h=>h) h k
theorem Strs.shape {w:World} {v:Value} {ss:List ByteArray} (h:Strs w v ss):∃ p cap,v=.slice p ss.length cap∧ss.length≤cap∧cap≤maxLen∧ss.length≤2147483648:=by
 obtain ⟨p,cap,hv,h1,h2,h3,_⟩:=h;exact ⟨p,cap,hv,h1,h2,h3⟩
theorem Strs.get {w:World} {p:Option Addr} {n cap:Nat} {ss:List ByteArray} (h:Strs w (.slice p n cap) ss) (i:Nat) (hi:i<ss.length):
  ∃ b off,p=some ⟨b,off,none⟩∧w.cell? ⟨b,off+i,none⟩=some (.string ss[i]):=by
 obtain ⟨p',cap',hv,h1,h2,h3,h4⟩:=h
 cases hv
 obtain ⟨b,off,f,hp,hc,hr⟩:=h4 i hi;exact ⟨b,off,hp,by have:=hc 0 (by omega);rw [hr] at this;simpa using this⟩
theorem Strs.lit {w:World} (ss:List ByteArray) (hm:ss.length≤2147483648):Strs (w.alloc (.cells (ss.map Value.string).toArray 9)) (.slice (some ⟨w.heap.size,0,none⟩) ss.length ss.length) ss:=by
 have:=SlC.lit (R:=fun _ f (s:ByteArray)=>f 0=.string s) (fun _ _ _ _ _ h=>h) w 9 (ss.map Value.string) ss (by simp) hm (fun i h1 h2=>by simp)
 simpa [Strs] using this
end
end Go.Proofs.YtbccmdfdclomiaaGreatDoor
