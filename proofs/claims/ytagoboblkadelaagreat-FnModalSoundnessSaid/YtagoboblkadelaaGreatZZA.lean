import Derived.Test.YtagoboblkadelaaGreatZAA
/- own -/
namespace Go.Proofs.YtagoboblkadelaaGreat
set_option maxHeartbeats 1000000
section
structure Nd where
 k:Int
 s:Int
deriving DecidableEq
def bZ (k:Int):Nat:=if k=2∨k=3∨k=4 then 2 else if k=5∨k=6 then 1 else 0
theorem sM (k:Int):bZ k≤2:=by unfold bZ;split;omega;split<;>omega
def skip:Nat→List Nd→Option (List Nd)
 | 0,l=>some l
 | _+1,[]=>none
 | n+1,x::l=>skip (n+bZ x.k) l
def cD (n:Nat) (a:List Nd) (i:Nat):Int:=match skip n (a.drop i) with | none=>-1 | some r=>a.length-r.length
theorem uK (n:Nat) (a:List Nd) (i:Nat) (h:i<a.length):cD (n+1) a i=cD (n+bZ a[i].k) a (i+1):=by
 unfold cD;rw[List.drop_eq_getElem_cons h];rfl
theorem yP (n:Nat) (a:List Nd) (i:Nat) (h:a.length≤i):cD (n+1) a i = -1:=by
 unfold cD;rw[List.drop_eq_nil_of_le h];rfl
theorem uL (a:List Nd) (i:Nat) (h:i≤a.length):cD 0 a i=i:=by
 unfold cD;simp[skip];omega
def dR (n:Nd):Bool:=if n.k=0 then decide (0≤n.s∧n.s≤5) else decide (1≤n.k∧n.k≤6∧n.s=0)
def fJ (a:List Nd):Bool:=a.all dR&&(decide (0<a.length)&&(cD 1 a 0==(a.length:Int)))
def qf (a:List Nd):Bool:=decide (a.length≤40)&&fJ a
inductive Fm where
 | var (v:Nat)
 | fls
 | and (a b:Fm)
 | or (a b:Fm)
 | imp (a b:Fm)
 | box (a:Fm)
 | dia (a:Fm)
deriving DecidableEq
namespace Fm
def enc:Fm→List Nd
 | var v=>[⟨0,v⟩]
 | fls=>[⟨1,0⟩]
 | and a b=>⟨2,0⟩::(a.enc++b.enc)
 | or a b=>⟨3,0⟩::(a.enc++b.enc)
 | imp a b=>⟨4,0⟩::(a.enc++b.enc)
 | box a=>⟨5,0⟩::a.enc
 | dia a=>⟨6,0⟩::a.enc
def wf:Fm→Prop
 | var v=>v<6
 | fls=>True
 | and a b=>a.wf∧b.wf
 | or a b=>a.wf∧b.wf
 | imp a b=>a.wf∧b.wf
 | box a=>a.wf
 | dia a=>a.wf
def not (a:Fm):Fm:=imp a fls
def kind:Fm→Int
 | var _=>0
 | fls=>1
 | and _ _=>2
 | or _ _=>3
 | imp _ _=>4
 | box _=>5
 | dia _=>6
def sym:Fm→Int
 | var v=>v
 | _=>0
def tail:Fm→List Nd
 | var _=>[]
 | fls=>[]
 | and a b=>a.enc++b.enc
 | or a b=>a.enc++b.enc
 | imp a b=>a.enc++b.enc
 | box a=>a.enc
 | dia a=>a.enc
theorem enc_head (t:Fm):t.enc=⟨t.kind,t.sym⟩::t.tail:=by cases t<;>rfl
def isFls:Fm→Bool
 | fls=>true
 | _=>false
theorem kind_isFls (t:Fm):(t.kind==1)=t.isFls:=by cases t<;>rfl
def isNeg:Fm→Bool
 | imp _ b=>b.isFls
 | _=>false
theorem enc_pos (t:Fm):0<t.enc.length:=by cases t<;>simp[enc]
end Fm
open Fm
theorem EX (t:Fm):∀ (n:Nat) (r:List Nd),skip (n+1) (t.enc++r)=skip n r:=by
 induction t with
 | var v=>intro n r;simp[enc,skip,bZ]
 | fls=>intro n r;simp[enc,skip,bZ]
 | and a b iha ihb=>intro n r;simp only[enc,List.cons_append,skip,zz];show skip ((n+1)+1) _=_;rw[iha,ihb]
 | or a b iha ihb=>intro n r;simp only[enc,List.cons_append,skip,zz];show skip ((n+1)+1) _=_;rw[iha,ihb]
 | imp a b iha ihb=>intro n r;simp only[enc,List.cons_append,skip,zz];show skip ((n+1)+1) _=_;rw[iha,ihb]
 | box a iha=>intro n r;simp[enc,skip,bZ,iha]
 | dia a iha=>intro n r;simp[enc,skip,bZ,iha]
theorem yQ (t:Fm) (r:List Nd):skip 1 (t.enc++r)=some r:=by rw[show(1:Nat)=0+1 from rfl,EX];cases r<;>rfl
theorem mX {t:Fm} (h:t.wf):∀ x∈t.enc,dR x=true:=by
 induction t with
 | var v=>intro x hx;simp[enc] at hx;subst hx;simp[wf] at h;simp[dR];omega
 | fls=>intro x hx;simp[enc] at hx;subst hx;simp[dR]
 | and a b iha ihb=>intro x hx;simp[enc] at hx;simp[wf] at h;rcases hx with rfl | hx | hx;simp[dR];exact iha h.1 x hx;exact ihb h.2 x hx
 | or a b iha ihb=>intro x hx;simp[enc] at hx;simp[wf] at h;rcases hx with rfl | hx | hx;simp[dR];exact iha h.1 x hx;exact ihb h.2 x hx
 | imp a b iha ihb=>intro x hx;simp[enc] at hx;simp[wf] at h;rcases hx with rfl | hx | hx;simp[dR];exact iha h.1 x hx;exact ihb h.2 x hx
 | box a iha=>intro x hx;simp[enc] at hx;rcases hx with rfl | hx;simp[dR];exact iha h x hx
 | dia a iha=>intro x hx;simp[enc] at hx;rcases hx with rfl | hx;simp[dR];exact iha h x hx
theorem tQ {t:Fm} (h:t.wf):fJ t.enc=true:=by
 have h1:=yQ t [];simp only[List.append_nil] at h1;simp only[fJ,zk,zt,decide_eq_true_eq,beq_iff_eq];exact⟨mX h,enc_pos t,by simp[cD,h1]⟩
theorem ib (l:List Nd) (t:Fm) (r:List Nd):cD 1 (l++(t.enc++r)) l.length=l.length+t.enc.length:=by
 unfold cD;simp[yQ];omega
end
section
open Fm
namespace Fm
def lev:Fm→Nat
 | .imp _ b=>if b.isFls then 3 else 0
 | .or _ _=>1
 | .and _ _=>2
 | _=>3
def par (b:Bool) (s:List UInt8):List UInt8:=if b then 40::(s++[41]) else s
def body:Fm→List UInt8
 | .var v=>[UInt8.ofNat (112+v)]
 | .fls=>[70]
 | .and a b=>par (decide (a.lev<2)) a.body++38::par (decide (b.lev<3)) b.body
 | .or a b=>par (decide (a.lev<1)) a.body++124::par (decide (b.lev<2)) b.body
 | .imp a b=>if b.isFls then (if a.isFls then [84] else 126::par (decide (a.lev<3)) a.body) else par (decide (a.lev<1)) a.body++62::b.body
 | .box a=>91::93::par (decide (a.lev<3)) a.body
 | .dia a=>60::62::par (decide (a.lev<3)) a.body
def txt (t:Fm) (l:Nat):List UInt8:=par (decide (t.lev<l)) t.body
theorem txt0 (t:Fm):t.txt 0=t.body:=by simp[txt,par]
theorem lev_le (t:Fm):t.lev≤3:=by
 cases t<;>simp only[lev]<;>(try split)<;>omega
theorem fM (t:Fm) (l m:Nat) (h:t.lev<l↔t.lev<m):t.txt l=t.txt m:=by
 unfold txt;rw[show decide (t.lev<l)=decide (t.lev<m) from decide_eq_decide.2 h]
def andHead:Fm→Fm
 | .and a _=>a.andHead
 | t=>t
def andTail:Fm→List Fm
 | .and a b=>a.andTail++[b]
 | _=>[]
def orHead:Fm→Fm
 | .or a _=>a.orHead
 | t=>t
def orTail:Fm→List Fm
 | .or a b=>a.orTail++[b]
 | _=>[]
def behind (c:UInt8) (l:Nat):List Fm→List UInt8
 | []=>[]
 | x::xs=>c::(x.txt l++behind c l xs)
theorem lT (c:UInt8) (l:Nat) (xs ys:List Fm):behind c l (xs++ys)=behind c l xs++behind c l ys:=by
 induction xs with
 | nil=>rfl
 | cons x xs ih=>simp[behind,ih]
theorem Dh (t:Fm):t.andTail.foldl Fm.and t.andHead=t:=by
 induction t with
 | and a b iha _=>simp[andTail,andHead,List.foldl_append,iha]
 | _=>rfl
theorem Gx (t:Fm):t.orTail.foldl Fm.or t.orHead=t:=by
 induction t with
 | or a b iha _=>simp[orTail,orHead,List.foldl_append,iha]
 | _=>rfl
theorem FH (t:Fm):t.txt 2=t.andHead.txt 3++behind 38 3 t.andTail:=by
 induction t with
 | and a b iha _=>
  have h:(Fm.and a b).txt 2=a.txt 2++38::b.txt 3:=by simp[txt,body,par,lev]
  rw[h,iha];simp[andTail,andHead,lT,behind]
 | var v=>simp[andTail,andHead,behind];exact fM _ _ _ (by simp[lev])
 | fls=>simp[andTail,andHead,behind];exact fM _ _ _ (by simp[lev])
 | or a b _ _=>simp[andTail,andHead,behind];exact fM _ _ _ (by simp[lev])
 | imp a b _ _=>simp[andTail,andHead,behind];exact fM _ _ _ (by simp only[lev];split<;>omega)
 | box a _=>simp[andTail,andHead,behind];exact fM _ _ _ (by simp[lev])
 | dia a _=>simp[andTail,andHead,behind];exact fM _ _ _ (by simp[lev])
theorem IW (t:Fm):t.txt 1=t.orHead.txt 2++behind 124 2 t.orTail:=by
 induction t with
 | or a b iha _=>
  have h:(Fm.or a b).txt 1=a.txt 1++124::b.txt 2:=by simp[txt,body,par,lev]
  rw[h,iha];simp[orTail,orHead,lT,behind]
 | var v=>simp[orTail,orHead,behind];exact fM _ _ _ (by simp[lev])
 | fls=>simp[orTail,orHead,behind];exact fM _ _ _ (by simp[lev])
 | and a b _ _=>simp[orTail,orHead,behind];exact fM _ _ _ (by simp[lev])
 | imp a b _ _=>simp[orTail,orHead,behind];exact fM _ _ _ (by simp only[lev];split<;>omega)
 | box a _=>simp[orTail,orHead,behind];exact fM _ _ _ (by simp[lev])
 | dia a _=>simp[orTail,orHead,behind];exact fM _ _ _ (by simp[lev])
theorem and_parts (t:Fm):(t.lev=2→∀ x∈t.andHead::t.andTail,x.enc.length<t.enc.length)∧(∀ x∈t.andHead::t.andTail,x.enc.length≤t.enc.length):=by
 induction t with
 | and a b iha _=>
  have h:∀ x∈(Fm.and a b).andHead::(Fm.and a b).andTail,x.enc.length<(Fm.and a b).enc.length:=by
   intro x hx;simp only[andHead,andTail,List.mem_cons,List.mem_append] at hx;have:=iha.2;simp only[enc,zh,ze]
   rcases hx with rfl | hx | rfl | hx
   ·have:=this _ (List.mem_cons_self ..);omega
   ·have:=this _ (zw _ hx);omega
   ·omega
   ·cases hx
  exact⟨fun _=>h,fun x hx=>Nat.le_of_lt (h x hx)⟩
 | imp a b _ _=>exact⟨fun h=>by simp only[lev] at h;split at h<;>omega,fun x hx=>by simp[andHead,andTail] at hx;subst hx;exact zm _⟩
 | _=>exact⟨fun h=>by simp[lev] at h,fun x hx=>by simp[andHead,andTail] at hx;subst hx;exact zm _⟩
theorem or_parts (t:Fm):(t.lev=1→∀ x∈t.orHead::t.orTail,x.enc.length<t.enc.length)∧(∀ x∈t.orHead::t.orTail,x.enc.length≤t.enc.length):=by
 induction t with
 | or a b iha _=>
  have h:∀ x∈(Fm.or a b).orHead::(Fm.or a b).orTail,x.enc.length<(Fm.or a b).enc.length:=by
   intro x hx;simp only[orHead,orTail,List.mem_cons,List.mem_append] at hx;have:=iha.2;simp only[enc,zh,ze]
   rcases hx with rfl | hx | rfl | hx
   ·have:=this _ (List.mem_cons_self ..);omega
   ·have:=this _ (zw _ hx);omega
   ·omega
   ·cases hx
  exact⟨fun _=>h,fun x hx=>Nat.le_of_lt (h x hx)⟩
 | imp a b _ _=>exact⟨fun h=>by simp only[lev] at h;split at h<;>omega,fun x hx=>by simp[orHead,orTail] at hx;subst hx;exact zm _⟩
 | _=>exact⟨fun h=>by simp[lev] at h,fun x hx=>by simp[orHead,orTail] at hx;subst hx;exact zm _⟩
theorem and_wf (t:Fm) (h:t.wf):∀ x∈t.andHead::t.andTail,x.wf:=by
 induction t with
 | and a b iha _=>
  intro x hx;simp only[andHead,andTail,List.mem_cons,List.mem_append] at hx;have:=iha h.1
  rcases hx with rfl | hx | rfl | hx
  ·exact this _ (List.mem_cons_self ..)
  ·exact this _ (zw _ hx)
  ·exact h.2
  ·cases hx
 | _=>intro x hx;simp[andHead,andTail] at hx;subst hx;exact h
theorem or_wf (t:Fm) (h:t.wf):∀ x∈t.orHead::t.orTail,x.wf:=by
 induction t with
 | or a b iha _=>
  intro x hx;simp only[orHead,orTail,List.mem_cons,List.mem_append] at hx;have:=iha h.1
  rcases hx with rfl | hx | rfl | hx
  ·exact this _ (List.mem_cons_self ..)
  ·exact this _ (zw _ hx)
  ·exact h.2
  ·cases hx
 | _=>intro x hx;simp[orHead,orTail] at hx;subst hx;exact h
end Fm
theorem oK (R:Nat→Fm→List UInt8→Prop)
  (h3:∀ t:Fm,t.wf→t.lev=3→(∀ x:Fm,x.wf→x.enc.length<t.enc.length→R 3 x (x.txt 3))→R 3 t t.body)
  (hp:∀ t:Fm,R 0 t t.body→R 3 t (40::(t.body++[41])))
  (h2:∀ x0 xs,R 3 x0 (x0.txt 3)→(∀ x∈xs,R 3 x (x.txt 3))→R 2 (xs.foldl Fm.and x0) (x0.txt 3++behind 38 3 xs))
  (h1:∀ x0 xs,R 2 x0 (x0.txt 2)→(∀ x∈xs,R 2 x (x.txt 2))→R 1 (xs.foldl Fm.or x0) (x0.txt 2++behind 124 2 xs))
  (h0:∀ t X,R 1 t X→R 0 t X)
  (hi:∀ a b,R 1 a (a.txt 1)→R 0 b b.body→R 0 (Fm.imp a b) (a.txt 1++62::b.body)):
  ∀ (n:Nat) (t:Fm),t.enc.length≤n→t.wf→R 0 t (t.txt 0)∧R 1 t (t.txt 1)∧R 2 t (t.txt 2)∧R 3 t (t.txt 3):=by
 intro n
 induction n with
 | zero=>intro t h;have:=t.enc_pos;omega
 | succ n ih=>
  intro t hn hw
  have sm:∀ x:Fm,x.wf→x.enc.length<t.enc.length→R 0 x (x.txt 0)∧R 1 x (x.txt 1)∧R 2 x (x.txt 2)∧R 3 x (x.txt 3):=fun x hx hl=>ih x qB hx
  have s2:(∀ x∈t.andHead::t.andTail,R 3 x (x.txt 3))→R 2 t (t.txt 2):=fun h=>by
   have:=h2 t.andHead t.andTail (h _ (List.mem_cons_self ..)) (fun x hx=>h x (zw _ hx));rwa[Dh,←FH] at this
  have s1:(∀ x∈t.orHead::t.orTail,R 2 x (x.txt 2))→R 1 t (t.txt 1):=fun h=>by
   have:=h1 t.orHead t.orTail (h _ (List.mem_cons_self ..)) (fun x hx=>h x (zw _ hx));rwa[Gx,←IW] at this
  have eE:=t.lev_le
  have up2:t.lev≠2→R 3 t (t.txt 3)→R 2 t (t.txt 2):=fun hl h=>by
   apply s2;intro x hx
   have hx':x=t:=by
    cases t with
    | and a b=>exact absurd rfl hl
    | _=>simp[andHead,andTail] at hx;exact hx
   subst hx';exact h
  have up1:t.lev≠1→R 2 t (t.txt 2)→R 1 t (t.txt 1):=fun hl h=>by
   apply s1;intro x hx
   have hx':x=t:=by
    cases t with
    | or a b=>exact absurd rfl hl
    | _=>simp[orHead,orTail] at hx;exact hx
   subst hx';exact h
  have up0:t.lev≠0→R 1 t (t.txt 1)→R 0 t (t.txt 0):=fun hl h=>by
   rw[fM t 0 1 qB];exact h0 _ _ h
  have dn:t.lev<3→R 0 t (t.txt 0)→R 3 t (t.txt 3):=fun hl h=>by
   rw[txt0] at h;have:=hp t h;unfold txt par;rw[decide_eq_true hl]
   simpa using this
  by_cases e3:t.lev=3
  ·have r3:R 3 t (t.txt 3):=by
    have:=h3 t hw e3 (fun x hx hl=>(sm x hx hl).2.2.2);unfold txt par;rw[decide_eq_false qB]
    simpa using this
   have r2:=up2 qB r3;have r1:=up1 qB r2;exact⟨up0 qB r1,r1,r2,r3⟩
  by_cases e2:t.lev=2
  ·have r2:=s2 (fun x hx=>(sm x (t.and_wf hw x hx) (t.and_parts.1 e2 x hx)).2.2.2)
   have r1:=up1 qB r2;have r0:=up0 qB r1;exact⟨r0,r1,r2,dn qB r0⟩
  by_cases e1:t.lev=1
  ·have r1:=s1 (fun x hx=>(sm x (t.or_wf hw x hx) (t.or_parts.1 e1 x hx)).2.2.1)
   have r0:=up0 qB r1;have r3:=dn qB r0;exact⟨r0,r1,up2 qB r3,r3⟩
  ·have r0:R 0 t (t.txt 0):=by
    have hz:t.lev=0:=qB
    cases t with
    | imp a b=>
     have hb:b.isFls=false:=by
      simp only[lev] at hz;split at hz
      ·omega
      ·simpa using ‹¬b.isFls=true›
     have ra:=(sm a hw.1 (by simp only[enc,zh,ze];omega)).2.1;have rb:=(sm b hw.2 (by simp only[enc,zh,ze];omega)).1;rw[txt0] at rb;have:=hi a b ra rb;rw[txt0];simp only[body,hb]
     simpa [txt] using this
    | _=>simp[lev] at hz
   have r3:=dn qB r0;have r2:=up2 qB r3;exact⟨r0,up1 qB r2,r2,r3⟩
end
section
open Go.RowKit
theorem hid {p:Prop} (h:p):Hid p:=h
theorem aK {k:IntKind} {a b:Int} (h:a=b):Ending.returned (.int k a)=.returned (.int k b):=by rw[h]
theorem ab {a b:Bool} (h:a=b):Ending.returned (.bool a)=.returned (.bool b):=by rw[h]
def aa (w w':World):Prop:=Below w.heap.size w w'
theorem aa.refl (w:World):aa w w:=Below.refl _ _
theorem aa.trans {a b c:World} (h:aa a b) (k:aa b c):aa a c:=Below.trans h (Below.mono k h.size)
theorem aa.alloc {a w:World} (h:aa a w) (o:Obj):aa a (w.alloc o):=Below.alloc h h.size o
theorem aa.drew {a w:World} (h:aa a w):aa a w.drew:=Below.drew h
theorem aa.drewN {a w:World} (h:aa a w) (n:Nat):aa a (w.drewN n):=⟨h.os,h.tape,h.output,h.size,h.block⟩
theorem aa.setCell {a w:World} (h:aa a w) {p:Addr} (hp:a.heap.size≤p.block) (u:Value):aa a (w.setCell p u):=Below.setCell h hp u
theorem aa.block {w w':World} (h:aa w w') {k:Nat} (hk:k<w.heap.size):w'.heap[k]? = w.heap[k]? := Below.block h k hk
theorem aa.cell {w w':World} (h:aa w w') {p:Addr} {v:Value} (hc:w.cell? p=some v):w'.cell? p=some v:=
 (Below.cell h (World.block_lt_of_cell? w p hc)).trans hc
theorem aa.size {w w':World} (h:aa w w'):w.heap.size≤w'.heap.size:=Below.size h
theorem aa.grown {a w w':World} {row:Option Nat} (h:aa a w) (hg:w.grownBy w' row) (hr:∀ k,row=some k→a.heap.size≤k):aa a w':=
 Below.grown h hg h.size hr
theorem aa.both {w w1:World} (h:aa w w1):(∀ b o,b<w.heap.size→w1.cell? ⟨b,o,none⟩=w.cell? ⟨b,o,none⟩)∧(∀ b o,b<w.heap.size→w1.frozen? ⟨b,o,none⟩=w.frozen? ⟨b,o,none⟩):=
 ⟨fun b o hb=>Below.cell h (p:=⟨b,o,none⟩) hb,fun b o hb=>Below.frozen h (p:=⟨b,o,none⟩) hb⟩
theorem an {w w1 w2:World} {row:Option Nat} (h:w.grownBy w1 row) (k:w1.grownBy w2 row):w.grownBy w2 row:=
 ⟨k.os.trans h.os,k.tape.trans h.tape,k.output.trans h.output,zx h.size k.size,fun i hi hr=>(k.block i (zv hi h.size) hr).trans (h.block i hi hr)⟩
theorem db {w:World} (g o:Nat) (u:Value):w.grownBy (w.setCell ⟨g,o,none⟩ u) (some g):=
 ⟨rfl,rfl,rfl,qD,fun k _ hk=>heap_setCell_other w ⟨g,o,none⟩ k u (fun e=>hk (by simp[e]))⟩
theorem rP (w:World) (row:Option Nat):w.grownBy w row:=⟨rfl,rfl,rfl,zm _,fun _ _ _=>rfl⟩
def At (w:World) (p:Option Addr) (vs:List Value):Prop:=
 ∀ j (h:j<vs.length),∃ b off,p=some ⟨b,off,none⟩∧w.cell? ⟨b,off+j,none⟩=some vs[j]
theorem At.keeps {w w':World} {p:Option Addr} {vs:List Value} (h:At w p vs) (k:aa w w'):At w' p vs:=fun j hj=>by
 obtain⟨b,off,hp,hc⟩:=h j hj;exact⟨b,off,hp,k.cell hc⟩
theorem At.sub {w:World} {b off:Nat} {xs ys zs:List Value} (h:At w (some ⟨b,off,none⟩) (xs++(ys++zs))) {o:Nat} (ho:o=off+xs.length):At w (some ⟨b,o,none⟩) ys:=fun j hj=>by
 subst ho;obtain⟨b',off',hp,hc⟩:=h (xs.length+j) (by simp;omega)
 cases hp
 refine⟨b,_,rfl,?_⟩;rw[Nat.add_assoc,hc]
 congr 1
 rw[List.getElem_append_right qB,List.getElem_append_left (by simpa using hj)]
 simp
theorem At.nil (w:World) (p:Option Addr):At w p []:=fun j hj=>by simp at hj
theorem At.of_own {w:World} {base:Nat} {e:TypeId} {size:Nat} {v:Value} {n:Nat} {xs:List Value} (h:w.ownsRow base e size v n xs):
  ∃ p cap,v=.slice p n cap∧n≤cap∧cap≤maxLen∧At w p xs:=by
 rcases h with ⟨hl,⟨rfl,rfl⟩ | ⟨g,cap,cur,rfl,_,hg,hn,hm,hs,ht⟩⟩
 ·have:xs=[]:=List.eq_nil_of_length_eq_zero (by simpa using hl)
  subst this;exact⟨none,0,rfl,zm _,by simp[maxLen],At.nil _ _⟩
 ·refine⟨_,cap,rfl,hn,hm,fun j hj=>⟨g,0,rfl,?_⟩⟩
  have:=World.ownsRow.cells (w:=w) (base:=g) (e:=e) (size:=size) (v:=.slice (some ⟨g,0,none⟩) n cap) (n:=n) (xs:=xs) ⟨hl,.inr ⟨g,cap,cur,rfl,zm _,hg,hn,hm,hs,ht⟩⟩ (g:=g) rfl j _ (zn hj)
  have eE:(⟨g,0,none⟩:Addr).add j=⟨g,0+j,none⟩:=by unfold Addr.add;split<;>simp_all
  rwa[eE] at this
theorem bw {w w':World} {base:Nat} {e:TypeId} {size:Nat} {v:Value} {n:Nat} {xs:List Value} (h:w.ownsRow base e size v n xs) (k:aa w w'):w'.ownsRow base e size v n xs:=by
 refine⟨h.1,?_⟩
 rcases h.2 with hn | ⟨g,cap,cur,rfl,hb,eE,rest⟩
 ·exact .inl hn
 ·exact .inr ⟨g,cap,cur,rfl,hb,(k.block (Array.getElem?_eq_some_iff.1 eE).1).trans eE,rest⟩
theorem fU {w:World} {base base':Nat} {e:TypeId} {size:Nat} {v:Value} {n:Nat} {xs:List Value} (h:w.ownsRow base e size v n xs) (hb:base'≤base):w.ownsRow base' e size v n xs:=by
 refine⟨h.1,?_⟩
 rcases h.2 with hn | ⟨g,cap,cur,rfl,hb',hgg,rest⟩
 ·exact .inl hn
 ·exact .inr ⟨g,cap,cur,rfl,zx hb hb',hgg,rest⟩
def aO (a:List Int):List Value:=a.map (Value.int .i64)
def aV (w:World) (v:Value) (a:List Int):Prop:=∃ p cap,v=.slice p a.length cap∧a.length≤cap∧cap≤maxLen∧At w p (aO a)∧a.length≤2147483648
theorem aV.keeps {w w':World} {v:Value} {a:List Int} (h:aV w v a) (k:aa w w'):aV w' v a:=by
 obtain⟨p,cap,hv,h1,h2,h3,h4⟩:=h;exact⟨p,cap,hv,h1,h2,h3.keeps k,h4⟩
theorem At.int {w:World} {p:Option Addr} {a:List Int} (h:At w p (aO a)) (i:Nat) (hi:i<a.length):
  ∃ b off,p=some ⟨b,off,none⟩∧w.cell? ⟨b,off+i,none⟩=some (.int .i64 a[i]):=by
 obtain⟨b,off,hp,hc⟩:=h i (by simpa [aO] using hi);exact⟨b,off,hp,by simpa [aO] using hc⟩
def aI (w:World) (B:Nat) (v:Value) (a:List Int):Prop:=w.ownsRow B 2 1 v a.length (aO a)
theorem aI.ints {w:World} {B:Nat} {v:Value} {a:List Int} (h:aI w B v a) (hl:a.length≤2147483648):aV w v a:=by
 obtain⟨p,cap,h1,h2,h3,h4⟩:=At.of_own h;exact⟨p,cap,h1,h2,h3,h4,hl⟩
theorem aI.keeps {w w':World} {B:Nat} {v:Value} {a:List Int} (h:aI w B v a) (k:aa w w'):aI w' B v a:=bw h k
theorem aI.mono {w:World} {B B':Nat} {v:Value} {a:List Int} (h:aI w B v a) (k:B'≤B):aI w B' v a:=fU h k
section
variable {P:Program}
theorem jP (w:World) (t ty e:TypeId) (i:TypeInfo) (ht:P.underlying t=some (.slice e)) (hi:P.info? e=some i) (base:Option Addr) (n cap:Nat) (h:n≤cap) (c:Nat):
  (Builtin.append_ #[t,t] ty #[.slice base n cap,.slice none 0 c]).run P w=.ok (.slice base n cap) w:=by
 cases base<;>simp[Builtin.append_,run_underlying ht,sizeOf,typeInfo,hi,Builtin.lenOf,Builtin.firstCells,h,storeCells]
theorem bI {w:World} {o:Oper} {a:Act} {K:Act→World→Prop} {Q:Exit→Act→World→Prop} (s x:Operand) (t:TypeId)
  (ho:o.op=.call { callee:=.builtin .append,args:=#[s,x],argTypes:=#[t,t] })
  (e:TypeId) (i:TypeInfo) (z:Value) (size bytes:Nat) (ht:P.underlying t=some (.slice e)) (hi:P.info? e=some i) (hz:i.zero=some z)
  (x7:i.size=size) (KP:i.bytes=bytes) (KS:z.cells.size=size) (H8:0<size) (base:Nat)
  (v:Value) (n:Nat) (xs:List Value) (hs:a.eval s=v) (eE:w.ownsRow base e size v n xs)
  (p:Option Addr) (m c:Nat) (news:List Value) (hx:a.eval x=.slice p m c) (hl:news.length=m*size) (x9:At w p news) (h1:∀ u∈news,u.oneCell'=true)
  (H9:n+m≤maxLen) (h9:(n+m)*bytes≤140737488355328) (x6:base≤w.heap.size)
  (h:∀ v' w',w'.ownsRow base e size v' (n+m) (xs++news)→w.grownBy w' v.ownBlock→(∀ k,v.ownBlock=some k→base≤k)→K (a.put o.dst v') w'):o.wp P a w K Q:=by
 have H7:=fun k hk=>(eE.lt k hk).1
 cases p with
 | some ad=>
  refine wp_append_own w s x t ho base e i z size bytes ht hi hz x7 KP KS H8 v n xs hs eE ad m c news hx hl ?_ h1 H9 h9 x6 (fun v' w' h1 h2 _=>h v' w' h1 h2 H7);intro j u hu;obtain⟨hj,rfl⟩:=List.getElem?_eq_some_iff.1 hu;obtain⟨b,off,hp,hc⟩:=x9 j hj
  cases hp
  have x8:(⟨b,off,none⟩:Addr).add j=⟨b,off+j,none⟩:=by unfold Addr.add;split<;>simp_all
  rw[x8];exact hc
 | none=>
  have hn:news=[]:=by
   cases news with
   | nil=>rfl
   | cons u r=>obtain⟨b,off,hp,_⟩:=x9 0 qD;cases hp
  subst hn
  have hm:m=0:=by
   rcases Nat.eq_zero_or_pos m with h | h
   ·exact h
   ·have:=Nat.mul_pos h H8;simp at hl;omega
  subst hm;obtain⟨p',cap,hv,KR,_,_⟩:=At.of_own eE;have hr:=jP (P:=P) w t o.type e i ht hi p' n cap KR c;unfold Oper.wp execOp;simp only[ho,resolve,invoke,builtin,Sem.run_bind,Sem.run_pure,Result.andThen_ok,List.map_toArray,List.map_cons,List.map_nil,hs,hx,hv,hr];refine h _ _ ?_ ⟨rfl,rfl,rfl,zm _,fun _ _ _=>rfl⟩ H7;rw[←hv]
  simpa using eE
end
theorem vB (a:List Int):∀ u∈aO a,u.oneCell'=true:=by
 intro u hu;simp[aO] at hu;obtain⟨x,_,rfl⟩:=hu;rfl
theorem DO:(Tryz.prog.info? 2).map (fun i=>(i.zero,i.size,i.bytes))=some (some (.int .i64 0),1,8):=qA
theorem Hk {w:World} {o:Oper} {a:Act} {K:Act→World→Prop} {Q:Exit→Act→World→Prop} (s x:Operand)
  (ho:o.op=.call { callee:=.builtin .append,args:=#[s,x],argTypes:=#[35,35] }) (base:Nat) (v:Value) (xs:List Int) (hs:a.eval s=v) (h9:aI w base v xs)
  (u:Value) (ys:List Int) (hx:a.eval x=u) (hu:aV w u ys) (eE:base≤w.heap.size) (x7:xs.length+ys.length≤2147483648)
  (h:∀ v' w',aI w' base v' (xs++ys)→w.grownBy w' v.ownBlock→(∀ k,v.ownBlock=some k→base≤k)→K (a.put o.dst v') w'):o.wp Tryz.prog a w K Q:=by
 obtain⟨i0,hi,x8,x9,H7⟩:=info_parts DO;obtain⟨p,cap,rfl,_,_,x6,_⟩:=hu;refine bI s x _ ho _ i0 _ 1 8 Tryz.underlying35 hi x8 x9 H7 rfl qC base v _ _ hs h9 p _ cap _ hx (by simp[aO]) x6 (vB _) (by unfold maxLen;omega) qB eE ?_;intro v' w' h1 h2 h3;refine h v' w' ?_ h2 h3;unfold aI;rw[ze,show aO (xs++ys)=aO xs++aO ys by simp[aO]];exact h1
theorem mw {w:World} {ops:Array Oper} {rest:List Oper} {o:Oper} {a:Act} {Q:Exit→Act→World→Prop} (x7:o.guard=none) (s x:Operand)
  (ho:o.op=.call { callee:=.builtin .append,args:=#[s,x],argTypes:=#[35,35] }) (base:Nat) (v:Value) (xs:List Int) (hs:a.eval s=v) (x6:aI w base v xs)
  (u:Value) (ys:List Int) (hx:a.eval x=u) (hu:aV w u ys) (eE:base≤w.heap.size) (h9:xs.length+ys.length≤2147483648)
  (h:∀ v' w',aI w' base v' (xs++ys)→w.grownBy w' v.ownBlock→(∀ k,v.ownBlock=some k→base≤k)→wpList Tryz.prog ops Q rest (a.put o.dst v') w'):wpList Tryz.prog ops Q (o::rest) a w:=
 wpList_plain x7 fun _ hK=>Hk s x ho base v xs hs x6 u ys hx hu eE h9 fun v' w' h1 h2 h3=>hK _ _ (h v' w' h1 h2 h3)
theorem J2 {w:World} {ops:Array Oper} {o:Oper} {a:Act} {K:Act→World→Prop} {Q:Exit→Act→World→Prop} {E:Prop} (x7:o.guard=none) (s x:Operand)
  (ho:o.op=.call { callee:=.builtin .append,args:=#[s,x],argTypes:=#[35,35] }) (base:Nat) (v:Value) (xs:List Int) (hs:a.eval s=v) (x6:aI w base v xs)
  (u:Value) (ys:List Int) (hx:a.eval x=u) (hu:aV w u ys) (eE:base≤w.heap.size) (h9:xs.length+ys.length≤2147483648)
  (h:∀ v' w',aI w' base v' (xs++ys)→w.grownBy w' v.ownBlock→(∀ k,v.ownBlock=some k→base≤k)→K (a.put o.dst v') w'):if Region.wanted o (yielded ops a.tmps)=true then Oper.wp Tryz.prog o a w K Q else E:=by
 rw[if_pos (by simp[Region.wanted,x7])];exact Hk s x ho base v xs hs x6 u ys hx hu eE h9 h
theorem aV.lit1 (w:World) (x:Int):aV (w.alloc (.cells #[.int .i64 x] 2)) (.slice (some ⟨w.heap.size,0,none⟩) 1 1) [x]:=by
 refine⟨_,1,rfl,qD,by simp[maxLen],?_,qD⟩;intro j hj;simp[aO] at hj;subst hj;exact⟨_,_,rfl,by simp[aO]⟩
theorem aI.empty (w:World):aI (w.alloc (.cells #[] 2)) w.heap.size (.slice (some ⟨w.heap.size,0,none⟩) 0 0) []:=
 World.ownsRow_made w #[] 0 (zm _) (by simp[maxLen]) qD
theorem aI.nil (w:World) (B:Nat):aI w B (.slice none 0 0) []:=World.ownsRow_nil w B _ 1
theorem aI.setBelow {w:World} {B:Nat} {v:Value} {a:List Int} (h:aI w B v a) {b o:Nat} (hb:b<B) (u:Value):aI (w.setCell ⟨b,o,none⟩ u) B v a:=ownsRow_setCell_below h (a:=⟨b,o,none⟩) hb u
theorem aI.len {w:World} {B:Nat} {v:Value} {a:List Int} (h:aI w B v a):∀ k,v.ownBlock=some k→B≤k∧k<w.heap.size:=World.ownsRow.lt h
def bc:List Nd→List Value
 | []=>[]
 | n::l=>.int .i64 n.k::.int .i64 n.s::bc l
theorem gN (a:List Nd):(bc a).length=a.length*2:=by
 induction a with
 | nil=>rfl
 | cons n l ih=>simp only[bc,zh,ih];omega
theorem gM (a b:List Nd):bc (a++b)=bc a++bc b:=by
 induction a with
 | nil=>rfl
 | cons n l ih=>simp[bc,ih]
theorem yx (a:List Nd) (i:Nat) (h:i<a.length):(bc a)[i*2]? = some (.int .i64 a[i].k)∧(bc a)[i*2+1]? = some (.int .i64 a[i].s):=by
 induction a generalizing i with
 | nil=>simp at h
 | cons n l ih=>
  cases i with
  | zero=>simp[bc]
  | succ i=>
   have:=ih i (by simpa using h);rw[show(i+1)*2=i*2+1+1 by omega]
   simpa [bc] using this
def Nds (w:World) (v:Value) (a:List Nd):Prop:=∃ p cap,v=.slice p a.length cap∧a.length≤cap∧cap≤maxLen∧At w p (bc a)∧a.length≤2147483648
theorem Nds.keeps {w w':World} {v:Value} {a:List Nd} (h:Nds w v a) (k:aa w w'):Nds w' v a:=by
 obtain⟨p,cap,hv,h1,h2,h3,h4⟩:=h;exact⟨p,cap,hv,h1,h2,h3.keeps k,h4⟩
theorem At.nd {w:World} {p:Option Addr} {a:List Nd} (h:At w p (bc a)) (i:Nat) (hi:i<a.length):
  ∃ b off,p=some ⟨b,off,none⟩∧w.cell? ⟨b,off+i*2,none⟩=some (.int .i64 a[i].k)∧w.cell? ⟨b,off+i*2+1,none⟩=some (.int .i64 a[i].s):=by
 obtain⟨g1,g2⟩:=yx a i hi;have hl:=gN a;obtain⟨b,off,hp,hc⟩:=h (i*2) qB;obtain⟨b',off',hp',hc'⟩:=h (i*2+1) qB;rw[hp] at hp'
 cases hp'
 refine⟨b,off,hp,?_,?_⟩
 ·rw[hc];rw[zn qB] at g1;exact g1
 ·rw[show off+i*2+1=off+(i*2+1) by omega,hc'];rw[zn qB] at g2;exact g2
theorem Nds.head {w:World} {v:Value} {x:Nd} {r:List Nd} (h:Nds w v (x::r)):∃ b off n cap,v=.slice (some ⟨b,off,none⟩) n cap∧0<n∧n≤cap∧cap≤maxLen∧n≤2147483648∧w.cell? ⟨b,off,none⟩=some (.int .i64 x.k)∧w.cell? ⟨b,off+1,none⟩=some (.int .i64 x.s):=by
 obtain⟨p,cap,rfl,h1,h2,h3,h4⟩:=h;obtain⟨b,off,rfl,h5,h6⟩:=h3.nd 0 qD;exact⟨b,off,_,cap,rfl,qD,h1,h2,h4,by simpa using h5,by simpa using h6⟩
theorem Nds.root {w:World} {v:Value} {t:Fm} (h:Nds w v t.enc):∃ b off n cap,v=.slice (some ⟨b,off,none⟩) n cap∧0<n∧n≤cap∧cap≤maxLen∧n≤2147483648∧w.cell? ⟨b,off,none⟩=some (.int .i64 t.kind)∧w.cell? ⟨b,off+1,none⟩=some (.int .i64 t.sym):=by
 rw[Fm.enc_head] at h;exact h.head
theorem At.ptrN {w:World} {p:Option Addr} {a:List Nd} (h:At w p (bc a)) (hp:0<a.length):∃ b off,p=some ⟨b,off,none⟩:=by
 obtain⟨b,off,hp,_⟩:=h.nd 0 hp;exact⟨b,off,hp⟩
theorem Nds.sub {w:World} {b off:Nat} {l m r:List Nd} (h:At w (some ⟨b,off,none⟩) (bc (l++(m++r)))) (hl:m.length≤2147483648) {o n cap:Nat} (ho:o=off+l.length*2) (hn:n=m.length) (hc:n≤cap) (hm:cap≤maxLen):
  Nds w (.slice (some ⟨b,o,none⟩) n cap) m:=by
 subst hn;rw[gM,gM] at h;exact⟨_,_,rfl,hc,hm,h.sub (by rw[gN];exact ho),hl⟩
def aU (w:World) (B:Nat) (v:Value) (a:List Nd):Prop:=w.ownsRow B 82 2 v a.length (bc a)
theorem aU.nds {w:World} {B:Nat} {v:Value} {a:List Nd} (h:aU w B v a) (hl:a.length≤2147483648):Nds w v a:=by
 obtain⟨p,cap,h1,h2,h3,h4⟩:=At.of_own h;exact⟨p,cap,h1,h2,h3,h4,hl⟩
theorem aU.keeps {w w':World} {B:Nat} {v:Value} {a:List Nd} (h:aU w B v a) (k:aa w w'):aU w' B v a:=bw h k
theorem aU.mono {w:World} {B B':Nat} {v:Value} {a:List Nd} (h:aU w B v a) (k:B'≤B):aU w B' v a:=fU h k
theorem yy (a:List Nd):∀ u∈bc a,u.oneCell'=true:=by
 induction a with
 | nil=>intro u hu;simp[bc] at hu
 | cons n l ih=>intro u hu;simp[bc] at hu;rcases hu with rfl | rfl | hu;rfl;rfl;exact ih u hu
theorem Bi:(Tryz.prog.info? 82).map (fun i=>(i.zero,i.size,i.bytes))=some (some (.agg #[.int .i64 0,.int .i64 0]),2,16):=qA
theorem Jz {w:World} {o:Oper} {a:Act} {K:Act→World→Prop} {Q:Exit→Act→World→Prop} (s x:Operand)
  (ho:o.op=.call { callee:=.builtin .append,args:=#[s,x],argTypes:=#[50,50] }) (base:Nat) (v:Value) (xs:List Nd) (hs:a.eval s=v) (h9:aU w base v xs)
  (u:Value) (ys:List Nd) (hx:a.eval x=u) (hu:Nds w u ys) (eE:base≤w.heap.size) (x7:xs.length+ys.length≤2147483648)
  (h:∀ v' w',aU w' base v' (xs++ys)→w.grownBy w' v.ownBlock→(∀ k,v.ownBlock=some k→base≤k)→K (a.put o.dst v') w'):o.wp Tryz.prog a w K Q:=by
 obtain⟨i0,hi,x8,x9,H7⟩:=info_parts Bi;obtain⟨p,cap,rfl,_,_,x6,_⟩:=hu;refine bI s x _ ho _ i0 _ 2 16 Tryz.underlying50 hi x8 x9 H7 rfl qC base v _ _ hs h9 p _ cap _ hx (gN _) x6 (yy _) (by unfold maxLen;omega) qB eE ?_;intro v' w' h1 h2 h3;refine h v' w' ?_ h2 h3;unfold aU;rw[ze,show bc (xs++ys)=bc xs++bc ys by exact gM _ _];exact h1
theorem zF {w:World} {ops:Array Oper} {rest:List Oper} {o:Oper} {a:Act} {Q:Exit→Act→World→Prop} (x7:o.guard=none) (s x:Operand)
  (ho:o.op=.call { callee:=.builtin .append,args:=#[s,x],argTypes:=#[50,50] }) (base:Nat) (v:Value) (xs:List Nd) (hs:a.eval s=v) (x6:aU w base v xs)
  (u:Value) (ys:List Nd) (hx:a.eval x=u) (hu:Nds w u ys) (eE:base≤w.heap.size) (h9:xs.length+ys.length≤2147483648)
  (h:∀ v' w',aU w' base v' (xs++ys)→w.grownBy w' v.ownBlock→(∀ k,v.ownBlock=some k→base≤k)→wpList Tryz.prog ops Q rest (a.put o.dst v') w'):wpList Tryz.prog ops Q (o::rest) a w:=
 wpList_plain x7 fun _ hK=>Jz s x ho base v xs hs x6 u ys hx hu eE h9 fun v' w' h1 h2 h3=>hK _ _ (h v' w' h1 h2 h3)
theorem aU.len {w:World} {B:Nat} {v:Value} {a:List Nd} (h:aU w B v a):∀ k,v.ownBlock=some k→B≤k∧k<w.heap.size:=World.ownsRow.lt h
theorem aU.lit1 (w:World) (n:Nd):aU (w.alloc (.cells #[.int .i64 n.k,.int .i64 n.s] 82)) w.heap.size (.slice (some ⟨w.heap.size,0,none⟩) 1 1) [n]:=by
 refine⟨by simp[bc],.inr ⟨w.heap.size,1,_,rfl,zm _,heap_alloc_new w _,qD,by simp[maxLen],qD,by simp[bc]⟩⟩
theorem aU.nil (w:World) (B:Nat):aU w B (.slice none 0 0) []:=World.ownsRow_nil w B _ 2
theorem aU.empty (w:World):aU (w.alloc (.cells #[] 82)) w.heap.size (.slice (some ⟨w.heap.size,0,none⟩) 0 0) []:=
 World.ownsRow_made w #[] 0 (zm _) (by simp[maxLen]) qD
def SlC {α:Type} (sz:Nat) (R:World→(Nat→Value)→α→Prop) (w:World) (v:Value) (xs:List α):Prop:=
 ∃ p cap,v=.slice p xs.length cap∧xs.length≤cap∧cap≤maxLen∧xs.length≤2147483648∧
  ∀ i (h:i<xs.length),∃ b off f,p=some ⟨b,off,none⟩∧(∀ c,c<sz→w.cell? ⟨b,off+i*sz+c,none⟩=some (f c))∧R w f xs[i]
def Dc {α:Type} (R:World→(Nat→Value)→α→Prop):Prop:=∀ w w' f x,aa w w'→R w f x→R w' f x
theorem SlC.keeps {α:Type} {sz:Nat} {R:World→(Nat→Value)→α→Prop} (hR:Dc R) {w w':World} {v:Value} {xs:List α} (h:SlC sz R w v xs) (k:aa w w'):SlC sz R w' v xs:=by
 obtain⟨p,cap,hv,h1,h2,h3,h4⟩:=h;refine⟨p,cap,hv,h1,h2,h3,fun i hi=>?_⟩;obtain⟨b,off,f,hp,hc,hr⟩:=h4 i hi;exact⟨b,off,f,hp,fun c eE=>k.cell (hc c eE),hR _ _ _ _ k hr⟩
theorem SlC.lit {α:Type} {R:World→(Nat→Value)→α→Prop} (hR:Dc R) (w:World) (E:TypeId) (us:List Value) (xs:List α) (hl:xs.length=us.length) (hm:xs.length≤2147483648)
  (h:∀ i (h1:i<us.length) (h2:i<xs.length),R w (fun _=>us[i]) xs[i]):SlC 1 R (w.alloc (.cells us.toArray E)) (.slice (some ⟨w.heap.size,0,none⟩) us.length us.length) xs:=by
 refine⟨_,us.length,by rw[hl],qB,by unfold maxLen;omega,hm,fun i hi=>⟨w.heap.size,0,fun _=>us[i]'qB,rfl,fun c hc=>?_,hR _ _ _ _ ((aa.refl w).alloc _) (h i qB hi)⟩⟩;obtain rfl:c=0:=qB;rw[cell_of_row _ w.heap.size (0+i*1+0) us.toArray E (0,0) (heap_alloc_new w _)];simp[hl▸hi]
def bW (w:World) (v:Value) (xs:List (List Nd)):Prop:=SlC 1 (fun w f x=>Nds w (f 0) x) w v xs
theorem bW.keeps {w w':World} {v:Value} {xs:List (List Nd)} (h:bW w v xs) (k:aa w w'):bW w' v xs:=
 SlC.keeps (R:=fun w f x=>Nds w (f 0) x) (fun _ _ _ _ k h=>Nds.keeps h k) h k
theorem bW.lit {w:World} (us:List Value) (xs:List (List Nd)) (hl:xs.length=us.length) (hm:xs.length≤2147483648)
  (h:∀ i (h1:i<us.length) (h2:i<xs.length),Nds w us[i] xs[i]):bW (w.alloc (.cells us.toArray 50)) (.slice (some ⟨w.heap.size,0,none⟩) us.length us.length) xs:=
 SlC.lit (R:=fun w f x=>Nds w (f 0) x) (fun _ _ _ _ k h=>Nds.keeps h k) w _ us xs hl hm h
theorem bW.lit1 {w:World} {u:Value} {x:List Nd} (h:Nds w u x):bW (w.alloc (.cells #[u] 50)) (.slice (some ⟨w.heap.size,0,none⟩) 1 1) [x]:=
 bW.lit [u] [x] rfl qD (fun i h1 h2=>by
  obtain rfl:i=0:=by simp at h1;omega
  exact h)
theorem bW.lit2 {w:World} {u u':Value} {x x':List Nd} (h:Nds w u x) (h':Nds w u' x'):bW (w.alloc (.cells #[u,u'] 50)) (.slice (some ⟨w.heap.size,0,none⟩) 2 2) [x,x']:=
 bW.lit [u,u'] [x,x'] rfl qD (fun i h1 h2=>by
  simp at h1
  have hi:i=0∨i=1:=qB
  rcases hi with rfl | rfl
  ·exact h
  ·exact h')
theorem bW.lit3 {w:World} {u u' u'':Value} {x x' x'':List Nd} (h:Nds w u x) (h':Nds w u' x') (h'':Nds w u'' x''):bW (w.alloc (.cells #[u,u',u''] 50)) (.slice (some ⟨w.heap.size,0,none⟩) 3 3) [x,x',x'']:=
 bW.lit [u,u',u''] [x,x',x''] rfl qD (fun i h1 h2=>by
  simp at h1
  have hi:i=0∨i=1∨i=2:=qB
  rcases hi with rfl | rfl | rfl
  ·exact h
  ·exact h'
  ·exact h'')
theorem bW.lit3N {w:World} {N:Nat} (hN:N=w.heap.size) {u u' u'':Value} {x x' x'':List Nd} (h:Nds w u x) (h':Nds w u' x') (h'':Nds w u'' x''):bW (w.alloc (.cells #[u,u',u''] 50)) (.slice (some ⟨N,0,none⟩) 3 3) [x,x',x'']:=by
 subst hN;exact bW.lit3 h h' h''
theorem bW.lit2N {w:World} {N:Nat} (hN:N=w.heap.size) {u u':Value} {x x':List Nd} (h:Nds w u x) (h':Nds w u' x'):bW (w.alloc (.cells #[u,u'] 50)) (.slice (some ⟨N,0,none⟩) 2 2) [x,x']:=by
 subst hN;exact bW.lit2 h h'
theorem Nds.shape {w:World} {v:Value} {a:List Nd} (h:Nds w v a):∃ p n cap,v=.slice p n cap:=by
 obtain⟨p,cap,hv,_⟩:=h;exact⟨p,_,cap,hv⟩
theorem bW.get {w:World} {p:Option Addr} {n cap:Nat} {xs:List (List Nd)} (h:bW w (.slice p n cap) xs) (i:Nat) (hi:i<xs.length):
  ∃ b off u,p=some ⟨b,off,none⟩∧w.cell? ⟨b,off+i,none⟩=some u∧Nds w u xs[i]:=by
 obtain⟨p',cap',hv,h1,h2,h3,h4⟩:=h
 cases hv
 obtain⟨b,off,f,hp,hc,hr⟩:=h4 i hi;exact⟨b,off,f 0,hp,by simpa using hc 0 qB,hr⟩
theorem aI.shape {w:World} {B:Nat} {v:Value} {a:List Int} (h:aI w B v a) (hp:0<a.length):∃ g cap,v=.slice (some ⟨g,0,none⟩) a.length cap∧B≤g∧g<w.heap.size∧a.length≤cap∧cap≤maxLen:=by
 rcases h.2 with ⟨_,h0⟩ | ⟨g,cap,cur,rfl,hb,hg,hn,hm,_⟩
 ·omega
 ·exact⟨g,cap,rfl,hb,(Array.getElem?_eq_some_iff.1 hg).1,hn,hm⟩
theorem aI.cell {w:World} {B:Nat} {g n cap:Nat} {a:List Int} (h:aI w B (.slice (some ⟨g,0,none⟩) n cap) a) (i:Nat) (hi:i<a.length):
  w.cell? ⟨g,i,none⟩=some (.int .i64 a[i])∧w.frozen? ⟨g,i,none⟩=false:=by
 obtain⟨g',cap',hv,_⟩:=h.shape qB
 cases hv
 have h':w.ownsRow B 2 1 (.slice (some ⟨g,0,none⟩) a.length cap) a.length (aO a):=h;refine⟨?_,h'.frozenAt i⟩;rw[h'.cellAt i qB];simp[aO,hi]
theorem aI.store {w:World} {B:Nat} {g n cap:Nat} {a:List Int} (h:aI w B (.slice (some ⟨g,0,none⟩) n cap) a) (i:Nat) (hi:i<a.length) (x:Int):
  aI (w.setCell ⟨g,i,none⟩ (.int .i64 x)) B (.slice (some ⟨g,0,none⟩) n cap) (a.set i x)∧w.grownBy (w.setCell ⟨g,i,none⟩ (.int .i64 x)) (some g):=by
 obtain⟨g',cap',hv,_⟩:=h.shape qB
 cases hv
 have h':w.ownsRow B 2 1 (.slice (some ⟨g,0,none⟩) a.length cap) a.length (aO a):=h;have:=h'.stored i (.int .i64 x);refine⟨?_,this.2⟩;unfold aI;rw[List.length_set,show aO (a.set i x)=(aO a).set i (.int .i64 x) by simp[aO,List.map_set]];exact this.1
theorem JV (n:Nat):(madeCells (Value.cells (.int .i64 0)) (n*1)).toList=aO (List.replicate n 0):=by
 rw[Nat.mul_one,show Value.cells (.int .i64 0)=#[.int .i64 0] from rfl,toList_madeCells_one];simp[aO]
theorem CI (w:World) (n:Nat) (hn:n≤2147483648):∃ w',(Instr.makeSlice 35 (.int .i64 (n:Int)) (.int .i64 (n:Int))).run Tryz.prog w=.ok (.slice (some ⟨w.heap.size,0,none⟩) n n) w'∧
   aI w' w.heap.size (.slice (some ⟨w.heap.size,0,none⟩) n n) (List.replicate n 0)∧aa w w':=by
 obtain⟨i0,hi,eE,h9,x6⟩:=info_parts DO;obtain⟨w',hr,ho,hg⟩:=run_make_full (P:=Tryz.prog) w w.heap.size 35 2 i0 _ 1 Tryz.underlying35 hi eE h9 .i64 .i64 n (by rw[x6];omega) (by unfold maxLen;omega) (zm _);refine⟨w',hr,?_,(aa.refl w).grown hg qD⟩;unfold aI;rw[List.length_replicate,←JV];exact ho
theorem aU.shape {w:World} {B:Nat} {v:Value} {a:List Nd} (h:aU w B v a) (hp:0<a.length):∃ g cap,v=.slice (some ⟨g,0,none⟩) a.length cap∧B≤g∧g<w.heap.size∧a.length≤cap∧cap≤maxLen:=by
 rcases h.2 with ⟨_,h0⟩ | ⟨g,cap,cur,rfl,hb,hg,hn,hm,_⟩
 ·omega
 ·exact⟨g,cap,rfl,hb,(Array.getElem?_eq_some_iff.1 hg).1,hn,hm⟩
def au (w:World) (v:Value) (ss:List ByteArray):Prop:=SlC 1 (fun _ f (s:ByteArray)=>f 0=.string s) w v ss
theorem au.keeps {w w':World} {v:Value} {ss:List ByteArray} (h:au w v ss) (k:aa w w'):au w' v ss:=
 SlC.keeps (R:=fun _ f (s:ByteArray)=>f 0=.string s) (fun _ _ _ _ _ h=>h) h k
theorem au.shape {w:World} {v:Value} {ss:List ByteArray} (h:au w v ss):∃ p cap,v=.slice p ss.length cap∧ss.length≤cap∧cap≤maxLen∧ss.length≤2147483648:=by
 obtain⟨p,cap,hv,h1,h2,h3,_⟩:=h;exact⟨p,cap,hv,h1,h2,h3⟩
theorem au.get {w:World} {p:Option Addr} {n cap:Nat} {ss:List ByteArray} (h:au w (.slice p n cap) ss) (i:Nat) (hi:i<ss.length):
  ∃ b off,p=some ⟨b,off,none⟩∧w.cell? ⟨b,off+i,none⟩=some (.string ss[i]):=by
 obtain⟨p',cap',hv,h1,h2,h3,h4⟩:=h
 cases hv
 obtain⟨b,off,f,hp,hc,hr⟩:=h4 i hi;exact⟨b,off,hp,by have:=hc 0 qB;rw[hr] at this;simpa using this⟩
theorem au.lit {w:World} (ss:List ByteArray) (hm:ss.length≤2147483648):au (w.alloc (.cells (ss.map Value.string).toArray 9)) (.slice (some ⟨w.heap.size,0,none⟩) ss.length ss.length) ss:=by
 have:=SlC.lit (R:=fun _ f (s:ByteArray)=>f 0=.string s) (fun _ _ _ _ _ h=>h) w 9 (ss.map Value.string) ss qD hm (fun i h1 h2=>by simp)
 simpa [au] using this
end
section
open Go.RowKit
def idxOf {α:Type} (pr:α→Bool):List α→Nat→Int
 | [],_=>-1
 | x::l,k=>if pr x then k else idxOf pr l (k+1)
theorem fI {α:Type} (pr:α→Bool) (l:List α):∀ k,decide (idxOf pr l k≥0)=l.any pr:=by
 induction l with
 | nil=>intro k;simp[idxOf]
 | cons x l ih=>
  intro k
  cases h:pr x
  ·have:=ih (k+1);simp only[idxOf,List.any_cons,h];simpa using this
  ·simp only[idxOf,h,List.any_cons];simp
theorem ea {α:Type} (pr:α→Bool) (l:List α) (k:Nat) (h:k<l.length):idxOf pr (l.drop k) k=if pr l[k] then (k:Int) else idxOf pr (l.drop (k+1)) (k+1):=by
 rw[List.drop_eq_getElem_cons h];rfl
theorem eT {α:Type} (pr:α→Bool) (l:List α) (k:Nat) (h:l.length≤k):idxOf pr (l.drop k) k = -1:=by
 rw[List.drop_eq_nil_of_le h];rfl
def aG (f:FuncId):Prop:=∀ args w,(callFunc f args).run Tryz.prog w=.ok (.enter f args) w
def inR (x l h:Int):Bool:=decide (l≤x∧x≤h)
theorem eW (x l h:Int) (w:World):Calls Tryz.prog 47 #[.int .i64 x,.int .i64 l,.int .i64 h] w fun e w'=>e=.returned (.bool (inR x l h))∧w=w':=by
 by_cases h1:l≤x
 ·by_cases h2:x≤h
  all_goals
   go_enter Tryz.func47,Tryz.ntmps47;go_wp2;go_ret;exact⟨ab (by simp[inR, *]),rfl⟩
 ·go_enter Tryz.func47,Tryz.ntmps47
  go_wp2;go_ret;exact⟨ab (by simp[inR];omega),rfl⟩
theorem eU (x l h:Int) (w:World):Calls Tryz.prog 66 #[.int .i64 x,.int .i64 l,.int .i64 h] w fun e w'=>e=.returned (.bool (inR x l h))∧w=w':=by
 by_cases h1:l≤x
 ·by_cases h2:x≤h
  all_goals
   go_enter Tryz.func66,Tryz.ntmps66;go_wp2;go_ret;exact⟨ab (by simp[inR, *]),rfl⟩
 ·go_enter Tryz.func66,Tryz.ntmps66
  go_wp2;go_ret;exact⟨ab (by simp[inR];omega),rfl⟩
theorem mL (k:Int) (w:World):
  Calls Tryz.prog 191 #[.int .i64 k] w fun e w'=>e=.returned (.int .i64 (bZ k))∧w=w':=by
 go_enter Tryz.func191,Tryz.ntmps191;go_wp2
 all_goals go_ret
 all_goals refine⟨aK ?_,rfl⟩
 all_goals (simp_all[bZ])
theorem dH (k:Int) (w:World):
  Calls Tryz.prog 216 #[.int .i64 k] w fun e w'=>e=.returned (.int .i64 (bZ k))∧w=w':=by
 go_enter Tryz.func216,Tryz.ntmps216;go_wp2
 all_goals go_ret
 all_goals refine⟨aK ?_,rfl⟩
 all_goals (simp_all[bZ])
theorem kn (a:List Nd) (v:Value) (i:Int) (w:World) (hv:Nds w v a) (h0:0≤i) (hi:i≤a.length):
  Calls Tryz.prog 194 #[v,.int .i64 i] w fun e w'=>e=.returned (.int .i64 (cD 1 a i.toNat))∧w=w':=by
 obtain⟨i,rfl⟩:=Int.eq_ofNat_of_zero_le h0;rw[Int.toNat_natCast];obtain⟨p,cap,rfl,x7,x6,hr,h9⟩:=hv;unfold maxLen at x6;go_enter Tryz.func194,Tryz.ntmps194;go_wp2
 go_loop [1,4,5] (fun i' r o=>∃ k op:Nat,k≤a.length∧op≤1+k∧cD 1 a i=cD op a k∧i'=.int .i64 k∧o=.int .i64 op∧r=.int .i64 0) (fun i _ _=>a.length-(intOf i).toNat)
 case atStart=>exact⟨i,1,qB,qB,rfl,rfl,rfl,rfl⟩
 case round=>
  obtain⟨k,op,hk,x8,hs,rfl,rfl,rfl⟩:=hrel;have Hs:=hid hs;clear hs
  by_cases h0:0<op
  ·by_cases eE:k<a.length
   ·obtain⟨b,off,rfl,h1,h2⟩:=hr.nd k eE
    have hp:=sM a[k].k;clear hr h2
    go_wp2_with (go_at_call 191;refine(mL _ _).mono ?_;rintro e w' ⟨rfl,rfl⟩)
    go_round
    case rel=>exact⟨k+1,op-1+bZ a[k].k,qB,qB,by rw[Hs.out];obtain⟨q,rfl⟩:∃ q,op=q+1:=⟨op-1,qB⟩;exact uK q a k eE,by go_num,by go_num,rfl⟩
    case measure=>simp[intOf];omega
   ·go_wp2
    go_ret;refine⟨aK ?_,rfl⟩
    obtain⟨q,rfl⟩:∃ q,op=q+1:=⟨op-1,qB⟩
    rw[Hs.out,yP _ _ _ qB]
  ·go_wp2
   go_ret;refine⟨aK ?_,rfl⟩;obtain rfl:op=0:=qB;rw[Hs.out,uL _ _ hk]
theorem kJ (a:List Nd) (v:Value) (i:Int) (w:World) (hv:Nds w v a) (h0:0≤i) (hi:i≤a.length):
  Calls Tryz.prog 187 #[v,.int .i64 i] w fun e w'=>e=.returned (.int .i64 (cD 1 a i.toNat))∧w=w':=by
 obtain⟨i,rfl⟩:=Int.eq_ofNat_of_zero_le h0;rw[Int.toNat_natCast];obtain⟨p,cap,rfl,x7,x6,hr,h9⟩:=hv;unfold maxLen at x6;go_enter Tryz.func187,Tryz.ntmps187;go_wp2
 go_loop [1,4,5] (fun i' r o=>∃ k op:Nat,k≤a.length∧op≤1+k∧cD 1 a i=cD op a k∧i'=.int .i64 k∧o=.int .i64 op∧r=.int .i64 0) (fun i _ _=>a.length-(intOf i).toNat)
 case atStart=>exact⟨i,1,qB,qB,rfl,rfl,rfl,rfl⟩
 case round=>
  obtain⟨k,op,hk,x8,hs,rfl,rfl,rfl⟩:=hrel;have Hs:=hid hs;clear hs
  by_cases h0:0<op
  ·by_cases eE:k<a.length
   ·obtain⟨b,off,rfl,h1,h2⟩:=hr.nd k eE
    have hp:=sM a[k].k;clear hr h2
    go_wp2_with (go_at_call 216;refine(dH _ _).mono ?_;rintro e w' ⟨rfl,rfl⟩)
    go_round
    case rel=>exact⟨k+1,op-1+bZ a[k].k,qB,qB,by rw[Hs.out];obtain⟨q,rfl⟩:∃ q,op=q+1:=⟨op-1,qB⟩;exact uK q a k eE,by go_num,by go_num,rfl⟩
    case measure=>simp[intOf];omega
   ·go_wp2
    go_ret;refine⟨aK ?_,rfl⟩
    obtain⟨q,rfl⟩:∃ q,op=q+1:=⟨op-1,qB⟩
    rw[Hs.out,yP _ _ _ qB]
  ·go_wp2
   go_ret;refine⟨aK ?_,rfl⟩;obtain rfl:op=0:=qB;rw[Hs.out,uL _ _ hk]
theorem yh (a:List Nd) (v:Value) (w:World) (hv:Nds w v a):
  Calls Tryz.prog 151 #[v] w fun e w'=>e=.returned (.bool (fJ a))∧w=w':=by
 have x6:=hv;obtain⟨p,cap,rfl,H8,H7,hr,x8⟩:=hv;unfold maxLen at H7;go_enter Tryz.func151,Tryz.ntmps151;go_wp2
 go_loop [2,3] (fun r i'=>∃ k:Nat,k≤a.length∧(∀ j (h:j<a.length),j<k→dR a[j]=true)∧i'=.int .i64 k∧r=.bool false) (fun _ i=>a.length-(intOf i).toNat)
 case atStart=>exact⟨0,qB,qB,rfl,rfl⟩
 case round=>
  obtain⟨k,hk,hs,rfl,rfl⟩:=hrel;have Hs:=hid hs;clear hs
  by_cases x9:k<a.length
  ·obtain⟨b,off,rfl,h1,h2⟩:=hr.nd k x9
   clear hr x6
   by_cases g1:inR a[k].k 0 6=true
   ·by_cases g2:inR a[k].s 0 5=true
    ·by_cases g3:a[k].k=0
     ·have G3:=hid g3
      have g3':(a[k].k != 0)=false:=by simp[g3]
      clear g3
      go_wp2_with (go_at_call 47;refine(eW _ _ _ _).mono ?_;rintro e w' ⟨rfl,rfl⟩)
      go_round
      case rel=>
       refine⟨k+1,qB,?_,by go_num,rfl⟩;intro j hj x7
       by_cases e:j=k
       ·subst e;have:=G3.out;simp[inR] at g2;simp[dR,this];omega
       ·exact Hs.out j hj qB
      case measure=>simp[intOf];omega
     ·have g3':(a[k].k != 0)=true:=by simp[g3]
      have G3:=hid g3;clear g3
      by_cases g4:a[k].s=0
      ·have G4:=hid g4
       have g4':(a[k].s != 0)=false:=by simp[g4]
       clear g4
       go_wp2_with (go_at_call 47;refine(eW _ _ _ _).mono ?_;rintro e w' ⟨rfl,rfl⟩)
       go_round
       case rel=>
        refine⟨k+1,qB,?_,by go_num,rfl⟩;intro j hj x7
        by_cases e:j=k
        ·subst e;have h3:=G3.out;have h4:=G4.out;simp[inR] at g1;simp[dR,h3,h4];omega
        ·exact Hs.out j hj qB
       case measure=>simp[intOf];omega
      ·have g4':(a[k].s != 0)=true:=by simp[g4]
       have eE:fJ a=false:=by
        have:dR a[k]=false:=by have:=G3.out;simp[dR,this];omega
        simp only[fJ,Bool.and_eq_false_iff];left;rw[List.all_eq_false];exact⟨a[k],qD,by simp[this]⟩
       have Hb:=hid eE;clear eE g4
       go_wp2_with (go_at_call 47;refine(eW _ _ _ _).mono ?_;rintro e w' ⟨rfl,rfl⟩)
       go_ret;exact⟨ab Hb.out.symm,rfl⟩
    ·have eE:fJ a=false:=by
      have:dR a[k]=false:=by simp[inR] at g1 g2;simp only[dR];split<;>simp<;>omega
      simp only[fJ,Bool.and_eq_false_iff];left;rw[List.all_eq_false];exact⟨a[k],qD,by simp[this]⟩
     have Hb:=hid eE;clear eE;simp only[Bool.not_eq_true] at g2
     go_wp2_with (go_at_call 47;refine(eW _ _ _ _).mono ?_;rintro e w' ⟨rfl,rfl⟩)
     go_ret;exact⟨ab Hb.out.symm,rfl⟩
   ·have eE:fJ a=false:=by
     have:dR a[k]=false:=by simp[inR] at g1;simp only[dR];split<;>simp<;>omega
     simp only[fJ,Bool.and_eq_false_iff];left;rw[List.all_eq_false];exact⟨a[k],qD,by simp[this]⟩
    have Hb:=hid eE;clear eE;simp only[Bool.not_eq_true] at g1
    go_wp2_with (go_at_call 47;refine(eW _ _ _ _).mono ?_;rintro e w' ⟨rfl,rfl⟩)
    go_ret;exact⟨ab Hb.out.symm,rfl⟩
  ·have h9:a.all dR=true:=by
    rw[zt];intro x hx;obtain⟨j,hj,rfl⟩:=List.getElem_of_mem hx;exact Hs.out j hj qB
   have Ha:=hid h9;clear h9
   by_cases h0:0<a.length
   ·go_wp2_with (go_at_call 194;refine(kn _ _ _ _ x6 qB qB).mono ?_;rintro e w' ⟨rfl,rfl⟩)
    go_ret;exact⟨ab (by simp[fJ,Ha.out];omega),rfl⟩
   ·go_wp2
    go_ret;exact⟨ab (by simp[fJ];omega),rfl⟩
def jh (w:World) (a:List Nd) (e:Ending) (w':World):Prop:=∃ v,e=.returned v∧aU w' w.heap.size v a∧aa w w'
def BS (w:World) (a:List Nd) (e:Ending) (w':World):Prop:=∃ v,e=.returned v∧Nds w v a∧w=w'
theorem Ck (a:List Nd) (v:Value) (w:World) (hv:Nds w v a):
  Calls Tryz.prog 102 #[v] w fun e w'=>e=.returned (.bool (qf a))∧w=w':=by
 have x6:=hv;obtain⟨p,cap,rfl,x7,h9,hr,eE⟩:=hv;unfold maxLen at h9
 by_cases h:a.length≤40
 all_goals
  go_enter Tryz.func102,Tryz.ntmps102
  go_wp2_with (go_at_call 151;refine(yh _ _ _ x6).mono ?_;rintro e w' ⟨rfl,rfl⟩)
  go_ret;exact⟨ab (by simp[qf];omega),rfl⟩
theorem dg (a:List Nd) (x:Nd) (t:Fm) (r:List Nd) (v:Value) (w:World) (hv:Nds w v a) (ha:a=x::(t.enc++r)):
  Calls Tryz.prog 188 #[v] w (BS w t.enc):=by
 have x7:=hv;obtain⟨p,cap,rfl,x9,h9,hr,x6⟩:=hv;have hp:=Fm.enc_pos t
 have hs:cD 1 a (1:Int).toNat=1+t.enc.length:=by subst ha;exact ib [x] t r
 have hl:1+t.enc.length≤a.length:=by subst ha;simp;omega
 obtain⟨b,off,rfl⟩:=hr.ptrN qB;have eE:=hid h9;unfold maxLen at h9;have Ha:=hid ha;clear ha;have Hs:=hid hs;clear hs;have x8:¬cap=1:=qB;go_enter Tryz.func188,Tryz.ntmps188
 go_wp2_with (go_at_call 194;refine(kn _ _ _ _ x7 qB qB).mono ?_;rintro e w' ⟨rfl,rfl⟩;rw[Hs.out])
 go_ret;have e:=Ha.out;rw[show x::(t.enc++r)=[x]++(t.enc++r) from rfl] at e;rw[e] at hr;exact⟨_,rfl,Nds.sub (l:=[x]) (m:=t.enc) (r:=r) hr qB qD qB qB (by have:=eE.out;omega),rfl⟩
theorem bY (a:List Nd) (x:Nd) (t u:Fm) (v:Value) (w:World) (hv:Nds w v a) (ha:a=x::(t.enc++u.enc)):
  Calls Tryz.prog 189 #[v] w (BS w u.enc):=by
 have x7:=hv;obtain⟨p,cap,rfl,H7,h9,hr,x6⟩:=hv;have hp:=Fm.enc_pos u
 have hs:cD 1 a (1:Int).toNat=1+t.enc.length:=by subst ha;exact ib [x] t u.enc
 have hl:a.length=1+t.enc.length+u.enc.length:=by subst ha;simp;omega
 obtain⟨b,off,rfl⟩:=hr.ptrN qB;have eE:=hid h9;unfold maxLen at h9;have Ha:=hid ha;clear ha;have Hs:=hid hs;clear hs;have x9:1+t.enc.length+u.enc.length≤a.length:=qB;have Hl:=hid hl;clear hl;have x8:¬cap=1+t.enc.length:=qB;go_enter Tryz.func189,Tryz.ntmps189
 go_wp2_with (go_at_call 194;refine(kn _ _ _ _ x7 qB qB).mono ?_;rintro e w' ⟨rfl,rfl⟩;rw[Hs.out])
 go_ret;have e:=Ha.out;rw[show x::(t.enc++u.enc)=(x::t.enc)++(u.enc++[]) by simp] at e;rw[e] at hr;have e2:=Hl.out;exact⟨_,rfl,Nds.sub (l:=x::t.enc) (m:=u.enc) (r:=[]) hr qB (by simp;omega) qB qB (by have:=eE.out;omega),rfl⟩
theorem cU (w:World):Calls Tryz.prog 85 #[] w (jh w Fm.fls.enc):=by
 go_enter Tryz.func85,Tryz.ntmps85;go_wp2;go_ret;exact⟨_,rfl,aU.lit1 w ⟨1,0⟩,(aa.refl w).alloc _⟩
theorem bQ (k:Int) (a b:List Nd) (va vb:Value) (w:World) (H7:Nds w va a) (H8:Nds w vb b) (hl:1+a.length+b.length≤2147483648):
  Calls Tryz.prog 42 #[.int .i64 k,va,vb] w (jh w (⟨k,0⟩::(a++b))):=by
 go_enter Tryz.func42,Tryz.ntmps42;have h1:=aU.lit1 w ⟨k,0⟩;have k1:=(aa.refl w).alloc (.cells #[.int .i64 k,.int .i64 0] 82);have eE:=H7.keeps k1
 go_wp2_with (first | (at_builtin;refine zF rfl (.tmp 9) (.tmp 10) rfl w.heap.size _ [⟨k,0⟩] rfl h1 _ a rfl eE qD (by simp;omega) ?_;intro v1 w1 KP h9 x7;have k2:aa w w1:=k1.grown h9 x7;have H9:=H8.keeps k2) | (at_builtin;refine zF rfl (.tmp 11) (.tmp 12) rfl w.heap.size _ ([⟨k,0⟩]++a) rfl (by assumption) _ b rfl (by assumption) (by have:=k2.size;omega) (by simp;omega) ?_;intro v2 w2 x9 x6 x8;have k3:aa w w2:=k2.grown x6 x8))
 go_ret;exact⟨_,rfl,by simpa using x9,k3⟩
theorem gK (t:Fm) (v:Value) (w:World) (hv:Nds w v t.enc) (hl:t.enc.length≤1073741824):
  Calls Tryz.prog 129 #[v] w (jh w (Fm.not t).enc):=by
 go_enter Tryz.func129,Tryz.ntmps129
 go_wp2_with (first | (go_at_call 85;refine(cU _).mono ?_;rintro e w1 ⟨v1,rfl,eE,k1⟩) | (go_at_call 42;refine(bQ _ _ _ _ _ _ (hv.keeps k1) (eE.nds (by simp[Fm.enc])) (by simp[Fm.enc];omega)).mono ?_;rintro e w2 ⟨v2,rfl,h9,k2⟩))
 go_ret;exact⟨_,rfl,h9.mono k1.size,k1.trans k2⟩
def fR (a:List Nd):List Nd×Int:=if a.length≤40 then (a,0) else ([],3)
theorem yc (a:List Nd) (v:Value) (w:World) (hv:Nds w v a):
  Calls Tryz.prog 41 #[v] w fun e w'=>e=.returned (.tuple #[if a.length≤40 then v else .slice none 0 0,.int .i64 (fR a).2])∧w=w':=by
 obtain⟨p,cap,rfl,x6,h9,hr,eE⟩:=hv;unfold maxLen at h9
 by_cases h:a.length≤40
 all_goals
  go_enter Tryz.func41,Tryz.ntmps41;go_wp2
  go_ret2
  exact⟨by simp[h,fR],rfl⟩
theorem yr {w:World} {B:Nat} {v:Value} {a:List Nd} (h:aU w B v a):aU w B (if a.length≤40 then v else .slice none 0 0) (fR a).1:=by
 unfold fR
 by_cases h4:a.length≤40
 ·rw[if_pos h4,if_pos h4];exact h
 ·rw[if_neg h4,if_neg h4];exact aU.nil _ _
theorem yd (a:List Nd) (v:Value) (w:World) (B:Nat) (hv:aU w B v a) (hl:a.length≤2147483648):
  Calls Tryz.prog 41 #[v] w fun e w'=>∃ u,e=.returned (.tuple #[u,.int .i64 (fR a).2])∧aU w' B u (fR a).1∧w=w':=
 (yc a v w (hv.nds hl)).mono fun e w' ⟨he,hw⟩=>⟨_,he,by subst hw;exact yr hv,hw⟩
def bts (s:ByteArray):List UInt8:=s.data.toList
def aq (a:List ByteArray):List Value:=a.map Value.string
theorem nN (a:List ByteArray):∀ u∈aq a,u.oneCell'=true:=by
 intro u hu;simp[aq] at hu;obtain⟨x,_,rfl⟩:=hu;rfl
theorem au.at {w:World} {v:Value} {a:List ByteArray} (h:au w v a):∃ p cap,v=.slice p a.length cap∧a.length≤cap∧cap≤maxLen∧At w p (aq a)∧a.length≤2147483648:=by
 obtain⟨p,cap,hv,h1,h2,h3⟩:=h.shape;subst hv;refine⟨p,cap,rfl,h1,h2,fun j hj=>?_,h3⟩
 have hj':j<a.length:=by simpa [aq] using hj
 obtain⟨b,off,hp,hc⟩:=h.get j hj';exact⟨b,off,hp,by simpa [aq] using hc⟩
theorem au.ofAt {w:World} {p:Option Addr} {cap:Nat} {a:List ByteArray} (h1:a.length≤cap) (h2:cap≤maxLen) (h:At w p (aq a)) (h3:a.length≤2147483648):au w (.slice p a.length cap) a:=by
 refine⟨p,cap,rfl,h1,h2,h3,fun i hi=>?_⟩;obtain⟨b,off,hp,hc⟩:=h i (by simpa [aq] using hi);refine⟨b,off,fun _=>.string a[i],hp,fun c hc'=>?_,rfl⟩;obtain rfl:c=0:=qB
 simpa [aq] using hc
def aA (w:World) (B:Nat) (v:Value) (a:List ByteArray):Prop:=w.ownsRow B 9 1 v a.length (aq a)
theorem aA.strs {w:World} {B:Nat} {v:Value} {a:List ByteArray} (h:aA w B v a) (hl:a.length≤2147483648):au w v a:=by
 obtain⟨p,cap,rfl,h2,h3,h4⟩:=At.of_own h;exact au.ofAt h2 h3 h4 hl
theorem aA.keeps {w w':World} {B:Nat} {v:Value} {a:List ByteArray} (h:aA w B v a) (k:aa w w'):aA w' B v a:=bw h k
theorem aA.mono {w:World} {B B':Nat} {v:Value} {a:List ByteArray} (h:aA w B v a) (k:B'≤B):aA w B' v a:=fU h k
theorem aA.nil (w:World) (B:Nat):aA w B (.slice none 0 0) []:=World.ownsRow_nil w B _ 1
theorem aA.len {w:World} {B:Nat} {v:Value} {a:List ByteArray} (h:aA w B v a):∀ k,v.ownBlock=some k→B≤k∧k<w.heap.size:=World.ownsRow.lt h
theorem xU:(Tryz.prog.info? 9).map (fun i=>(i.zero,i.size,i.bytes))=some (some (.string ⟨#[]⟩),1,16):=qA
theorem JB {w:World} {o:Oper} {a:Act} {K:Act→World→Prop} {Q:Exit→Act→World→Prop} (s x:Operand)
  (ho:o.op=.call { callee:=.builtin .append,args:=#[s,x],argTypes:=#[27,27] }) (base:Nat) (v:Value) (xs:List ByteArray) (hs:a.eval s=v) (h9:aA w base v xs)
  (u:Value) (ys:List ByteArray) (hx:a.eval x=u) (hu:au w u ys) (eE:base≤w.heap.size) (x7:xs.length+ys.length≤2147483648)
  (h:∀ v' w',aA w' base v' (xs++ys)→w.grownBy w' v.ownBlock→(∀ k,v.ownBlock=some k→base≤k)→K (a.put o.dst v') w'):o.wp Tryz.prog a w K Q:=by
 obtain⟨i0,hi,x8,x9,H7⟩:=info_parts xU;obtain⟨p,cap,rfl,_,_,x6,_⟩:=hu.at;refine bI s x _ ho _ i0 _ 1 16 Tryz.underlying27 hi x8 x9 H7 rfl qC base v _ _ hs h9 p _ cap _ hx (by simp[aq]) x6 (nN _) (by unfold maxLen;omega) qB eE ?_;intro v' w' h1 h2 h3;refine h v' w' ?_ h2 h3;unfold aA;rw[ze,show aq (xs++ys)=aq xs++aq ys by simp[aq]];exact h1
theorem iE {w:World} {ops:Array Oper} {rest:List Oper} {o:Oper} {a:Act} {Q:Exit→Act→World→Prop} (x7:o.guard=none) (s x:Operand)
  (ho:o.op=.call { callee:=.builtin .append,args:=#[s,x],argTypes:=#[27,27] }) (base:Nat) (v:Value) (xs:List ByteArray) (hs:a.eval s=v) (x6:aA w base v xs)
  (u:Value) (ys:List ByteArray) (hx:a.eval x=u) (hu:au w u ys) (eE:base≤w.heap.size) (h9:xs.length+ys.length≤2147483648)
  (h:∀ v' w',aA w' base v' (xs++ys)→w.grownBy w' v.ownBlock→(∀ k,v.ownBlock=some k→base≤k)→wpList Tryz.prog ops Q rest (a.put o.dst v') w'):wpList Tryz.prog ops Q (o::rest) a w:=
 wpList_plain x7 fun _ hK=>JB s x ho base v xs hs x6 u ys hx hu eE h9 fun v' w' h1 h2 h3=>hK _ _ (h v' w' h1 h2 h3)
theorem au.lit1 (w:World) (s:ByteArray):au (w.alloc (.cells #[.string s] 9)) (.slice (some ⟨w.heap.size,0,none⟩) 1 1) [s]:=au.lit (w:=w) [s] qD
theorem aA.empty (w:World):aA (w.alloc (.cells #[] 9)) w.heap.size (.slice (some ⟨w.heap.size,0,none⟩) 0 0) []:=
 World.ownsRow_made w #[] 0 (zm _) (by simp[maxLen]) qD
theorem da {s t:ByteArray} (h:bts s=bts t):s=t:=by
 cases s;cases t
 unfold bts at h
 congr 1
 exact Array.toList_inj.1 h
theorem At.drop {w:World} {b off:Nat} {vs:List Value} (h:At w (some ⟨b,off,none⟩) vs) (i:Nat) {o:Nat} (ho:o=off+i):At w (some ⟨b,o,none⟩) (vs.drop i):=fun j hj=>by
 subst ho
 simp at hj
 obtain⟨b',off',hp,hc⟩:=h (i+j) qB
 cases hp
 exact⟨b,_,rfl,by rw[Nat.add_assoc,hc];simp⟩
structure cG (w:World) (r:Nat) (s:ByteArray) (i:Nat) (bad:Bool):Prop where
 c0:w.cell? ⟨r,0,none⟩=some (.string s)
 c1:w.cell? ⟨r,1,none⟩=some (.int .i64 i)
 c2:w.cell? ⟨r,2,none⟩=some (.bool bad)
 f1:w.frozen? ⟨r,1,none⟩=false
 f2:w.frozen? ⟨r,2,none⟩=false
 le:i≤s.size
 sz:s.size≤2147483648
theorem cG.lt {w:World} {r:Nat} {s:ByteArray} {i:Nat} {bad:Bool} (h:cG w r s i bad):r<w.heap.size:=World.block_lt_of_cell? _ _ h.c0
theorem cG.keeps {w w':World} {r:Nat} {s:ByteArray} {i:Nat} {bad:Bool} (h:cG w r s i bad) (k:aa w w'):cG w' r s i bad:=by
 have hl:=h.lt;obtain⟨kc,kf⟩:=k.both;exact⟨k.cell h.c0,k.cell h.c1,k.cell h.c2,(kf _ _ hl).trans h.f1,(kf _ _ hl).trans h.f2,h.le,h.sz⟩
def fH (l:Nat) (r:List UInt8):Prop:=(l≤2→r.head? ≠ some 38)∧(l≤1→r.head? ≠ some 124)∧(l=0→r.head? ≠ some 62)
theorem fH.up {l m:Nat} {r:List UInt8} (h:fH l r) (k:l≤m):fH m r:=⟨fun e=>h.1 qB,fun e=>h.2.1 qB,fun e=>h.2.2 qB⟩
theorem E5 (r:List UInt8):fH 3 r:=⟨fun e=>by omega,fun e=>by omega,fun e=>by omega⟩
def Db (w:World) (r:Nat) (s:ByteArray) (j:Nat) (a:List Nd) (e:Ending) (w':World):Prop:=
 ∃ v,e=.returned v∧aU w' w.heap.size v a∧cG w' r s j false∧w.grownBy w' (some r)
def bh (f:FuncId) (l:Nat) (t:Fm) (X:List UInt8):Prop:=
 ∀ (w:World) (r:Nat) (s:ByteArray) (i:Nat) (rest:List UInt8),cG w r s i false→(bts s).drop i=X++rest→fH l rest→t.enc.length≤100000000→
  Calls Tryz.prog f #[.pointer (some ⟨r,0,none⟩)] w (Db w r s (i+X.length) t.enc)
theorem bA {s:ByteArray} {i:Nat} {b:UInt8} {l:List UInt8} (h:(bts s).drop i=b::l):∃ hi:i<s.size,s[i]=b∧(bts s).drop (i+1)=l:=by
 have hl:i<(bts s).length:=by
  rcases Nat.lt_or_ge i (bts s).length with h' | h'
  ·exact h'
  ·rw[List.drop_eq_nil_of_le h'] at h;cases h
 have hs:(bts s).length=s.size:=by show s.data.toList.length=s.data.size;simp
 rw[List.drop_eq_getElem_cons hl] at h;injection h with h1 h2;exact⟨qB,by rw[←h1];simp[bts];rfl,h2⟩
theorem A3 {s:ByteArray} {i:Nat} (hi:i≤s.size) (h:(bts s).drop i=[]):i=s.size:=by
 have hs:(bts s).length=s.size:=by show s.data.toList.length=s.data.size;simp
 have:=List.drop_eq_nil_iff.1 h;omega
theorem cK {s:ByteArray} {i:Nat} {X Y:List UInt8} (h:(bts s).drop i=X++Y):(bts s).drop (i+X.length)=Y:=by
 rw[←List.drop_drop,h,List.drop_left]
theorem er (ys:List Fm):∀ a:Fm,a.enc.length≤(ys.foldl Fm.and a).enc.length:=by
 induction ys with
 | nil=>intro a;exact zm _
 | cons y ys ih=>intro a;have:=ih (Fm.and a y);simp only[List.foldl_cons,Fm.enc,zh,ze] at *;omega
theorem eS (ys:List Fm):∀ a:Fm,a.enc.length≤(ys.foldl Fm.or a).enc.length:=by
 induction ys with
 | nil=>intro a;exact zm _
 | cons y ys ih=>intro a;have:=ih (Fm.or a y);simp only[List.foldl_cons,Fm.enc,zh,ze] at *;omega
theorem aU.grown {w w':World} {B r:Nat} {v:Value} {x:List Nd} (h:aU w B v x) (k:w.grownBy w' (some r)) (hr:r<B):aU w' B v x:=by
 refine⟨h.1,?_⟩
 rcases h.2 with hn | ⟨g,cap,cur,rfl,hb,eE,rest⟩
 ·exact .inl hn
 ·exact .inr ⟨g,cap,cur,rfl,hb,(k.block g (Array.getElem?_eq_some_iff.1 eE).1 (fun e=>by cases e;omega)).trans eE,rest⟩
theorem ag {w w1 w2:World} {row:Option Nat} (h:w.grownBy w1 row) (k:aa w1 w2):w.grownBy w2 row:=
 ⟨k.os.trans h.os,k.tape.trans h.tape,k.output.trans h.output,zx h.size k.size,fun i hi hr=>(k.block (zv hi h.size)).trans (h.block i hi hr)⟩
theorem zZ (pr:Nd→Bool) (f:FuncId) (cp:Array Value) (a:List Nd) (v:Value) (w:World) (hv:Nds w v a) (h9:aG f)
  (hf:∀ x w1,x∈a→aa w w1→Calls Tryz.prog f (#[.agg #[.int .i64 x.k,.int .i64 x.s]]++cp) w1 fun e w2=>e=.returned (.bool (pr x))∧aa w1 w2):
  Calls Tryz.prog 214 #[v,.func (.func f) #[] cp] w fun e w'=>e=.returned (.int .i64 (idxOf pr a 0))∧aa w w':=by
 obtain⟨p,cap,rfl,x9,x8,hr,x7⟩:=hv;unfold maxLen at x8;have HF:=hid hf;clear hf
 have x6:∀ args w,(callFunc f args).run Tryz.prog w=.ok (.enter f args) w:=h9
 clear h9;go_enter Tryz.func214,Tryz.ntmps214;go_wp2
 go_loopw [4,8] (fun r i' wr=>∃ k:Nat,k≤a.length∧idxOf pr a 0=idxOf pr (a.drop k) k∧aa w wr∧i'=.int .i64 k∧r=.int .i64 0) (fun _ i _=>a.length-(intOf i).toNat)
 case atStart=>exact⟨0,qB,qD,aa.refl w,rfl,rfl⟩
 case round=>
  obtain⟨k,hk,hs,kw,rfl,rfl⟩:=hrel;have Hs:=hid hs;clear hs
  by_cases eE:k<a.length
  ·obtain⟨b,off,rfl,h1,h2⟩:=(hr.keeps kw).nd k eE
   have hd:=hid (ea pr a k eE);clear hr
   cases hp:pr a[k]
   all_goals
    have Hp:=hid hp;clear hp
    go_wp2_with ((with_reducible refine(HF.out a[k] wr (zo eE) kw).mono ?_);rintro e w2 ⟨rfl,k2⟩;rw[Hp.out])
   ·go_roundw
    case rel=>exact⟨k+1,qB,by rw[Hs.out,hd.out,Hp.out];rfl,kw.trans k2,by go_num,rfl⟩
    case measure=>simp[intOf];omega
   ·go_ret
    exact⟨aK (by rw[Hs.out,hd.out,Hp.out];rfl),kw.trans k2⟩
  ·go_wp2
   go_ret;exact⟨aK (by rw[Hs.out,eT _ _ _ qB]),kw⟩
theorem tE (pr:Nd→Bool) (f:FuncId) (cp:Array Value) (a:List Nd) (v:Value) (w:World) (hv:Nds w v a) (eE:aG f)
  (hf:∀ x w1,x∈a→aa w w1→Calls Tryz.prog f (#[.agg #[.int .i64 x.k,.int .i64 x.s]]++cp) w1 fun e w2=>e=.returned (.bool (pr x))∧aa w1 w2):
  Calls Tryz.prog 184 #[v,.func (.func f) #[] cp] w fun e w'=>e=.returned (.bool (a.any pr))∧aa w w':=by
 have H:=hid (zZ pr f cp a v w hv eE hf);clear hv hf eE;have he:=hid (fI pr a 0);go_enter Tryz.func184,Tryz.ntmps184
 go_wp2_with (go_at_call 214;refine H.out.mono ?_;rintro e w2 ⟨rfl,k2⟩)
 go_ret;exact⟨ab he.out,k2⟩
theorem rY (x:Int) (w:World):Calls Tryz.prog 215 #[.int .i64 x] w fun e w'=>e=.returned (.bool (inR x 0 5))∧w=w':=by
 go_enter Tryz.func215,Tryz.ntmps215
 go_wp2_with (go_at_call 66;refine(eU _ _ _ _).mono ?_;rintro e w' ⟨rfl,rfl⟩)
 go_ret;exact⟨rfl,rfl⟩
theorem Ab (x:Nd) (w:World):Calls Tryz.prog 186 #[.agg #[.int .i64 x.k,.int .i64 x.s]] w fun e w'=>e=.returned (.bool (dR x))∧aa w w':=by
 by_cases h:x.k=0
 ·have h':(x.k==0)=true:=by simp[h]
  have H:=hid h;clear h;go_enter Tryz.func186,Tryz.ntmps186
  go_wp2_with (go_at_call 215;refine(rY _ _).mono ?_;rintro e w' ⟨rfl,rfl⟩)
  go_ret;exact⟨ab (by simp[dR,H.out,inR]),(aa.refl w).alloc _⟩
 ·have h':(x.k==0)=false:=by simp[h]
  have H:=hid h;clear h
  cases hi:inR x.k 1 6
  all_goals
   have Hi:=hid hi;clear hi;go_enter Tryz.func186,Tryz.ntmps186
   go_wp2_with (go_at_call 66;refine(eU _ _ _ _).mono ?_;rintro e w' ⟨rfl,rfl⟩;rw[Hi.out])
   go_ret;refine⟨ab ?_,(aa.refl w).alloc _⟩;have:=Hi.out;simp only[inR,decide_eq_true_eq,decide_eq_false_iff_not] at this;unfold dR;rw[if_neg H.out]
   by_cases h0:x.s=0<;>simp[h0]<;>omega
theorem qg (x:Nd) (w:World):Calls Tryz.prog 185 #[.agg #[.int .i64 x.k,.int .i64 x.s]] w fun e w'=>e=.returned (.bool (!dR x))∧aa w w':=by
 go_enter Tryz.func185,Tryz.ntmps185
 go_wp2_with (go_at_call 186;refine(Ab x _).mono ?_;rintro e w' ⟨rfl,k1⟩)
 go_ret;exact⟨rfl,((aa.refl w).alloc _).trans k1⟩
theorem l0:aG 185:=fun _ _=>by kernel_rfl
theorem z8 (a:List Nd):qf a=(decide (1≤a.length)&&(decide (a.length≤40)&&(!(a.any fun x=>!dR x)&&(cD 1 a 0==(a.length:Int))))):=by
 unfold qf fJ
 have:(!(a.any fun x=>!dR x))=a.all dR:=by
  induction a with
  | nil=>rfl
  | cons x l ih=>simp[List.all_cons,List.any_cons,←ih]
 rw[this]
 cases a.all dR<;>simp
 by_cases h:0<a.length<;>simp[h]
 all_goals omega
theorem tP (a:List Nd) (v:Value) (w:World) (hv:Nds w v a):
  Calls Tryz.prog 139 #[v] w fun e w'=>e=.returned (.bool (qf a))∧aa w w':=by
 have eE:=hid (z8 a);have h9:=hv;obtain⟨p,cap,rfl,x9,x8,hr,x7⟩:=hv;unfold maxLen at x8;clear hr
 by_cases h1:1≤a.length
 ·by_cases x6:a.length≤40
  ·cases ho:a.any fun x=>!dR x
   all_goals
    have Ho:=hid ho;clear ho;go_enter Tryz.func139,Tryz.ntmps139
    go_wp2_with (first
     | (go_at_call 184;refine(tE (fun x=>!dR x) _ #[] a _ _ h9 l0 (fun x w1 _ _=>qg x w1)).mono ?_;rintro e w1 ⟨rfl,k1⟩;rw[Ho.out])
     | (go_at_call 187;refine(kJ a _ _ _ (h9.keeps k1) qB qB).mono ?_;rintro e w' ⟨rfl,rfl⟩))
    go_ret;refine⟨ab ?_,k1⟩;rw[eE.out,Ho.out];simp[h1,x6]
  ·go_enter Tryz.func139,Tryz.ntmps139
   go_wp2;go_ret;refine⟨ab ?_,aa.refl _⟩;rw[eE.out];simp;omega
 ·go_enter Tryz.func139,Tryz.ntmps139
  go_wp2;go_ret;refine⟨ab ?_,aa.refl _⟩;rw[eE.out];simp;omega
def ir (k:Int):Bool:=decide (k=5∨k=6)
theorem dG (x:Int) (w:World):Calls Tryz.prog 118 #[.int .i64 x] w fun e w'=>e=.returned (.bool (ir x))∧w=w':=by
 go_enter Tryz.func118,Tryz.ntmps118;go_wp2
 all_goals go_ret
 all_goals exact⟨ab (by by_cases h5:x=5<;>by_cases h6:x=6<;>simp_all[ir]),rfl⟩
theorem sK (a l:List Nd) (t:Fm) (r:List Nd) (v:Value) (i:Int) (w:World) (hv:Nds w v a) (ha:a=l++(t.enc++r)) (hi:i=l.length):
  Calls Tryz.prog 162 #[v,.int .i64 i] w (BS w t.enc):=by
 subst hi;have x7:=hv;obtain⟨p,cap,rfl,x9,h9,hr,x6⟩:=hv;have hp:=Fm.enc_pos t
 have hs:cD 1 a (l.length:Int).toNat=l.length+t.enc.length:=by subst ha;exact ib l t r
 have hl:l.length+t.enc.length≤a.length:=by subst ha;simp
 obtain⟨b,off,rfl⟩:=hr.ptrN qB;have eE:=hid h9;unfold maxLen at h9;have Ha:=hid ha;clear ha;have Hs:=hid hs;clear hs;have x8:¬l.length+t.enc.length=l.length:=qB;go_enter Tryz.func162,Tryz.ntmps162
 go_wp2_with (go_at_call 187;refine(kJ _ _ _ _ x7 qB qB).mono ?_;rintro e w' ⟨rfl,rfl⟩;rw[Hs.out])
 go_ret;have e:=Ha.out;rw[e] at hr;exact⟨_,rfl,Nds.sub (l:=l) (m:=t.enc) (r:=r) hr qB rfl qB qB (by have:=eE.out;omega),rfl⟩
theorem bu (a:List Nd) (x:Nd) (t:Fm) (r:List Nd) (v:Value) (w:World) (hv:Nds w v a) (ha:a=x::(t.enc++r)):
  Calls Tryz.prog 120 #[v] w (BS w t.enc):=by
 go_enter Tryz.func120,Tryz.ntmps120
 go_wp2_with (go_at_call 162;refine(sK a [x] t r _ _ _ hv ha rfl).mono ?_;rintro e w' ⟨v1,rfl,eE,rfl⟩)
 go_ret;exact⟨_,rfl,eE,rfl⟩
theorem dt (a:List Nd) (x:Nd) (t u:Fm) (v:Value) (w:World) (hv:Nds w v a) (ha:a=x::(t.enc++u.enc)):
  Calls Tryz.prog 166 #[v] w (BS w u.enc):=by
 have hs:cD 1 a (1:Int).toNat=1+t.enc.length:=by subst ha;exact ib [x] t u.enc
 have eE:a=(x::t.enc)++(u.enc++[]):=by subst ha;simp
 have h9:(1:Int)≤a.length:=by subst ha;simp;omega
 have Ha:=hid eE;clear eE ha;have Hs:=hid hs;clear hs;go_enter Tryz.func166,Tryz.ntmps166
 go_wp2_with (first
  | (go_at_call 187;refine(kJ _ _ _ _ hv qB h9).mono ?_;rintro e w' ⟨rfl,rfl⟩;rw[Hs.out])
  | (go_at_call 162;refine(sK a (x::t.enc) u [] _ _ _ hv Ha.out (by simp;omega)).mono ?_;rintro e w' ⟨v1,rfl,x6,rfl⟩))
 go_ret;exact⟨_,rfl,x6,rfl⟩
theorem js (t:Fm) (v:Value) (w:World) (hv:Nds w v t.enc):
  Calls Tryz.prog 225 #[v] w fun e w'=>e=.returned (.bool t.isFls)∧w=w':=by
 obtain⟨b,off,n,cap,rfl,h0,h1,h2,h3,hc,_⟩:=hv.root;have hk:=hid (Fm.kind_isFls t);go_enter Tryz.func225,Tryz.ntmps225;go_wp2;go_ret;exact⟨ab hk.out,rfl⟩
theorem fo (t:Fm) (v:Value) (w:World) (hv:Nds w v t.enc):
  Calls Tryz.prog 224 #[v] w fun e w'=>e=.returned (.bool t.isNeg)∧w=w':=by
 have eE:=hv;obtain⟨b,off,n,cap,rfl,h0,h1,h2,h3,hc,_⟩:=hv.root;clear hv
 cases t with
 | imp x y=>
  go_enter Tryz.func224,Tryz.ntmps224
  go_wp2_with (first
   | (go_at_call 166;refine(dt _ _ x y _ _ eE rfl).mono ?_;rintro e w' ⟨v2,rfl,h9,rfl⟩)
   | (go_at_call 225;refine(js y _ _ h9).mono ?_;rintro e w' ⟨rfl,rfl⟩))
  go_ret;exact⟨rfl,rfl⟩
 | _=>
  clear eE;simp only[Fm.kind] at hc;go_enter Tryz.func224,Tryz.ntmps224;go_wp2;go_ret;exact⟨rfl,rfl⟩
theorem fC (n:Nat) (z:Array Value):(Builtin.zeroCells z n).size=n*z.size:=by simp[Builtin.zeroCells]
set_option maxRecDepth 20000 in
theorem Cb (n:Nat) (w:World) (hn:n≤2147483648):
  Calls Tryz.prog 127 #[.slice none 0 0,.int .i64 n] w (jh w []):=by
 obtain⟨i0,hi,x6,x7,x8⟩:=info_parts Bi
 by_cases h0:0<n
 ·have eE:=Lib.run_append_nil_zeros (P:=Tryz.prog) w 50 3 50 82 i0 _ .i64 .i64 Tryz.underlying50 Tryz.underlying3 hi x6 n h0 (by rw[x7];decide) qB (by rw[x8];omega)
  have H7:=grownCap_ge w n 0 82;have x9:=grownCap_le_maxLen w n 0 82 (by unfold maxLen;omega);unfold maxLen at x9
  have h9:aU (w.drew.alloc (.cells (Builtin.zeroCells (Value.agg #[.int .i64 0,.int .i64 0]).cells n++Builtin.zeroCells (Value.agg #[.int .i64 0,.int .i64 0]).cells (grownCap w n 0 82-n)) 82)) w.heap.size (.slice (some ⟨w.heap.size,0,none⟩) 0 (grownCap w n 0 82)) []:=by
   refine World.ownsRow_made w.drew _ _ (zm _) (by unfold maxLen;omega) ?_;rw[Array.size_append,fC,fC];simp[Value.cells];omega
  have hk:=((aa.refl w).drew).alloc (.cells (Builtin.zeroCells (Value.agg #[.int .i64 0,.int .i64 0]).cells n++Builtin.zeroCells (Value.agg #[.int .i64 0,.int .i64 0]).cells (grownCap w n 0 82-n)) 82);generalize w.drew.alloc (.cells (Builtin.zeroCells (Value.agg #[.int .i64 0,.int .i64 0]).cells n++Builtin.zeroCells (Value.agg #[.int .i64 0,.int .i64 0]).cells (grownCap w n 0 82-n)) 82)=w1 at eE h9 hk;generalize grownCap w n 0 82=c1 at*;have HR:=hid eE;clear eE;clear x6 x7 x8 hi;go_enter Tryz.func127,Tryz.ntmps127
  go_wp2_with (at_builtin;refine Lib.wpList_append_run _ rfl _ _ _ _ rfl _ _ rfl rfl _ _ HR.out ?_)
  go_ret;exact⟨_,rfl,h9,hk⟩
 ·obtain rfl:n=0:=qB
  go_enter Tryz.func127,Tryz.ntmps127;go_wp2;go_ret;exact⟨_,rfl,aU.nil _ _,aa.refl _⟩
def fl {α:Type} (l:List (List α)) (k:Nat):List α:=(l.take k).flatten
theorem qS {α:Type} (l:List (List α)) (k:Nat) (h:k<l.length):fl l (k+1)=fl l k++l[k]:=by
 unfold fl;rw[zq h,List.flatten_append];simp
theorem uw {α:Type} (l:List (List α)) (k:Nat):(fl l k).length≤(fl l l.length).length:=by
 unfold fl;rw[List.take_length]
 conv=>rhs;rw[←List.take_append_drop k l]
 simp only[List.flatten_append,ze];omega
theorem pC (l:List (List Nd)) (v:Value) (w:World) (hv:bW w v l) (hl:(fl l l.length).length≤2147483648):
  Calls Tryz.prog 79 #[v] w (jh w (fl l l.length)):=by
 have x9:=hv;obtain⟨p,cap,rfl,KV,KP,H9,_⟩:=hv;unfold maxLen at KP;go_enter Tryz.func79,Tryz.ntmps79;go_wp2
 go_loop [3,11] (fun s i'=>∃ k:Nat,k≤l.length∧i'=.int .i64 k∧s=.int .i64 (fl l k).length) (fun _ i=>l.length-(intOf i).toNat)
 case atStart=>exact⟨0,qB,rfl,rfl⟩
 case round=>
  obtain⟨k,hk,rfl,rfl⟩:=hrel;have hf:=uw l k
  by_cases x6:k<l.length
  ·obtain⟨b,off,u,rfl,h1,pu,capu,rfl,g1,g2,g3,g4⟩:=x9.get k x6
   have h9:=qS l k x6;have H7:=uw l (k+1)
   have eE:(fl l (k+1)).length=(fl l k).length+l[k].length:=by rw[h9];simp
   have x8:(fl l k).length+l[k].length≤2147483648:=qB;have HL:=hid eE;clear eE h9 H7;clear x9;go_wp2
   go_round
   case rel=>exact⟨k+1,qB,by go_num,by rw[HL.out];go_num⟩
   case measure=>simp[intOf];omega
  ·obtain rfl:k=l.length:=qB
   clear hf hk x6
   go_wp2_with (go_at_call 127;refine(Cb _ _ hl).mono ?_;rintro e w1 ⟨v1,rfl,KT,k1⟩)
   go_loopw [6,27] (fun s i' wr=>∃ k:Nat,k≤l.length∧i'=.int .i64 k∧aU wr w.heap.size s (fl l k)∧aa w wr) (fun _ i _=>l.length-(intOf i).toNat)
   case atStart=>exact⟨0,qB,rfl,KT,k1⟩
   case round=>
    obtain⟨k,hk,rfl,x7,kw⟩:=hrel
    by_cases x6:k<l.length
    ·obtain⟨b,off,u,rfl,h1,hu⟩:=(x9.keeps kw).get k x6
     have h9:=qS l k x6;have H7:=uw l (k+1)
     have x8:(fl l k).length+l[k].length≤2147483648:=by
      have:(fl l (k+1)).length=(fl l k).length+l[k].length:=by rw[h9];simp
      omega
     have HF:=hid h9;clear h9 H7;clear x9;have KS:=kw.size
     go_wp2_with (at_builtin;refine zF rfl _ _ rfl w.heap.size _ _ rfl x7 _ _ rfl hu KS x8 ?_;intro v2 w2 KU H8 KR;have k2:aa w w2:=kw.grown H8 KR)
     go_roundw
     case rel=>exact⟨k+1,qB,by go_num,by rw[HF.out];exact KU,k2⟩
     case measure=>simp[intOf];omega
    ·obtain rfl:k=l.length:=qB
     go_wp2;go_ret;exact⟨_,rfl,x7,kw⟩
end
section
open Fm
namespace KM
end KM
end
end Go.Proofs.YtagoboblkadelaaGreat
