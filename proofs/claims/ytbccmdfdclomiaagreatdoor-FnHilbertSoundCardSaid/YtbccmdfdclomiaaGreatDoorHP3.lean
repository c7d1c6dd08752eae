import Derived.Test.YtbccmdfdclomiaaGreatDoorHTN
/- own -/
namespace Go.Proofs.YtbccmdfdclomiaaGreatDoor
set_option maxRecDepth 20000
set_option maxHeartbeats 1000000
section
open Fm
namespace Fm
def lev:Fm→Nat
 | .imp _ b=>if b.isFls then 3 else 0
 | .or _ _=>1
 | .and _ _=>2
 | _=>3
def par (b:Bool) (s:List UInt8):List UInt8:=if b then 40::(s++[41]) else s
def body:Fm→List UInt8
 | .var v=>[UInt8.ofNat (112+v)]
 | .fls=>[70]
 | .and a b=>par (decide (a.lev<2)) a.body++38::par (decide (b.lev<3)) b.body
 | .or a b=>par (decide (a.lev<1)) a.body++124::par (decide (b.lev<2)) b.body
 | .imp a b=>if b.isFls then (if a.isFls then [84] else 126::par (decide (a.lev<3)) a.body) else par (decide (a.lev<1)) a.body++62::b.body
 | .box a=>91::93::par (decide (a.lev<3)) a.body
 | .dia a=>60::62::par (decide (a.lev<3)) a.body
def txt (t:Fm) (l:Nat):List UInt8:=par (decide (t.lev<l)) t.body
theorem txt0 (t:Fm):t.txt 0=t.body:=by simp [txt,par]
theorem lev_le (t:Fm):t.lev≤3:=by
 cases t<;>simp only [lev]<;>(try split)<;>omega
theorem txt_eq (t:Fm) (l m:Nat) (h:t.lev<l↔t.lev<m):t.txt l=t.txt m:=by
 unfold txt;rw [show decide (t.lev<l)=decide (t.lev<m) from decide_eq_decide.2 h]
def andHead:Fm→Fm
 | .and a _=>a.andHead
 | t=>t
def andTail:Fm→List Fm
 | .and a b=>a.andTail++[b]
 | _=>[]
def orHead:Fm→Fm
 | .or a _=>a.orHead
 | t=>t
def orTail:Fm→List Fm
 | .or a b=>a.orTail++[b]
 | _=>[]
def behind (c:UInt8) (l:Nat):List Fm→List UInt8
 | []=>[]
 | x::xs=>c::(x.txt l++behind c l xs)
theorem behind_append (c:UInt8) (l:Nat) (xs ys:List Fm):behind c l (xs++ys)=behind c l xs++behind c l ys:=by
 induction xs with
 | nil=>rfl
 | cons x xs ih=>simp [behind,ih]
theorem and_fold (t:Fm):t.andTail.foldl Fm.and t.andHead=t:=by
 induction t with
 | and a b iha _=>simp [andTail,andHead,List.foldl_append,iha]
 | _=>rfl
theorem or_fold (t:Fm):t.orTail.foldl Fm.or t.orHead=t:=by
 induction t with
 | or a b iha _=>simp [orTail,orHead,List.foldl_append,iha]
 | _=>rfl
theorem and_txt (t:Fm):t.txt 2=t.andHead.txt 3++behind 38 3 t.andTail:=by
 induction t with
 | and a b iha _=>
  have h:(Fm.and a b).txt 2=a.txt 2++38::b.txt 3:=by simp [txt,body,par,lev]
  rw [h,iha];simp [andTail,andHead,behind_append,behind]
 | var v=>simp [andTail,andHead,behind];exact txt_eq _ _ _ (by simp [lev])
 | fls=>simp [andTail,andHead,behind];exact txt_eq _ _ _ (by simp [lev])
 | or a b _ _=>simp [andTail,andHead,behind];exact txt_eq _ _ _ (by simp [lev])
 | imp a b _ _=>simp [andTail,andHead,behind];exact txt_eq _ _ _ (by simp only [lev];split<;>omega)
 | box a _=>simp [andTail,andHead,behind];exact txt_eq _ _ _ (by simp [lev])
 | dia a _=>simp [andTail,andHead,behind];exact txt_eq _ _ _ (by simp [lev])
theorem or_txt (t:Fm):t.txt 1=t.orHead.txt 2++behind 124 2 t.orTail:=by
 induction t with
 | or a b iha _=>
  have h:(Fm.or a b).txt 1=a.txt 1++124::b.txt 2:=by simp [txt,body,par,lev]
  rw [h,iha];simp [orTail,orHead,behind_append,behind]
 | var v=>simp [orTail,orHead,behind];exact txt_eq _ _ _ (by simp [lev])
 | fls=>simp [orTail,orHead,behind];exact txt_eq _ _ _ (by simp [lev])
 | and a b _ _=>simp [orTail,orHead,behind];exact txt_eq _ _ _ (by simp [lev])
 | imp a b _ _=>simp [orTail,orHead,behind];exact txt_eq _ _ _ (by simp only [lev];split<;>omega)
 | box a _=>simp [orTail,orHead,behind];exact txt_eq _ _ _ (by simp [lev])
 | dia a _=>simp [orTail,orHead,behind];exact txt_eq _ _ _ (by simp [lev])
theorem and_parts (t:Fm):(t.lev=2→∀ x∈t.andHead::t.andTail,x.enc.length<t.enc.length)∧(∀ x∈t.andHead::t.andTail,x.enc.length≤t.enc.length):=by
 induction t with
 | and a b iha _=>
  have h:∀ x∈(Fm.and a b).andHead::(Fm.and a b).andTail,x.enc.length<(Fm.and a b).enc.length:=by
   intro x hx;simp only [andHead,andTail,List.mem_cons,List.mem_append] at hx;have:=iha.2;simp only [enc,List.length_cons,List.length_append]
   rcases hx with rfl | hx | rfl | hx
   ·have:=this _ (List.mem_cons_self ..);omega
   ·have:=this _ (List.mem_cons_of_mem _ hx);omega
   ·omega
   ·cases hx
  exact ⟨fun _=>h,fun x hx=>Nat.le_of_lt (h x hx)⟩
 | imp a b _ _=>exact ⟨fun h=>by simp only [lev] at h;split at h<;>omega,fun x hx=>by simp [andHead,andTail] at hx;subst hx;exact Nat.le_refl _⟩
 | _=>exact ⟨fun h=>by simp [lev] at h,fun x hx=>by simp [andHead,andTail] at hx;subst hx;exact Nat.le_refl _⟩
theorem or_parts (t:Fm):(t.lev=1→∀ x∈t.orHead::t.orTail,x.enc.length<t.enc.length)∧(∀ x∈t.orHead::t.orTail,x.enc.length≤t.enc.length):=by
 induction t with
 | or a b iha _=>
  have h:∀ x∈(Fm.or a b).orHead::(Fm.or a b).orTail,x.enc.length<(Fm.or a b).enc.length:=by
   intro x hx;simp only [orHead,orTail,List.mem_cons,List.mem_append] at hx;have:=iha.2;simp only [enc,List.length_cons,List.length_append]
   rcases hx with rfl | hx | rfl | hx
   ·have:=this _ (List.mem_cons_self ..);omega
   ·have:=this _ (List.mem_cons_of_mem _ hx);omega
   ·omega
   ·cases hx
  exact ⟨fun _=>h,fun x hx=>Nat.le_of_lt (h x hx)⟩
 | imp a b _ _=>exact ⟨fun h=>by simp only [lev] at h;split at h<;>omega,fun x hx=>by simp [orHead,orTail] at hx;subst hx;exact Nat.le_refl _⟩
 | _=>exact ⟨fun h=>by simp [lev] at h,fun x hx=>by simp [orHead,orTail] at hx;subst hx;exact Nat.le_refl _⟩
theorem and_wf (t:Fm) (h:t.wf):∀ x∈t.andHead::t.andTail,x.wf:=by
 induction t with
 | and a b iha _=>
  intro x hx;simp only [andHead,andTail,List.mem_cons,List.mem_append] at hx;have:=iha h.1
  rcases hx with rfl | hx | rfl | hx
  ·exact this _ (List.mem_cons_self ..)
  ·exact this _ (List.mem_cons_of_mem _ hx)
  ·exact h.2
  ·cases hx
 | _=>intro x hx;simp [andHead,andTail] at hx;subst hx;exact h
theorem or_wf (t:Fm) (h:t.wf):∀ x∈t.orHead::t.orTail,x.wf:=by
 induction t with
 | or a b iha _=>
  intro x hx;simp only [orHead,orTail,List.mem_cons,List.mem_append] at hx;have:=iha h.1
  rcases hx with rfl | hx | rfl | hx
  ·exact this _ (List.mem_cons_self ..)
  ·exact this _ (List.mem_cons_of_mem _ hx)
  ·exact h.2
  ·cases hx
 | _=>intro x hx;simp [orHead,orTail] at hx;subst hx;exact h
end Fm
theorem reads_all (R:Nat→Fm→List UInt8→Prop)
  (h3:∀ t:Fm,t.wf→t.lev=3→(∀ x:Fm,x.wf→x.enc.length<t.enc.length→R 3 x (x.txt 3))→R 3 t t.body)
  (hp:∀ t:Fm,R 0 t t.body→R 3 t (40::(t.body++[41])))
  (h2:∀ x0 xs,R 3 x0 (x0.txt 3)→(∀ x∈xs,R 3 x (x.txt 3))→R 2 (xs.foldl Fm.and x0) (x0.txt 3++behind 38 3 xs))
  (h1:∀ x0 xs,R 2 x0 (x0.txt 2)→(∀ x∈xs,R 2 x (x.txt 2))→R 1 (xs.foldl Fm.or x0) (x0.txt 2++behind 124 2 xs))
  (h0:∀ t X,R 1 t X→R 0 t X)
  (hi:∀ a b,R 1 a (a.txt 1)→R 0 b b.body→R 0 (Fm.imp a b) (a.txt 1++62::b.body)):
  ∀ (n:Nat) (t:Fm),t.enc.length≤n→t.wf→R 0 t (t.txt 0)∧R 1 t (t.txt 1)∧R 2 t (t.txt 2)∧R 3 t (t.txt 3):=by
 intro n
 induction n with
 | zero=>intro t h;have:=t.enc_pos;omega
 | succ n ih=>
  intro t hn hw
  have sm:∀ x:Fm,x.wf→x.enc.length<t.enc.length→R 0 x (x.txt 0)∧R 1 x (x.txt 1)∧R 2 x (x.txt 2)∧R 3 x (x.txt 3):=fun x hx hl=>ih x (by omega) hx
  have s2:(∀ x∈t.andHead::t.andTail,R 3 x (x.txt 3))→R 2 t (t.txt 2):=fun h=>by
   have:=h2 t.andHead t.andTail (h _ (List.mem_cons_self ..)) (fun x hx=>h x (List.mem_cons_of_mem _ hx));rwa [and_fold,←and_txt] at this
  have s1:(∀ x∈t.orHead::t.orTail,R 2 x (x.txt 2))→R 1 t (t.txt 1):=fun h=>by
   have:=h1 t.orHead t.orTail (h _ (List.mem_cons_self ..)) (fun x hx=>h x (List.mem_cons_of_mem _ hx));rwa [or_fold,←or_txt] at this
  have hle:=t.lev_le
  have up2:t.lev≠2→R 3 t (t.txt 3)→R 2 t (t.txt 2):=fun hl h=>by
   apply s2;intro x hx
   have hx':x=t:=by
    cases t with
    | and a b=>exact absurd rfl hl
    | _=>simp [andHead,andTail] at hx;exact hx
   subst hx';exact h
  have up1:t.lev≠1→R 2 t (t.txt 2)→R 1 t (t.txt 1):=fun hl h=>by
   apply s1;intro x hx
   have hx':x=t:=by
    cases t with
    | or a b=>exact absurd rfl hl
    | _=>simp [orHead,orTail] at hx;exact hx
   subst hx';exact h
  have up0:t.lev≠0→R 1 t (t.txt 1)→R 0 t (t.txt 0):=fun hl h=>by
   rw [txt_eq t 0 1 (by omega)];exact h0 _ _ h
  have dn:t.lev<3→R 0 t (t.txt 0)→R 3 t (t.txt 3):=fun hl h=>by
   rw [txt0] at h;have:=hp t h;unfold txt par;rw [decide_eq_true hl]
   simpa using this
  by_cases e3:t.lev=3
  ·have r3:R 3 t (t.txt 3):=by
    have:=h3 t hw e3 (fun x hx hl=>(sm x hx hl).2.2.2);unfold txt par;rw [decide_eq_false (by omega)]
    simpa using this
   have r2:=up2 (by omega) r3;have r1:=up1 (by omega) r2;exact ⟨up0 (by omega) r1,r1,r2,r3⟩
  by_cases e2:t.lev=2
  ·have r2:=s2 (fun x hx=>(sm x (t.and_wf hw x hx) (t.and_parts.1 e2 x hx)).2.2.2)
   have r1:=up1 (by omega) r2;have r0:=up0 (by omega) r1;exact ⟨r0,r1,r2,dn (by omega) r0⟩
  by_cases e1:t.lev=1
  ·have r1:=s1 (fun x hx=>(sm x (t.or_wf hw x hx) (t.or_parts.1 e1 x hx)).2.2.1)
   have r0:=up0 (by omega) r1;have r3:=dn (by omega) r0;exact ⟨r0,r1,up2 (by omega) r3,r3⟩
  ·have r0:R 0 t (t.txt 0):=by
    have hz:t.lev=0:=by omega
    cases t with
    | imp a b=>
     have hb:b.isFls=false:=by
      simp only [lev] at hz;split at hz
      ·omega
      ·simpa using ‹¬b.isFls=true›
     have ra:=(sm a hw.1 (by simp only [enc,List.length_cons,List.length_append];omega)).2.1;have rb:=(sm b hw.2 (by simp only [enc,List.length_cons,List.length_append];omega)).1;rw [txt0] at rb;have:=hi a b ra rb;rw [txt0];simp only [body,hb]
     simpa [txt] using this
    | _=>simp [lev] at hz
   have r3:=dn (by omega) r0;have r2:=up2 (by omega) r3;exact ⟨r0,up1 (by omega) r2,r2,r3⟩
end
section
open Go.RowKit
def bts (s:ByteArray):List UInt8:=s.data.toList
def strCells (a:List ByteArray):List Value:=a.map Value.string
theorem strCells_one (a:List ByteArray):∀ u∈strCells a,u.oneCell'=true:=by
 intro u hu;simp [strCells] at hu;obtain ⟨x,_,rfl⟩:=hu;rfl
theorem Strs.at {w:World} {v:Value} {a:List ByteArray} (h:Strs w v a):∃ p cap,v=.slice p a.length cap∧a.length≤cap∧cap≤maxLen∧At w p (strCells a)∧a.length≤2147483648:=by
 obtain ⟨p,cap,hv,h1,h2,h3⟩:=h.shape;subst hv;refine ⟨p,cap,rfl,h1,h2,fun j hj=>?_,h3⟩
 have hj':j<a.length:=by simpa [strCells] using hj
 obtain ⟨b,off,hp,hc⟩:=h.get j hj';exact ⟨b,off,hp,by simpa [strCells] using hc⟩
theorem Strs.ofAt {w:World} {p:Option Addr} {cap:Nat} {a:List ByteArray} (h1:a.length≤cap) (h2:cap≤maxLen) (h:At w p (strCells a)) (h3:a.length≤2147483648):Strs w (.slice p a.length cap) a:=by
 refine ⟨p,cap,rfl,h1,h2,h3,fun i hi=>?_⟩;obtain ⟨b,off,hp,hc⟩:=h i (by simpa [strCells] using hi);refine ⟨b,off,fun _=>.string a[i],hp,fun c hc'=>?_,rfl⟩
 obtain rfl:c=0:=by omega
 simpa [strCells] using hc
def OwnS (w:World) (B:Nat) (v:Value) (a:List ByteArray):Prop:=w.ownsRow B 9 1 v a.length (strCells a)
theorem OwnS.strs {w:World} {B:Nat} {v:Value} {a:List ByteArray} (h:OwnS w B v a) (hl:a.length≤2147483648):Strs w v a:=by
 obtain ⟨p,cap,rfl,h2,h3,h4⟩:=At.of_own h;exact Strs.ofAt h2 h3 h4 hl
theorem OwnS.keeps {w w':World} {B:Nat} {v:Value} {a:List ByteArray} (h:OwnS w B v a) (k:Keeps w w'):OwnS w' B v a:=own_keeps h k
theorem OwnS.mono {w:World} {B B':Nat} {v:Value} {a:List ByteArray} (h:OwnS w B v a) (k:B'≤B):OwnS w B' v a:=own_mono h k
theorem OwnS.nil (w:World) (B:Nat):OwnS w B (.slice none 0 0) []:=World.ownsRow_nil w B _ 1
theorem OwnS.len {w:World} {B:Nat} {v:Value} {a:List ByteArray} (h:OwnS w B v a):∀ k,v.ownBlock=some k→B≤k∧k<w.heap.size:=World.ownsRow.lt h
theorem infoS:(Tryz.prog.info? 9).map (fun i=>(i.zero,i.size,i.bytes))=some (some (.string ⟨#[]⟩),1,16):=by kernel_rfl
theorem appSK {w:World} {o:Oper} {a:Act} {K:Act→World→Prop} {Q:Exit→Act→World→Prop} (s x:Operand)
  (ho:o.op=.call { callee:=.builtin .append,args:=#[s,x],argTypes:=#[82,82] }) (base:Nat) (v:Value) (xs:List ByteArray) (hs:a.eval s=v) (hown:OwnS w base v xs)
  (u:Value) (ys:List ByteArray) (hx:a.eval x=u) (hu:Strs w u ys) (hbase:base≤w.heap.size) (hlen:xs.length+ys.length≤2147483648)
  (h:∀ v' w',OwnS w' base v' (xs++ys)→w.grownBy w' v.ownBlock→(∀ k,v.ownBlock=some k→base≤k)→K (a.put o.dst v') w'):o.wp Tryz.prog a w K Q:=by
 obtain ⟨i0,hi,hz0,hz1,hz2⟩:=info_parts infoS;obtain ⟨p,cap,rfl,_,_,hat,_⟩:=hu.at;refine wp_append_at s x _ ho _ i0 _ 1 16 Tryz.underlying82 hi hz0 hz1 hz2 rfl (by decide) base v _ _ hs hown p _ cap _ hx (by simp [strCells]) hat (strCells_one _) (by unfold maxLen;omega) (by omega) hbase ?_;intro v' w' h1 h2 h3;refine h v' w' ?_ h2 h3;unfold OwnS;rw [List.length_append,show strCells (xs++ys)=strCells xs++strCells ys by simp [strCells]];exact h1
theorem appS {w:World} {ops:Array Oper} {rest:List Oper} {o:Oper} {a:Act} {Q:Exit→Act→World→Prop} (hgd:o.guard=none) (s x:Operand)
  (ho:o.op=.call { callee:=.builtin .append,args:=#[s,x],argTypes:=#[82,82] }) (base:Nat) (v:Value) (xs:List ByteArray) (hs:a.eval s=v) (hown:OwnS w base v xs)
  (u:Value) (ys:List ByteArray) (hx:a.eval x=u) (hu:Strs w u ys) (hbase:base≤w.heap.size) (hlen:xs.length+ys.length≤2147483648)
  (h:∀ v' w',OwnS w' base v' (xs++ys)→w.grownBy w' v.ownBlock→(∀ k,v.ownBlock=some k→base≤k)→wpList Tryz.prog ops Q rest (a.put o.dst v') w'):wpList Tryz.prog ops Q (o::rest) a w:=
 wpList_plain hgd fun _ hK=>appSK s x ho base v xs hs hown u ys hx hu hbase hlen fun v' w' h1 h2 h3=>hK _ _ (h v' w' h1 h2 h3)
theorem Strs.lit1 (w:World) (s:ByteArray):Strs (w.alloc (.cells #[.string s] 9)) (.slice (some ⟨w.heap.size,0,none⟩) 1 1) [s]:=Strs.lit (w:=w) [s] (by simp)
theorem Strs.lit2 (w:World) (s t:ByteArray):Strs (w.alloc (.cells #[.string s,.string t] 9)) (.slice (some ⟨w.heap.size,0,none⟩) 2 2) [s,t]:=Strs.lit (w:=w) [s,t] (by simp)
theorem bts_inj {s t:ByteArray} (h:bts s=bts t):s=t:=by
 cases s;cases t
 unfold bts at h
 congr 1
 exact Array.toList_inj.1 h
structure RdAt (w:World) (r:Nat) (s:ByteArray) (i:Nat) (bad:Bool):Prop where
 c0:w.cell? ⟨r,0,none⟩=some (.string s)
 c1:w.cell? ⟨r,1,none⟩=some (.int .i64 i)
 c2:w.cell? ⟨r,2,none⟩=some (.bool bad)
 f1:w.frozen? ⟨r,1,none⟩=false
 f2:w.frozen? ⟨r,2,none⟩=false
 le:i≤s.size
 sz:s.size≤2147483648
theorem RdAt.lt {w:World} {r:Nat} {s:ByteArray} {i:Nat} {bad:Bool} (h:RdAt w r s i bad):r<w.heap.size:=World.block_lt_of_cell? _ _ h.c0
theorem RdAt.keeps {w w':World} {r:Nat} {s:ByteArray} {i:Nat} {bad:Bool} (h:RdAt w r s i bad) (k:Keeps w w'):RdAt w' r s i bad:=by
 have hl:=h.lt;obtain ⟨kc,kf⟩:=k.both;exact ⟨k.cell h.c0,k.cell h.c1,k.cell h.c2,(kf _ _ hl).trans h.f1,(kf _ _ hl).trans h.f2,h.le,h.sz⟩
def stops (l:Nat) (r:List UInt8):Prop:=(l≤2→r.head? ≠ some 38)∧(l≤1→r.head? ≠ some 124)∧(l=0→r.head? ≠ some 62)
theorem stops.up {l m:Nat} {r:List UInt8} (h:stops l r) (k:l≤m):stops m r:=⟨fun e=>h.1 (by omega),fun e=>h.2.1 (by omega),fun e=>h.2.2 (by omega)⟩
theorem stops3 (r:List UInt8):stops 3 r:=⟨fun e=>by omega,fun e=>by omega,fun e=>by omega⟩
def RetRd (w:World) (r:Nat) (s:ByteArray) (j:Nat) (a:List Nd) (e:Ending) (w':World):Prop:=
 ∃ v,e=.returned v∧OwnN w' w.heap.size v a∧RdAt w' r s j false∧w.grownBy w' (some r)
def Reads (f:FuncId) (l:Nat) (t:Fm) (X:List UInt8):Prop:=
 ∀ (w:World) (r:Nat) (s:ByteArray) (i:Nat) (rest:List UInt8),RdAt w r s i false→(bts s).drop i=X++rest→stops l rest→t.enc.length≤100000000→
  Calls Tryz.prog f #[.pointer (some ⟨r,0,none⟩)] w (RetRd w r s (i+X.length) t.enc)
theorem bts_head {s:ByteArray} {i:Nat} {b:UInt8} {l:List UInt8} (h:(bts s).drop i=b::l):∃ hi:i<s.size,s[i]=b∧(bts s).drop (i+1)=l:=by
 have hl:i<(bts s).length:=by
  rcases Nat.lt_or_ge i (bts s).length with h' | h'
  ·exact h'
  ·rw [List.drop_eq_nil_of_le h'] at h;cases h
 have hs:(bts s).length=s.size:=by show s.data.toList.length=s.data.size;simp
 rw [List.drop_eq_getElem_cons hl] at h;injection h with h1 h2;exact ⟨by omega,by rw [←h1];simp [bts];rfl,h2⟩
theorem bts_end {s:ByteArray} {i:Nat} (hi:i≤s.size) (h:(bts s).drop i=[]):i=s.size:=by
 have hs:(bts s).length=s.size:=by show s.data.toList.length=s.data.size;simp
 have:=List.drop_eq_nil_iff.1 h;omega
theorem drop_more {s:ByteArray} {i:Nat} {X Y:List UInt8} (h:(bts s).drop i=X++Y):(bts s).drop (i+X.length)=Y:=by
 rw [←List.drop_drop,h,List.drop_left]
theorem fold_and_len (ys:List Fm):∀ a:Fm,a.enc.length≤(ys.foldl Fm.and a).enc.length:=by
 induction ys with
 | nil=>intro a;exact Nat.le_refl _
 | cons y ys ih=>intro a;have:=ih (Fm.and a y);simp only [List.foldl_cons,Fm.enc,List.length_cons,List.length_append] at *;omega
theorem fold_or_len (ys:List Fm):∀ a:Fm,a.enc.length≤(ys.foldl Fm.or a).enc.length:=by
 induction ys with
 | nil=>intro a;exact Nat.le_refl _
 | cons y ys ih=>intro a;have:=ih (Fm.or a y);simp only [List.foldl_cons,Fm.enc,List.length_cons,List.length_append] at *;omega
theorem OwnN.grown {w w':World} {B r:Nat} {v:Value} {x:List Nd} (h:OwnN w B v x) (k:w.grownBy w' (some r)) (hr:r<B):OwnN w' B v x:=by
 refine ⟨h.1,?_⟩
 rcases h.2 with hn | ⟨g,cap,cur,rfl,hb,hgg,rest⟩
 ·exact .inl hn
 ·exact .inr ⟨g,cap,cur,rfl,hb,(k.block g (Array.getElem?_eq_some_iff.1 hgg).1 (fun e=>by cases e;omega)).trans hgg,rest⟩
theorem grown_keeps {w w1 w2:World} {row:Option Nat} (h:w.grownBy w1 row) (k:Keeps w1 w2):w.grownBy w2 row:=
 ⟨k.os.trans h.os,k.tape.trans h.tape,k.output.trans h.output,Nat.le_trans h.size k.size,fun i hi hr=>(k.block (Nat.lt_of_lt_of_le hi h.size)).trans (h.block i hi hr)⟩
theorem grown_pre0 {w w1 w2:World} {row:Option Nat} (h:Keeps w w1) (k:w1.grownBy w2 row):w.grownBy w2 row:=
 ⟨k.os.trans h.os,k.tape.trans h.tape,k.output.trans h.output,Nat.le_trans h.size k.size,fun i hi hr=>(k.block i (Nat.lt_of_lt_of_le hi h.size) hr).trans (h.block hi)⟩
def RetHit (w:World) (r:Nat) (s:ByteArray) (i:Nat) (e:Ending) (w':World):Prop:=
 e=.returned (.bool true)∧RdAt w' r s (i+1) false∧w.grownBy w' (some r)
def RetMiss (w:World) (r:Nat) (s:ByteArray) (i:Nat) (e:Ending) (w':World):Prop:=
 e=.returned (.bool false)∧RdAt w' r s i false∧Keeps w w'
theorem RdAt.moved {w:World} {r:Nat} {s:ByteArray} {i:Nat} (h:RdAt w r s i false) (hi:i<s.size):RdAt (w.setCell ⟨r,1,none⟩ (.int .i64 ((i:Int)+1))) r s (i+1) false:=by
 refine ⟨?_,?_,?_,?_,?_,hi,h.sz⟩
 ·exact (World.cell?_setCell_other (a:=⟨r,1,none⟩) (b:=⟨r,0,none⟩) (h:=by simp) ..).trans h.c0
 ·exact World.cell?_setCell_same (h:=h.c1) ..
 ·exact (World.cell?_setCell_other (a:=⟨r,1,none⟩) (b:=⟨r,2,none⟩) (h:=by simp) ..).trans h.c2
 ·rw [World.frozen?_setCell];exact h.f1
 ·rw [World.frozen?_setCell];exact h.f2
theorem l02Take_hit {w:World} {r:Nat} {s:ByteArray} {i:Nat} {b:UInt8} {l:List UInt8} {k:Int} (h:RdAt w r s i false) (hd:(bts s).drop i=b::l) (hk:k=(b.toNat:Int)):
  Calls Tryz.prog 237 #[.pointer (some ⟨r,0,none⟩),.int .u8 k] w (RetHit w r s i):=by
 subst hk;obtain ⟨hi,hb,_⟩:=bts_head hd
 have hm:=fun n=>(h.keeps ((Keeps.refl w).drewN n)).moved hi
 obtain ⟨c0,c1,c2,f1,f2,le,sz⟩:=h
 have hlt:decide ((i:Int)<s.size)=true:=by simp;omega
 have hge:decide ((i:Int)≥s.size)=false:=by simp;omega
 have hbb:s[i].toNat=b.toNat:=by rw [hb]
 clear hd;go_enter Tryz.func237,Tryz.ntmps237;go_wp2_with fail
 go_quiet (fail)
 go_wp2_with fail;go_ret;exact ⟨rfl,hm _,grown_pre0 ((Keeps.refl w).drewN _) (grown_set _ _ _)⟩
theorem l02Take_miss {w:World} {r:Nat} {s:ByteArray} {i:Nat} {l:List UInt8} {k:Int} (b:UInt8) (h:RdAt w r s i false) (hd:(bts s).drop i=l) (hne:l.head? ≠ some b) (hk:k=(b.toNat:Int)):
  Calls Tryz.prog 237 #[.pointer (some ⟨r,0,none⟩),.int .u8 k] w (RetMiss w r s i):=by
 subst hk
 have hm:=fun n=>h.keeps ((Keeps.refl w).drewN n)
 cases l with
 | nil=>
  have hi:=bts_end h.le hd;obtain ⟨c0,c1,c2,f1,f2,le,sz⟩:=h
  have hlt:decide ((i:Int)<s.size)=false:=by simp;omega
  have hge:decide ((i:Int)≥s.size)=true:=by simp;omega
  clear hd hne;go_enter Tryz.func237,Tryz.ntmps237;go_wp2_with fail
  go_quiet (fail)
  go_wp2_with fail;go_ret;exact ⟨rfl,hm _,(Keeps.refl w).drewN _⟩
 | cons c l=>
  obtain ⟨hi,hb,_⟩:=bts_head hd;obtain ⟨c0,c1,c2,f1,f2,le,sz⟩:=h
  have hlt:decide ((i:Int)<s.size)=true:=by simp;omega
  have hge:decide ((i:Int)≥s.size)=false:=by simp;omega
  have hb1:((c.toNat:Int)==(b.toNat:Int))=false:=by simp only [beq_eq_false_iff_ne,ne_eq];intro e;apply hne;simp [UInt8.toNat_inj.1 (Int.ofNat_inj.1 e)]
  have hb2:((c.toNat:Int) != (b.toNat:Int))=true:=by simp [bne,hb1]
  clear hd hne;go_enter Tryz.func237,Tryz.ntmps237;go_wp2_with fail
  go_quiet (fail)
  go_wp2_with fail;go_ret;exact ⟨rfl,hm _,(Keeps.refl w).drewN _⟩
theorem take_hit {w:World} {r:Nat} {s:ByteArray} {i:Nat} {b:UInt8} {l:List UInt8} {k:Int} (h:RdAt w r s i false) (hd:(bts s).drop i=b::l) (hk:k=(b.toNat:Int)):
  Calls Tryz.prog 213 #[.pointer (some ⟨r,0,none⟩),.int .u8 k] w (RetHit w r s i):=by
 subst hk;obtain ⟨hi,hb,_⟩:=bts_head hd
 have hm:=fun n=>(h.keeps ((Keeps.refl w).drewN n)).moved hi
 obtain ⟨c0,c1,c2,f1,f2,le,sz⟩:=h
 have hlt:decide ((i:Int)<s.size)=true:=by simp;omega
 have hge:decide ((i:Int)≥s.size)=false:=by simp;omega
 have hbb:s[i].toNat=b.toNat:=by rw [hb]
 clear hd;go_enter Tryz.func213,Tryz.ntmps213;go_wp2_with fail
 go_quiet (fail)
 go_wp2_with fail;go_ret;exact ⟨rfl,hm _,grown_pre0 ((Keeps.refl w).drewN _) (grown_set _ _ _)⟩
theorem take_miss {w:World} {r:Nat} {s:ByteArray} {i:Nat} {l:List UInt8} {k:Int} (b:UInt8) (h:RdAt w r s i false) (hd:(bts s).drop i=l) (hne:l.head? ≠ some b) (hk:k=(b.toNat:Int)):
  Calls Tryz.prog 213 #[.pointer (some ⟨r,0,none⟩),.int .u8 k] w (RetMiss w r s i):=by
 subst hk
 have hm:=fun n=>h.keeps ((Keeps.refl w).drewN n)
 cases l with
 | nil=>
  have hi:=bts_end h.le hd;obtain ⟨c0,c1,c2,f1,f2,le,sz⟩:=h
  have hlt:decide ((i:Int)<s.size)=false:=by simp;omega
  have hge:decide ((i:Int)≥s.size)=true:=by simp;omega
  clear hd hne;go_enter Tryz.func213,Tryz.ntmps213;go_wp2_with fail
  go_quiet (fail)
  go_wp2_with fail;go_ret;exact ⟨rfl,hm _,(Keeps.refl w).drewN _⟩
 | cons c l=>
  obtain ⟨hi,hb,_⟩:=bts_head hd;obtain ⟨c0,c1,c2,f1,f2,le,sz⟩:=h
  have hlt:decide ((i:Int)<s.size)=true:=by simp;omega
  have hge:decide ((i:Int)≥s.size)=false:=by simp;omega
  have hb1:((c.toNat:Int)==(b.toNat:Int))=false:=by simp only [beq_eq_false_iff_ne,ne_eq];intro e;apply hne;simp [UInt8.toNat_inj.1 (Int.ofNat_inj.1 e)]
  have hb2:((c.toNat:Int) != (b.toNat:Int))=true:=by simp [bne,hb1]
  clear hd hne;go_enter Tryz.func213,Tryz.ntmps213;go_wp2_with fail
  go_quiet (fail)
  go_wp2_with fail;go_ret;exact ⟨rfl,hm _,(Keeps.refl w).drewN _⟩
end
end Go.Proofs.YtbccmdfdclomiaaGreatDoor
