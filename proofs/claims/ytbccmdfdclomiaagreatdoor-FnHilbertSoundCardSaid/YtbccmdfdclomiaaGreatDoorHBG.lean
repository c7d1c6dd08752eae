import Derived.Test.YtbccmdfdclomiaaGreatDoorHQB
/- own -/
namespace Go.Proofs.YtbccmdfdclomiaaGreatDoor
section
open Go.RowKit
theorem OwnI.shape0 {w:World} {B:Nat} {v:Value} {a:List Int} (h:OwnI w B v a):∃ p n c,v=.slice p n c:=by obtain ⟨p,c,e,_⟩:=At.of_own h;exact ⟨p,_,c,e⟩
theorem OwnI.touch {w w':World} {S:Nat→Prop} {B:Nat} {v:Value} {a:List Int} (h:OwnI w B v a) (k:Touch w w' S) (hS:∀ i,v.ownBlock=some i→¬S i):OwnI w' B v a:=own_touch h k hS
def RowsI (w:World) (B:Nat) (vs:List Value) (xs:List (List Nat)):Prop:=vs.length=xs.length∧∀ i (h1:i<vs.length) (h2:i<xs.length),OwnI w B vs[i] (zs xs[i])
theorem RowsI.nil (w:World) (B:Nat):RowsI w B [] []:=⟨rfl,fun i h=>by simp at h⟩
theorem RowsI.snoc {w:World} {B:Nat} {v:Value} {vs:List Value} {x:List Nat} {xs:List (List Nat)} (h:OwnI w B v (zs x)) (hs:RowsI w B vs xs):RowsI w B (vs++[v]) (xs++[x]):=
 ⟨by simp [hs.1],fun i h1 h2=>by
  have hl:=hs.1
  by_cases hi:i<vs.length
  ·rw [List.getElem_append_left hi,List.getElem_append_left (by omega)];exact hs.2 i hi (by omega)
  ·simp at h1
   obtain rfl:i=vs.length:=by omega
   rw [List.getElem_append_right (Nat.le_refl _),List.getElem_append_right (by omega)]
   simpa [hl] using h⟩
theorem RowsI.keeps {w w':World} {B:Nat} {vs:List Value} {xs:List (List Nat)} (h:RowsI w B vs xs) (k:Keeps w w'):RowsI w' B vs xs:=⟨h.1,fun i h1 h2=>(h.2 i h1 h2).keeps k⟩
def blkI (vs:List Value) (k:Nat):Prop:=∃ i,∃ h:i<vs.length,vs[i].ownBlock=some k
theorem RowsI.touch {w w':World} {S:Nat→Prop} {B:Nat} {vs:List Value} {xs:List (List Nat)} (h:RowsI w B vs xs) (k:Touch w w' S) (hS:∀ i,blkI vs i→¬S i):RowsI w' B vs xs:=
 ⟨h.1,fun i h1 h2=>(h.2 i h1 h2).touch k (fun j e=>hS j ⟨i,h1,e⟩)⟩
theorem RowsI.off {w:World} {B B':Nat} {T:TypeId} {s n:Nat} {v:Value} {hs vs:List Value} {xs:List (List Nat)} (h:RowsI w B vs xs) (ho:w.ownsRow B' T s v n hs) (hT:T≠2) {k:Nat} (hk:v.ownBlock=some k):¬blkI vs k:=fun ⟨i,hi,e⟩=>
 type_ne ho (h.2 i hi (by have:=h.1;omega)) hT hk e
theorem infoLI:(Tryz.prog.info? 28).map (fun i=>(i.zero,i.size,i.bytes))=some (some (.slice none 0 0),1,24):=by kernel_rfl
theorem tyneLI:(28:TypeId)≠2:=by decide
def OwnLI (w:World) (B:Nat) (v:Value) (xs:List (List Nat)):Prop:=∃ vs,w.ownsRow B 28 1 v xs.length vs∧RowsI w B vs xs
theorem OwnLI.nil (w:World) (B:Nat):OwnLI w B (.slice none 0 0) []:=⟨[],World.ownsRow_nil w B _ 1,RowsI.nil _ _⟩
theorem OwnLI.empty (w:World):OwnLI (w.alloc (.cells #[] 28)) w.heap.size (.slice (some ⟨w.heap.size,0,none⟩) 0 0) []:=
 ⟨[],World.ownsRow_made w #[] 0 (Nat.le_refl _) (by simp [maxLen]) (by simp),RowsI.nil _ _⟩
theorem OwnLI.keeps {w w':World} {B:Nat} {v:Value} {xs:List (List Nat)} (h:OwnLI w B v xs) (k:Keeps w w'):OwnLI w' B v xs:=by
 obtain ⟨vs,ho,hr⟩:=h;exact ⟨vs,own_keeps ho k,hr.keeps k⟩
theorem OwnLI.shape {w:World} {B:Nat} {v:Value} {xs:List (List Nat)} (h:OwnLI w B v xs):∃ p cap,v=.slice p xs.length cap∧xs.length≤cap∧cap≤maxLen:=by
 obtain ⟨vs,ho,_⟩:=h;obtain ⟨p,cap,h1,h2,h3,_⟩:=At.of_own ho;exact ⟨p,cap,h1,h2,h3⟩
theorem OwnLI.get {w:World} {B:Nat} {p:Option Addr} {n cap:Nat} {xs:List (List Nat)} (h:OwnLI w B (.slice p n cap) xs) (i:Nat) (hi:i<xs.length):
  ∃ b off u,p=some ⟨b,off,none⟩∧w.cell? ⟨b,off+i,none⟩=some u∧OwnI w B u (zs xs[i]):=by
 obtain ⟨vs,ho,hr⟩:=h;obtain ⟨p',cap',e,_,_,hat⟩:=At.of_own ho
 cases e
 obtain ⟨b,off,hp,hc⟩:=hat i (by rw [hr.1];exact hi);exact ⟨b,off,_,hp,hc,hr.2 i (by rw [hr.1];exact hi) hi⟩
theorem OwnI.one {w:World} {B:Nat} {u:Value} {x:List Int} (h:OwnI w B u x):u.oneCell'=true:=by
 obtain ⟨p,c,e,_⟩:=At.of_own h;rw [e];rfl
theorem appLIK {w:World} {o:Oper} {a:Act} {K:Act→World→Prop} {Q:Exit→Act→World→Prop} (s x:Operand)
  (ho:o.op=.call { callee:=.builtin .append,args:=#[s,x],argTypes:=#[58,58] }) (base:Nat) (v:Value) (xs:List (List Nat)) (hs:a.eval s=v)
  (w0:World) (hown:OwnLI w0 base v xs) (k:Keeps w0 w) (u:Value) (y:List Nat) (hu:OwnI w base u (zs y)) (hbase:base≤w.heap.size)
  (p:Option Addr) (c:Nat) (hx:a.eval x=.slice p 1 c) (hat:At w p [u]) (hlen:xs.length≤2147483647)
  (h:∀ v' w',OwnLI w' base v' (xs++[y])→w.grownBy w' v.ownBlock→(∀ k,v.ownBlock=some k→base≤k)→K (a.put o.dst v') w'):o.wp Tryz.prog a w K Q:=by
 obtain ⟨i0,hi,hz0,hz1,hz2⟩:=info_parts infoLI;obtain ⟨vs,hrow,hr⟩:=hown
 have hone:∀ z∈[u],z.oneCell'=true:=by
  intro z hz
  simp at hz;subst hz
  exact hu.one
 have hrow':=own_keeps hrow k;have hr':=hr.keeps k;refine wp_append_at s x _ ho _ i0 _ 1 24 Tryz.underlying58 hi hz0 hz1 hz2 rfl (by decide) base v _ _ hs hrow' p 1 c [u] hx (by simp) hat hone (by unfold maxLen;omega) (by omega) hbase ?_;intro v' w' h1 h2 h3;refine h v' w' ⟨vs++[u],by rw [List.length_append];exact h1,RowsI.snoc ?_ ?_⟩ h2 h3
 ·exact hu.touch (Touch.grown h2) (fun i hi e=>type_ne hrow' hu tyneLI e.symm hi)
 ·exact hr'.touch (Touch.grown h2) (fun i hb e=>hr'.off hrow' tyneLI e.symm hb)
theorem appLI {w:World} {ops:Array Oper} {rest:List Oper} {o:Oper} {a:Act} {Q:Exit→Act→World→Prop} (hgd:o.guard=none) (s x:Operand)
  (ho:o.op=.call { callee:=.builtin .append,args:=#[s,x],argTypes:=#[58,58] }) (base:Nat) (v:Value) (xs:List (List Nat)) (hs:a.eval s=v)
  (w0:World) (hown:OwnLI w0 base v xs) (k:Keeps w0 w) (u:Value) (y:List Nat) (hu:OwnI w base u (zs y)) (hbase:base≤w.heap.size)
  (p:Option Addr) (c:Nat) (hx:a.eval x=.slice p 1 c) (hat:At w p [u]) (hlen:xs.length≤2147483647)
  (h:∀ v' w',OwnLI w' base v' (xs++[y])→w.grownBy w' v.ownBlock→(∀ k,v.ownBlock=some k→base≤k)→wpList Tryz.prog ops Q rest (a.put o.dst v') w'):wpList Tryz.prog ops Q (o::rest) a w:=
 wpList_plain hgd fun _ hK=>appLIK s x ho base v xs hs w0 hown k u y hu hbase p c hx hat hlen fun v' w' h1 h2 h3=>hK _ _ (h v' w' h1 h2 h3)
theorem stepLI {w:World} {ops:Array Oper} {o:Oper} {a:Act} {K:Act→World→Prop} {Q:Exit→Act→World→Prop} {E:Prop} (hgd:o.guard=none) (s x:Operand)
  (ho:o.op=.call { callee:=.builtin .append,args:=#[s,x],argTypes:=#[58,58] }) (base:Nat) (v:Value) (xs:List (List Nat)) (hs:a.eval s=v)
  (w0:World) (hown:OwnLI w0 base v xs) (k:Keeps w0 w) (u:Value) (y:List Nat) (hu:OwnI w base u (zs y)) (hbase:base≤w.heap.size)
  (p:Option Addr) (c:Nat) (hx:a.eval x=.slice p 1 c) (hat:At w p [u]) (hlen:xs.length≤2147483647)
  (h:∀ v' w',OwnLI w' base v' (xs++[y])→w.grownBy w' v.ownBlock→(∀ k,v.ownBlock=some k→base≤k)→K (a.put o.dst v') w'):if Region.wanted o (yielded ops a.tmps)=true then Oper.wp Tryz.prog o a w K Q else E:=by
 rw [if_pos (by simp [Region.wanted,hgd])];exact appLIK s x ho base v xs hs w0 hown k u y hu hbase p c hx hat hlen h
def RetLI (w:World) (xs:List (List Nat)) (e:Ending) (w':World):Prop:=∃ v,e=.returned v∧OwnLI w' w.heap.size v xs∧Keeps w w'
end
section
open Go.RowKit
theorem Touch.push {a b c:World} {S:Nat→Prop} {row:Option Nat} (h:Touch a b S) (g:b.grownBy c row) (hr:∀ k,row=some k→a.heap.size≤k∨S k):Touch a c S:=
 ⟨g.os.trans h.os,g.tape.trans h.tape,g.output.trans h.output,Nat.le_trans h.size g.size,fun i hi hs=>
  (g.block i (Nat.lt_of_lt_of_le hi h.size) (fun e=>by rcases hr i e.symm with h1 | h1;omega;exact hs h1)).trans (h.block i hi hs)⟩
def BoxG (w:World) (r:Nat) (T:TypeId) (cs:List Value):Prop:=w.ownsRow r T cs.length (.slice (some ⟨r,0,none⟩) 1 1) 1 cs
section
variable {w w':World} {r:Nat} {T:TypeId} {cs:List Value}
theorem BoxG.cell (h:BoxG w r T cs) (i:Nat) (hi:i<cs.length):w.cell? ⟨r,i,none⟩=some cs[i]:=by
 rw [World.ownsRow.cellAt h i (by omega)];exact List.getElem?_eq_getElem hi
theorem BoxG.froz (h:BoxG w r T cs) (i:Nat):w.frozen? ⟨r,i,none⟩=false:=World.ownsRow.frozenAt h i
theorem BoxG.lt (h:BoxG w r T cs):r<w.heap.size:=(World.ownsRow.lt h r rfl).2
theorem BoxG.set (h:BoxG w r T cs) (i:Nat) (x:Value):BoxG (w.setCell ⟨r,i,none⟩ x) r T (cs.set i x):=by
 have:=(World.ownsRow.stored h i x).1;unfold BoxG;rw [List.length_set];exact this
theorem BoxG.grown (h:BoxG w r T cs) (i:Nat) (x:Value):w.grownBy (w.setCell ⟨r,i,none⟩ x) (some r):=(World.ownsRow.stored h i x).2
theorem BoxG.keeps (h:BoxG w r T cs) (k:Keeps w w'):BoxG w' r T cs:=own_keeps h k
theorem BoxG.other {B s m:Nat} {T':TypeId} {u:Value} {ds:List Value} (h:BoxG w r T cs) (ho:w.ownsRow B T' s u m ds) (t:T'≠T) (k:w.grownBy w' u.ownBlock):BoxG w' r T cs:=
 own_touch h (Touch.grown k) (fun _i e hi=>type_ne ho h t hi.symm e)
theorem BoxG.made (w:World) (T:TypeId) (cs:List Value) (_h0:0<cs.length) (_h1:cs.length≤1000):BoxG (w.alloc (.cells cs.toArray T)) w.heap.size T cs:=by
 have h:=World.ownsRow_lit (base:=w.heap.size) (e:=T) (size:=cs.length) w cs.toArray 1 (Nat.le_refl _) (by unfold maxLen;omega) (by simp)
 simpa [BoxG] using h
theorem own_boxed {B s m:Nat} {T':TypeId} {u:Value} {ds:List Value} {i:Nat} {x:Value} (ho:w.ownsRow B T' s u m ds) (h:BoxG w r T cs) (t:T≠T'):(w.setCell ⟨r,i,none⟩ x).ownsRow B T' s u m ds:=
 own_touch ho (Touch.grown (h.grown i x)) (fun j e hi=>by
  have:j=r:=by simpa using hi
  subst this
  exact type_ne h ho t rfl e)
end
end
end Go.Proofs.YtbccmdfdclomiaaGreatDoor
