import Derived.Test.YtbccmdfdclomiaaGreatDoorHM1
/- own -/
namespace Go.Proofs.YtbccmdfdclomiaaGreatDoor
open Go.RowKit
structure Touch (w w':World) (S:Nat→Prop):Prop where
 os:w'.os=w.os
 tape:w'.tape=w.tape
 output:w'.output=w.output
 size:w.heap.size≤w'.heap.size
 block:∀ k,k<w.heap.size→¬S k→w'.heap[k]? = w.heap[k]?
theorem Touch.refl (w:World) (S:Nat→Prop):Touch w w S:=⟨rfl,rfl,rfl,Nat.le_refl _,fun _ _ _=>rfl⟩
theorem Touch.trans {a b c:World} {S:Nat→Prop} (h:Touch a b S) (k:Touch b c S):Touch a c S:=
 ⟨k.os.trans h.os,k.tape.trans h.tape,k.output.trans h.output,Nat.le_trans h.size k.size,fun i hi hs=>(k.block i (Nat.lt_of_lt_of_le hi h.size) hs).trans (h.block i hi hs)⟩
theorem Touch.mono {a b:World} {S S':Nat→Prop} (h:Touch a b S) (hs:∀ k,S k→S' k):Touch a b S':=
 ⟨h.os,h.tape,h.output,h.size,fun i hi hn=>h.block i hi (fun e=>hn (hs i e))⟩
theorem Touch.grown {a b:World} {row:Option Nat} (h:a.grownBy b row):Touch a b (fun k=>some k=row):=
 ⟨h.os,h.tape,h.output,h.size,fun i hi hn=>h.block i hi hn⟩
theorem Touch.of_keeps {a b:World} (h:Keeps a b) (S:Nat→Prop):Touch a b S:=
 ⟨h.os,h.tape,h.output,h.size,fun _ hi _=>h.block hi⟩
theorem Touch.cell {w w':World} {S:Nat→Prop} (h:Touch w w' S) {b:Nat} (hb:b<w.heap.size) (hs:¬S b):
  (∀ o,w'.cell? ⟨b,o,none⟩=w.cell? ⟨b,o,none⟩)∧(∀ o,w'.frozen? ⟨b,o,none⟩=w.frozen? ⟨b,o,none⟩):=
 ⟨fun o=>World.cell?_of_block (a:=⟨b,o,none⟩) (h.block b hb hs),fun o=>World.frozen?_of_block (a:=⟨b,o,none⟩) (h.block b hb hs)⟩
theorem Keeps.touch {a w w':World} {S:Nat→Prop} (h:Keeps a w) (k:Touch w w' S) (hS:∀ i,S i→a.heap.size≤i):Keeps a w':=
 ⟨k.os.trans h.os,k.tape.trans h.tape,k.output.trans h.output,Nat.le_trans h.size k.size,fun i hi=>(k.block i (Nat.lt_of_lt_of_le hi h.size) (fun e=>by have:=hS i e;omega)).trans (h.block hi)⟩
theorem own_touch {w w':World} {S:Nat→Prop} {base:Nat} {e:TypeId} {size:Nat} {v:Value} {n:Nat} {xs:List Value} (h:w.ownsRow base e size v n xs) (k:Touch w w' S) (hS:∀ i,v.ownBlock=some i→¬S i):w'.ownsRow base e size v n xs:=by
 refine ⟨h.1,?_⟩
 rcases h.2 with hn | ⟨g,cap,cur,rfl,hb,hgg,rest⟩
 ·exact .inl hn
 ·exact .inr ⟨g,cap,cur,rfl,hb,(k.block g (Array.getElem?_eq_some_iff.1 hgg).1 (hS g rfl)).trans hgg,rest⟩
def TyAt (w:World) (k:Nat) (T:TypeId):Prop:=∃ cs fr,w.heap[k]? = some (.cells cs T fr)
theorem TyAt.lt {w:World} {k:Nat} {T:TypeId} (h:TyAt w k T):k<w.heap.size:=by
 obtain ⟨cs,fr,e⟩:=h;exact (Array.getElem?_eq_some_iff.1 e).1
theorem TyAt.inj {w:World} {k:Nat} {T T':TypeId} (h:TyAt w k T) (h':TyAt w k T'):T=T':=by
 obtain ⟨cs,fr,e⟩:=h;obtain ⟨cs',fr',e'⟩:=h';rw [e] at e'
 cases e'
 rfl
theorem TyAt.keeps {w w':World} {k:Nat} {T:TypeId} (h:TyAt w k T) (kk:Keeps w w'):TyAt w' k T:=by
 have hl:=h.lt;obtain ⟨cs,fr,e⟩:=h;exact ⟨cs,fr,(kk.block hl).trans e⟩
theorem TyAt.alloc (w:World) (cs:Array Value) (T:TypeId):TyAt (w.alloc (.cells cs T)) w.heap.size T:=⟨cs,(0,0),by show (w.heap.push _)[w.heap.size]? = _;simp⟩
theorem TyAt.set {w:World} {k:Nat} {T:TypeId} (h:TyAt w k T) (a:Addr) (u:Value):TyAt (w.setCell a u) k T:=by
 obtain ⟨cs,fr,e⟩:=h
 by_cases hk:a.block=k
 ·subst hk
  refine ⟨if a.spot.isSome then cs else cs.setIfInBounds a.off u,fr,?_⟩;simp only [World.setCell,Array.getElem?_modify,e];rfl
 ·refine ⟨cs,fr,?_⟩
  simp only [World.setCell,Array.getElem?_modify];rw [if_neg hk];exact e
theorem TyAt.touch {w w':World} {S:Nat→Prop} {k:Nat} {T:TypeId} (h:TyAt w k T) (kk:Touch w w' S) (hk:¬S k):TyAt w' k T:=by
 have hl:=h.lt;obtain ⟨cs,fr,e⟩:=h;exact ⟨cs,fr,(kk.block k hl hk).trans e⟩
theorem TyAt.ownB {w:World} {B:Nat} {T:TypeId} {sz:Nat} {v:Value} {n:Nat} {xs:List Value} (h:w.ownsRow B T sz v n xs) {i:Nat} (hi:v.ownBlock=some i):TyAt w i T:=by
 rcases h.2 with ⟨rfl,_⟩ | ⟨g,cap,cur,rfl,_,hg,_⟩
 ·simp [Value.ownBlock] at hi
 ·have:g=i:=by simpa [Value.ownBlock] using hi
  subst this;exact ⟨cur,_,hg⟩
def Apart (vs:List Value):Prop:=∀ i j (hi:i<vs.length) (hj:j<vs.length),i≠j→∀ k,vs[i].ownBlock=some k→vs[j].ownBlock≠some k
def Off (v:Value) (vs:List Value):Prop:=∀ i (hi:i<vs.length) k,v.ownBlock=some k→vs[i].ownBlock≠some k
def blk (vs:List Value) (k:Nat):Prop:=∃ i,∃ h:i<vs.length,vs[i].ownBlock=some k
def RowsN (w:World) (B:Nat) (vs:List Value) (xs:List (List Nd)):Prop:=vs.length=xs.length∧∀ i (h1:i<vs.length) (h2:i<xs.length),OwnN w B vs[i] xs[i]
theorem OwnN.touch {w w':World} {S:Nat→Prop} {B:Nat} {v:Value} {x:List Nd} (h:OwnN w B v x) (k:Touch w w' S) (hS:∀ i,v.ownBlock=some i→¬S i):OwnN w' B v x:=own_touch h k hS
theorem RowsN.nil (w:World) (B:Nat):RowsN w B [] []:=⟨rfl,fun i h=>by simp at h⟩
theorem RowsN.cons {w:World} {B:Nat} {v:Value} {vs:List Value} {x:List Nd} {xs:List (List Nd)} (h:OwnN w B v x) (hs:RowsN w B vs xs):RowsN w B (v::vs) (x::xs):=
 ⟨by simp [hs.1],fun i h1 h2=>by
  cases i with
  | zero=>exact h
  | succ i=>exact hs.2 i (by simpa using h1) (by simpa using h2)⟩
theorem RowsN.snoc {w:World} {B:Nat} {v:Value} {vs:List Value} {x:List Nd} {xs:List (List Nd)} (h:OwnN w B v x) (hs:RowsN w B vs xs):RowsN w B (vs++[v]) (xs++[x]):=
 ⟨by simp [hs.1],fun i h1 h2=>by
  have hl:=hs.1
  by_cases hi:i<vs.length
  ·rw [List.getElem_append_left hi,List.getElem_append_left (by omega)];exact hs.2 i hi (by omega)
  ·simp at h1
   obtain rfl:i=vs.length:=by omega
   rw [List.getElem_append_right (Nat.le_refl _),List.getElem_append_right (by omega)]
   simpa [hl] using h⟩
theorem RowsN.keeps {w w':World} {B:Nat} {vs:List Value} {xs:List (List Nd)} (h:RowsN w B vs xs) (k:Keeps w w'):RowsN w' B vs xs:=⟨h.1,fun i h1 h2=>(h.2 i h1 h2).keeps k⟩
theorem RowsN.mono {w:World} {B B':Nat} {vs:List Value} {xs:List (List Nd)} (h:RowsN w B vs xs) (k:B'≤B):RowsN w B' vs xs:=⟨h.1,fun i h1 h2=>(h.2 i h1 h2).mono k⟩
theorem RowsN.touch {w w':World} {S:Nat→Prop} {B:Nat} {vs:List Value} {xs:List (List Nd)} (h:RowsN w B vs xs) (k:Touch w w' S) (hS:∀ i,blk vs i→¬S i):RowsN w' B vs xs:=
 ⟨h.1,fun i h1 h2=>(h.2 i h1 h2).touch k (fun j e=>hS j ⟨i,h1,e⟩)⟩
theorem RowsN.lt {w:World} {B:Nat} {vs:List Value} {xs:List (List Nd)} (h:RowsN w B vs xs) {k:Nat} (hk:blk vs k):B≤k∧k<w.heap.size:=by
 obtain ⟨i,hi,e⟩:=hk;exact (h.2 i hi (by have:=h.1;omega)).len k e
theorem Apart.nil:Apart []:=fun i j hi=>by simp at hi
theorem Apart.cons {v:Value} {vs:List Value} (h:Off v vs) (hs:Apart vs):Apart (v::vs):=fun i j hi hj hne k hk=>by
 cases i with
 | zero=>
  cases j with
  | zero=>exact absurd rfl hne
  | succ j=>exact h j (by simpa using hj) k hk
 | succ i=>
  cases j with
  | zero=>exact fun e=>h i (by simpa using hi) k e hk
  | succ j=>exact hs i j (by simpa using hi) (by simpa using hj) (fun e=>hne (by rw [e])) k hk
theorem Off.nil (v:Value):Off v []:=fun i hi=>by simp at hi
theorem Off.not_blk {v:Value} {vs:List Value} (h:Off v vs) {k:Nat} (hk:v.ownBlock=some k):¬blk vs k:=fun ⟨i,hi,e⟩=>h i hi k hk e
theorem Apart.snoc {v:Value} {vs:List Value} (h:∀ k,v.ownBlock=some k→¬blk vs k) (hs:Apart vs):Apart (vs++[v]):=fun i j hi hj hne k hk=>by
 simp at hi hj
 by_cases h1:i<vs.length
 ·rw [List.getElem_append_left h1] at hk
  by_cases h2:j<vs.length
  ·rw [List.getElem_append_left h2];exact hs i j h1 h2 hne k hk
  ·obtain rfl:j=vs.length:=by omega
   rw [List.getElem_append_right (Nat.le_refl _)];intro e;exact h k (by simpa using e) ⟨i,h1,hk⟩
 ·obtain rfl:i=vs.length:=by omega
  rw [List.getElem_append_right (Nat.le_refl _)] at hk
  have h2:j<vs.length:=by omega
  rw [List.getElem_append_left h2];intro e;exact h k (by simpa using hk) ⟨j,h2,e⟩
def tot:List (List Nd)→Nat
 | []=>0
 | x::xs=>x.length+tot xs
theorem tot_append (xs ys:List (List Nd)):tot (xs++ys)=tot xs+tot ys:=by
 induction xs with
 | nil=>simp [tot]
 | cons x xs ih=>simp [tot,ih];omega
theorem tot_take (xs:List (List Nd)) (i:Nat) (h:i<xs.length):tot (xs.take (i+1))=tot (xs.take i)+xs[i].length:=by
 rw [List.take_succ_eq_append_getElem h,tot_append];simp [tot]
theorem tot_le (xs:List (List Nd)) (i:Nat):tot (xs.take i)≤tot xs:=by
 have:=tot_append (xs.take i) (xs.drop i);rw [List.take_append_drop] at this;omega
theorem tot_mem (xs:List (List Nd)) (i:Nat) (h:i<xs.length):tot (xs.take i)+xs[i].length≤tot xs:=by
 rw [←tot_take xs i h];exact tot_le xs _
def OwnL (w:World) (B:Nat) (v:Value) (xs:List (List Nd)):Prop:=∃ vs,w.ownsRow B 34 1 v xs.length vs∧RowsN w B vs xs∧Apart vs∧Off v vs
theorem rows_ndsL {w:World} {B:Nat} {p:Option Addr} {cap:Nat} {vs:List Value} {xs:List (List Nd)} (hat:At w p vs) (hr:RowsN w B vs xs) (h1:xs.length≤cap) (h2:cap≤maxLen) (h3:xs.length≤2147483648) (h4:tot xs≤2147483648):NdsL w (.slice p xs.length cap) xs:=by
 refine ⟨p,cap,rfl,h1,h2,h3,fun i hi=>?_⟩;have hl:=hr.1;obtain ⟨b,off,hp,hc⟩:=hat i (by omega);refine ⟨b,off,fun _=>vs[i],hp,fun c hc'=>?_,(hr.2 i (by omega) hi).nds (by have:=tot_mem xs i hi;omega)⟩
 obtain rfl:c=0:=by omega
 simpa using hc
theorem OwnL.ndsL {w:World} {B:Nat} {v:Value} {xs:List (List Nd)} (h:OwnL w B v xs) (h3:xs.length≤2147483648) (h4:tot xs≤2147483648):NdsL w v xs:=by
 obtain ⟨vs,ho,hr,_,_⟩:=h;obtain ⟨p,cap,rfl,h1,h2,hat⟩:=At.of_own ho;exact rows_ndsL hat hr h1 h2 h3 h4
theorem OwnL.keeps {w w':World} {B:Nat} {v:Value} {xs:List (List Nd)} (h:OwnL w B v xs) (k:Keeps w w'):OwnL w' B v xs:=by
 obtain ⟨vs,ho,hr,ha,hf⟩:=h;exact ⟨vs,own_keeps ho k,hr.keeps k,ha,hf⟩
theorem OwnL.mono {w:World} {B B':Nat} {v:Value} {xs:List (List Nd)} (h:OwnL w B v xs) (k:B'≤B):OwnL w B' v xs:=by
 obtain ⟨vs,ho,hr,ha,hf⟩:=h;exact ⟨vs,own_mono ho k,hr.mono k,ha,hf⟩
theorem type_ne {w:World} {B B':Nat} {T1 T2:TypeId} {s s' n m:Nat} {v u:Value} {xs ys:List Value} (h1:w.ownsRow B T1 s v n xs) (h2:w.ownsRow B' T2 s' u m ys) (hne:T1≠T2) {k:Nat} (hv:v.ownBlock=some k):u.ownBlock≠some k:=by
 intro hu
 rcases h1.2 with ⟨rfl,_⟩ | ⟨g,cap,cur,rfl,_,hg,_⟩
 ·simp [Value.ownBlock] at hv
 rcases h2.2 with ⟨rfl,_⟩ | ⟨g',cap',cur',rfl,_,hg',_⟩
 ·simp [Value.ownBlock] at hu
 simp [Value.ownBlock] at hv hu;subst hv;subst hu;rw [hg] at hg';injection hg' with e;injection e with _ e2 _;exact hne e2
theorem At.lit1 (w:World) (u:Value) (E:TypeId):At (w.alloc (.cells #[u] E)) (some ⟨w.heap.size,0,none⟩) [u]:=by
 intro j hj
 simp at hj
 subst hj;exact ⟨_,_,rfl,by simp⟩
end Go.Proofs.YtbccmdfdclomiaaGreatDoor
