import Derived.Test.YtbccmdfdclomiaaGreatDoorHNQ
/- own -/
namespace Go.Proofs.YtbccmdfdclomiaaGreatDoor
set_option maxHeartbeats 1000000
section
open Go.RowKit
def names8:List ByteArray:=[lgS 0,lgS 1,lgS 2,lgS 3,lgS 4,lgS 5,lgS 6,lgS 7]
open Classical in
noncomputable def isLg (s:ByteArray):Bool:=decide (s∈names8)
theorem isLg_of {s:ByteArray} (h:isLg s=true):∃ L,L<8∧s=lgS L:=by
 unfold isLg at h;have h:=@of_decide_eq_true _ (Classical.propDecidable _) h;simp only [names8,List.mem_cons,List.not_mem_nil,or_false] at h
 rcases h with h | h | h | h | h | h | h | h
 ·exact ⟨0,by omega,h⟩
 ·exact ⟨1,by omega,h⟩
 ·exact ⟨2,by omega,h⟩
 ·exact ⟨3,by omega,h⟩
 ·exact ⟨4,by omega,h⟩
 ·exact ⟨5,by omega,h⟩
 ·exact ⟨6,by omega,h⟩
 ·exact ⟨7,by omega,h⟩
theorem indexT_any (ss:List ByteArray) (x:ByteArray) (v:Value) (w:World) (hv:Strs w v ss):
  Calls Tryz.prog 201 #[v,.string x] w fun e w'=>e=.returned (.int .i64 (idxOf (fun y=>x.toList==y.toList) ss 0))∧w=w':=by
 have hv0:=hv;obtain ⟨p,cap,rfl,hle,hmx,hlen⟩:=hv.shape;unfold maxLen at hmx;have HV:=hid hv0;clear hv hv0;have HD:=hid (fun k (h:k<ss.length)=>idxOf_drop (fun y:ByteArray=>x.toList==y.toList) ss k h);have HE:=hid (idxOf_end (fun y:ByteArray=>x.toList==y.toList) ss ss.length (Nat.le_refl _));generalize hpr:(fun y:ByteArray=>x.toList==y.toList)=pr at*;have HPR:Hid (∀ y,(x.toList==y.toList)=pr y):=hid (fun y=>by rw [←hpr]);clear hpr;go_enter Tryz.func201,Tryz.ntmps201;go_wp2_with fail
 go_loopw [4,8] (fun o i' wr=>∃ k:Nat,k≤ss.length∧i'=.int .i64 k∧o=.int .i64 0∧idxOf pr ss 0=idxOf pr (ss.drop k) k∧w=wr) (fun _ i' _=>ss.length-(intOf i').toNat)
 case atStart=>exact ⟨0,by omega,rfl,rfl,by simp,rfl⟩
 case round=>
  obtain ⟨k,hk,rfl,rfl,hs,rfl⟩:=hrel;have Hs:=hid hs;clear hs
  by_cases hlt:k<ss.length
  ·have hlt':(k:Int)<ss.length:=by omega
   obtain ⟨b1,o1,rfl,h1⟩:=HV.out.get k hlt;have HDk:=hid (HD.out k hlt);have HQ:=hid (HPR.out ss[k]);generalize ss[k]=y at*
   cases he:pr y
   ·have he2:(x.toList==y.toList)=false:=by rw [HQ.out,he]
    have HN:Hid (idxOf pr (ss.drop k) k=idxOf pr (ss.drop (k+1)) (k+1)):=hid (by have:=HDk.out;rw [he2] at this;exact this);clear he;go_wp2_with fail;go_roundw
    case rel=>exact ⟨k+1,by omega,by go_num,rfl,by rw [Hs.out,HN.out],by trivial⟩
    case measure=>simp [intOf];omega
   ·have he2:(x.toList==y.toList)=true:=by rw [HQ.out,he]
    have HN:Hid (idxOf pr (ss.drop k) k=(k:Int)):=hid (by have:=HDk.out;rw [he2] at this;exact this);clear he;go_wp2_with fail;go_ret;exact ⟨ret_int (by rw [Hs.out,HN.out]),rfl⟩
  ·obtain rfl:k=ss.length:=by omega
   have hlt':¬((ss.length:Nat):Int)<ss.length:=by omega
   go_wp2;go_ret;exact ⟨ret_int (by rw [Hs.out,HE.out]),rfl⟩
open Classical in
theorem containsT_any (ss:List ByteArray) (x:ByteArray) (v:Value) (w:World) (hv:Strs w v ss):
  Calls Tryz.prog 166 #[v,.string x] w fun e w'=>e=.returned (.bool (decide (x∈ss)))∧w=w':=by
 have HI:=hid (indexT_any ss x v w hv)
 have hd:decide (x∈ss)=decide (idxOf (fun y:ByteArray=>x.toList==y.toList) ss 0≥0):=by
  rw [idxOf_any,Bool.eq_iff_iff,decide_eq_true_eq,List.any_eq_true];constructor
  ·intro h;exact ⟨x,h,by simp⟩
  ·rintro ⟨y,hy,e⟩
   rw [beq_bts,decide_eq_true_eq] at e;rw [bts_inj e];exact hy
 rw [hd];generalize idxOf (fun y:ByteArray=>x.toList==y.toList) ss 0=j at*;clear hv hd;go_enter Tryz.func166,Tryz.ntmps166;go_wp2_with fail;refine HI.out.mono ?_;rintro e w2 ⟨rfl,rfl⟩;go_wp2_with fail;go_ret;exact ⟨ret_bool rfl,rfl⟩
theorem searchLogics_any (w:World):Calls Tryz.prog 167 #[] w fun e w'=>∃ v,e=.returned v∧OwnS w' w.heap.size v names8∧Keeps w w':=by
 have HO:Hid (OwnS (w.alloc (.cells #[.string ⟨#[75]⟩,.string ⟨#[68]⟩,.string ⟨#[84]⟩,.string ⟨#[75,52]⟩,.string ⟨#[83,52]⟩,.string ⟨#[71,76]⟩,.string ⟨#[83,53]⟩,.string ⟨#[75,66]⟩] 9)) w.heap.size (.slice (some ⟨w.heap.size,0,none⟩) 8 8) names8):=hid (by
  have h:=World.ownsRow_lit (base:=w.heap.size) (e:=9) (size:=1) w #[.string ⟨#[75]⟩,.string ⟨#[68]⟩,.string ⟨#[84]⟩,.string ⟨#[75,52]⟩,.string ⟨#[83,52]⟩,.string ⟨#[71,76]⟩,.string ⟨#[83,53]⟩,.string ⟨#[75,66]⟩] 8 (Nat.le_refl _) (by simp [maxLen]) (by simp)
  exact h)
 go_enter Tryz.func167,Tryz.ntmps167;go_wp2;go_ret;exact ⟨_,rfl,HO.out,(Keeps.refl w).alloc _⟩
theorem isSearchLogic_any (s:ByteArray) (w:World):Calls Tryz.prog 131 #[.string s] w fun e w'=>e=.returned (.bool (isLg s))∧Keeps w w':=by
 have HS:=hid (searchLogics_any w);have HC:=hid (fun v wz (h:Strs wz v names8)=>containsT_any names8 s v wz h);have HL:Hid (isLg s=@decide (s∈names8) (Classical.propDecidable _)):=hid (by unfold isLg;rfl);go_enter Tryz.func131,Tryz.ntmps131;go_wp2_with fail;refine HS.out.mono ?_;rintro e w2 ⟨v2,rfl,hv2,k2⟩;have HCC:=hid (HC.out v2 w2 (hv2.strs (by simp [names8])));go_wp2_with fail;refine HCC.out.mono ?_;rintro e w3 ⟨rfl,rfl⟩;go_wp2_with fail;go_ret;exact ⟨ret_bool (by rw [HL.out]),k2⟩
structure NwR (w:World) (r L:Nat) (E:List Fm) (N:Nat) (R:List Bool) (ss:List ByteArray):Prop where
 ty:TyA w r L N (nees E N) (liveL L E N)
 c4:∃ v,w.cell? ⟨r,4,none⟩=some v∧Bools w v R
 c1:∃ v,w.cell? ⟨r,1,none⟩=some v∧ElL w v ss (E.map Fm.enc)
def refL (E A B:List Fm) (N:Nat):List Bool:=(List.range N).map (refB E A B)
theorem newTypes1_any (E:List Fm) (ss:List ByteArray) (h8:E.length≤8) (m:Nat) (hm:m<256) (r gp gt:Nat) (pv v:Value) (t:Fm) (w:World) (hs:∀ x∈subs t,isEl x=true→x∈E) (hv:Nds w v t.enc)
  (c1:w.cell? ⟨r,1,none⟩=some pv) (hp:ElL w pv ss (E.map Fm.enc)) (cp:w.cell? ⟨gp,0,none⟩=some (.pointer (some ⟨r,0,none⟩))) (ct:w.cell? ⟨gt,0,none⟩=some (.int .i64 m)):
  Calls Tryz.prog 174 #[v,.pointer (some ⟨gp,0,none⟩),.pointer (some ⟨gt,0,none⟩)] w fun e w'=>e=.returned (.bool (!valB E m t))∧Keeps w w':=by
 have HV:=hid (valueIn_any E ss h8 m hm r pv t v w hs hv c1 hp);obtain ⟨p,n,c,rfl⟩:=hv.shape;clear hs hv hp c1;generalize valB E m t=b at*;go_enter Tryz.func174,Tryz.ntmps174;go_wp2_with fail;refine HV.out.mono ?_;rintro e w2 ⟨rfl,k2⟩;go_wp2_with fail;go_ret;exact ⟨rfl,k2⟩
theorem newTypes2_any (E:List Fm) (ss:List ByteArray) (h8:E.length≤8) (m:Nat) (hm:m<256) (r gp gt:Nat) (pv v:Value) (t:Fm) (w:World) (hs:∀ x∈subs t,isEl x=true→x∈E) (hv:Nds w v t.enc)
  (c1:w.cell? ⟨r,1,none⟩=some pv) (hp:ElL w pv ss (E.map Fm.enc)) (cp:w.cell? ⟨gp,0,none⟩=some (.pointer (some ⟨r,0,none⟩))) (ct:w.cell? ⟨gt,0,none⟩=some (.int .i64 m)):
  Calls Tryz.prog 175 #[v,.pointer (some ⟨gp,0,none⟩),.pointer (some ⟨gt,0,none⟩)] w fun e w'=>e=.returned (.bool (valB E m t))∧Keeps w w':=by
 have HV:=hid (valueIn_any E ss h8 m hm r pv t v w hs hv c1 hp);obtain ⟨p,n,c,rfl⟩:=hv.shape;clear hs hv hp c1;generalize valB E m t=b at*;go_enter Tryz.func175,Tryz.ntmps175;go_wp2_with fail;refine HV.out.mono ?_;rintro e w2 ⟨rfl,k2⟩;go_wp2_with fail;go_ret;exact ⟨rfl,k2⟩
theorem enters_newTypes1:Enters 174:=fun _ _=>by kernel_rfl
theorem enters_newTypes2:Enters 175:=fun _ _=>by kernel_rfl
noncomputable def decE (x:List Nd):Fm:=@dite _ (∃ t:Fm,t.enc=x) (Classical.propDecidable _) (fun h=>Classical.choose h) (fun _=>.fls)
theorem decE_enc (t:Fm):decE t.enc=t:=by
 have h:∃ u:Fm,u.enc=t.enc:=⟨t,rfl⟩
 unfold decE;rw [dif_pos h];exact enc_inj (Classical.choose_spec h)
theorem any_dec (A:List Fm) (p:Fm→Bool):(A.map Fm.enc).any (fun x=>p (decE x))=A.any p:=by
 rw [List.any_map]
 exact any_same fun t _=>by simp [decE_enc]
theorem newContains1 (E A:List Fm) (ss:List ByteArray) (h8:E.length≤8) (m:Nat) (hm:m<256) (r gp gt:Nat) (pv v:Value) (w:World) (hs:∀ t∈A,∀ x∈subs t,isEl x=true→x∈E) (hv:NdsL w v (A.map Fm.enc))
  (c1:w.cell? ⟨r,1,none⟩=some pv) (hp:ElL w pv ss (E.map Fm.enc)) (cp:w.cell? ⟨gp,0,none⟩=some (.pointer (some ⟨r,0,none⟩))) (ct:w.cell? ⟨gt,0,none⟩=some (.int .i64 m)):
  Calls Tryz.prog 114 #[v,.func (.func 174) #[] #[.pointer (some ⟨gp,0,none⟩),.pointer (some ⟨gt,0,none⟩)]] w fun e w'=>e=.returned (.bool (A.any fun t=>!valB E m t))∧Keeps w w':=by
 rw [←any_dec A (fun t=>!valB E m t)];refine containsFuncL (fun x=>!valB E m (decE x)) _ _ _ v w hv enters_newTypes1 (fun x u w1 hx k1 hu=>?_);obtain ⟨t,ht,rfl⟩:=List.mem_map.1 hx;rw [decE_enc];exact newTypes1_any E ss h8 m hm r gp gt pv u t w1 (hs t ht) hu (k1.cell c1) (hp.keeps k1) (k1.cell cp) (k1.cell ct)
theorem newContains2 (E A:List Fm) (ss:List ByteArray) (h8:E.length≤8) (m:Nat) (hm:m<256) (r gp gt:Nat) (pv v:Value) (w:World) (hs:∀ t∈A,∀ x∈subs t,isEl x=true→x∈E) (hv:NdsL w v (A.map Fm.enc))
  (c1:w.cell? ⟨r,1,none⟩=some pv) (hp:ElL w pv ss (E.map Fm.enc)) (cp:w.cell? ⟨gp,0,none⟩=some (.pointer (some ⟨r,0,none⟩))) (ct:w.cell? ⟨gt,0,none⟩=some (.int .i64 m)):
  Calls Tryz.prog 114 #[v,.func (.func 175) #[] #[.pointer (some ⟨gp,0,none⟩),.pointer (some ⟨gt,0,none⟩)]] w fun e w'=>e=.returned (.bool (A.any fun t=>valB E m t))∧Keeps w w':=by
 rw [←any_dec A (fun t=>valB E m t)];refine containsFuncL (fun x=>valB E m (decE x)) _ _ _ v w hv enters_newTypes2 (fun x u w1 hx k1 hu=>?_);obtain ⟨t,ht,rfl⟩:=List.mem_map.1 hx;rw [decE_enc];exact newTypes2_any E ss h8 m hm r gp gt pv u t w1 (hs t ht) hu (k1.cell c1) (hp.keeps k1) (k1.cell cp) (k1.cell ct)
theorem Touch.keeps {a b c:World} {S:Nat→Prop} (h:Touch a b S) (k:Keeps b c):Touch a c S:=h.trans (Touch.of_keeps k _)
theorem Touch.cellOf {a b:World} {S:Nat→Prop} (h:Touch a b S) {g o:Nat} {v:Value} (hs:¬S g) (hc:a.cell? ⟨g,o,none⟩=some v):b.cell? ⟨g,o,none⟩=some v:=
 ((h.cell (World.block_lt_of_cell? a _ hc) hs).1 o).trans hc
def neT (E:List Fm) (N i:Nat):List Nee:=((List.range i).filter fun j=>isMo (E.getD j .fls)).map (nee E N)
theorem neT_yes {E:List Fm} {N i:Nat} (h:isMo (E.getD i .fls)=true):neT E N (i+1)=neT E N i++[nee E N i]:=by
 unfold neT;rw [range_take (fun j=>isMo (E.getD j .fls)) i,if_pos h,List.map_append];rfl
theorem neT_no {E:List Fm} {N i:Nat} (h:isMo (E.getD i .fls)=false):neT E N (i+1)=neT E N i:=by
 unfold neT;rw [range_take (fun j=>isMo (E.getD j .fls)) i,if_neg (by rw [h];simp),List.append_nil]
theorem neT_len (E:List Fm) (N i:Nat):(neT E N i).length≤i:=by
 unfold neT;rw [List.length_map];exact Nat.le_trans (List.length_filter_le _ _) (by simp)
theorem neT_end (E:List Fm) (N:Nat):neT E N E.length=nees E N:=rfl
theorem map_range_next {α:Type} (f:Nat→α) (k:Nat):(List.range (k+1)).map f=(List.range k).map f++[f k]:=by rw [List.range_succ,List.map_append];rfl
theorem el_case {t:Fm} (h:isEl t=true):(isMo t=false∧t.kind=0)∨(isMo t=true∧(t.kind=5∨t.kind=6)∧t.kind=(if isBx t then 5 else 6)∧∃ x,t.enc=x::((below t).enc++[])):=by
 cases t<;>simp [isEl] at h<;>simp [isMo,isBx,Fm.kind,below,Fm.enc]
theorem below_sub {t x:Fm} (h:isMo t=true) (hx:x∈subs (below t)):x∈subs t:=by
 cases t<;>simp [isMo] at h<;>exact List.mem_cons_of_mem _ hx
theorem elF_sub {G:List Fm} (hG:Fine G) {t x:Fm} (ht:t∈elF G) (hm:isMo t=true) (hx:x∈subs (below t)) (he:isEl x=true):x∈elF G:=by
 rw [elF_mem hG];refine ⟨?_,he⟩;obtain ⟨h1,_⟩:=(elF_mem hG).1 ht;unfold subG at*;obtain ⟨g,hg,h2⟩:=List.mem_flatMap.1 h1;exact List.mem_flatMap.2 ⟨g,hg,subs_trans h2 x (below_sub hm hx)⟩
theorem elF_of {G:List Fm} (hG:Fine G) {t x:Fm} (ht:t∈G) (hx:x∈subs t) (he:isEl x=true):x∈elF G:=by
 rw [elF_mem hG];exact ⟨List.mem_flatMap.2 ⟨t,ht,hx⟩,he⟩
theorem elF_isEl {G:List Fm} (hG:Fine G) {t:Fm} (ht:t∈elF G):isEl t=true:=((elF_mem hG).1 ht).2
theorem getD_mem {E:List Fm} {i:Nat} (h:i<E.length):E.getD i .fls∈E:=by
 rw [List.getD_eq_getElem?_getD,List.getElem?_eq_getElem h];exact List.getElem_mem h
theorem OwnNe.neeT {w6 wr:World} {r C g:Nat} {v c0 c1 c2 c3 c4 c5:Value} {ns:List Nee} (h:OwnNe w6 C v ns) (hb:BoxT w6 r c0 c1 c2 c3 c4 c5) (t:Touch w6 wr (fun i=>i=r)) (hl:ns.length≤8) (hn:∀ n∈ns,n.inn.length≤2147483648) (hg:w6.heap.size≤g):NeeO wr g v ns:=by
 have ht:∀ us,w6.ownsRow C 190 3 v ns.length (neCells ns us)→RowsB w6 C us (ns.map Nee.inn)→wr.ownsRow C 190 3 v ns.length (neCells ns us)∧RowsB wr C us (ns.map Nee.inn):=fun us a b=>
  ⟨own_touch a t (fun i e hi=>by rw [show i=r from hi] at e;exact type_ne hb a (by decide) rfl e),b.touch t (fun i hi e=>by
   obtain ⟨j,hj,e2⟩:=hi;rw [show i=r from e] at e2
   exact type_ne hb (b.2 j hj (by have:=b.1;omega)) (by decide) rfl e2)⟩
 have h2:OwnNe wr C v ns:=by
  obtain ⟨us,a,b⟩:=h;exact ⟨us,(ht us a b).1,(ht us a b).2⟩
 exact h2.neeO hl hn h ht hg
structure Nw1 (w3 wr:World) (r C:Nat) (lg pv:Value) (N:Nat) (v2:Value) (ns:List Nee):Prop where
 box:BoxT wr r lg pv v2 (.int .i64 N) (.slice none 0 0) (.slice none 0 0)
 ne:OwnNe wr C v2 ns
 tchd:Touch w3 wr (fun i=>i=r)
theorem Nw1.keeps {w3 wr w':World} {r C N:Nat} {lg pv v2:Value} {ns:List Nee} (h:Nw1 w3 wr r C lg pv N v2 ns) (k:Keeps wr w'):Nw1 w3 w' r C lg pv N v2 ns:=⟨h.box.keeps k,h.ne.keeps k,h.tchd.keeps k⟩
theorem Nw1.push {w3 w5 w6:World} {r N:Nat} {lg pv v2 v2':Value} {ns ms:List Nee} (h:Nw1 w3 w5 r w3.heap.size lg pv N v2 ns) (g:w5.grownBy w6 v2.ownBlock) (hr:∀ k,v2.ownBlock=some k→w3.heap.size≤k) (h6:OwnNe w6 w3.heap.size v2' ms):
  Nw1 w3 (w6.setCell ⟨r,2,none⟩ v2') r w3.heap.size lg pv N v2' ms:=by
 obtain ⟨us,ho,_⟩:=h.ne;have hb6:BoxT w6 r lg pv v2 (.int .i64 N) (.slice none 0 0) (.slice none 0 0):=h.box.other ho (by decide) (fun i hi=>hi.symm) (Touch.grown g);have g7:=hb6.grown 2 v2';exact ⟨hb6.set2 v2',h6.other hb6 (by decide) (by decide) (fun i hi=>by rw [show i=r by simpa using hi];rfl) (Touch.grown g7),(h.tchd.push g (fun k e=>.inl (hr k e))).push g7 (fun k e=>.inr (by simpa using e.symm))⟩
def BoxNe (w:World) (g:Nat) (a b c:Value):Prop:=w.ownsRow g 190 3 (.slice (some ⟨g,0,none⟩) 1 1) 1 [a,b,c]
theorem BoxNe.made (w:World) (a b c:Value):BoxNe (w.alloc (.cells #[a,b,c] 190)) w.heap.size a b c:=by
 have h:=World.ownsRow_lit (base:=w.heap.size) (e:=190) (size:=3) w #[a,b,c] 1 (Nat.le_refl _) (by simp [maxLen]) (by simp)
 simpa [BoxNe] using h
theorem BoxNe.cell0 {w:World} {g:Nat} {a b c:Value} (h:BoxNe w g a b c):w.cell? ⟨g,0,none⟩=some a:=by rw [World.ownsRow.cellAt h 0 (by omega)];rfl
theorem BoxNe.cell1 {w:World} {g:Nat} {a b c:Value} (h:BoxNe w g a b c):w.cell? ⟨g,1,none⟩=some b:=by rw [World.ownsRow.cellAt h 1 (by omega)];rfl
theorem BoxNe.cell2 {w:World} {g:Nat} {a b c:Value} (h:BoxNe w g a b c):w.cell? ⟨g,2,none⟩=some c:=by rw [World.ownsRow.cellAt h 2 (by omega)];rfl
theorem BoxNe.froz {w:World} {g:Nat} {a b c:Value} (h:BoxNe w g a b c) (i:Nat):w.frozen? ⟨g,i,none⟩=false:=World.ownsRow.frozenAt h i
theorem BoxNe.keeps {w w':World} {g:Nat} {a b c:Value} (h:BoxNe w g a b c) (k:Keeps w w'):BoxNe w' g a b c:=own_keeps h k
theorem BoxNe.far {w w':World} {g:Nat} {a b c:Value} {row:Option Nat} (h:BoxNe w g a b c) (k:w.grownBy w' row) (hn:∀ j,row=some j→j≠g):BoxNe w' g a b c:=
 own_touch h (Touch.grown k) (fun i e hi=>by
  have e2:g=i:=by simpa [Value.ownBlock] using e
  exact hn i hi.symm e2.symm)
structure Nw2 (wr wq:World) (g:Nat) (a b c:Value) (bs:List Bool):Prop where
 box:BoxNe wq g a b c
 row:OwnB wq wr.heap.size c bs
 kp:Keeps wr wq
 hg:wr.heap.size≤g
theorem Nw2.keeps {wr wq w':World} {g:Nat} {a b c:Value} {bs:List Bool} (h:Nw2 wr wq g a b c bs) (k:Keeps wq w'):Nw2 wr w' g a b c bs:=⟨h.box.keeps k,h.row.keeps k,h.kp.trans k,h.hg⟩
theorem Nw2.push {wr w5 w6:World} {g:Nat} {a b c c':Value} {bs cs:List Bool} (h:Nw2 wr w5 g a b c bs) (gr:w5.grownBy w6 c.ownBlock) (h6:OwnB w6 wr.heap.size c' cs):Nw2 wr (w6.setCell ⟨g,2,none⟩ c') g a b c' cs:=by
 have hb6:BoxNe w6 g a b c:=own_touch h.box (Touch.grown gr) (fun i e hi=>type_ne h.row h.box (by decide) hi.symm e);have hs:=World.ownsRow.stored hb6 2 c';refine ⟨hs.1,h6.touch (Touch.grown hs.2) (fun i e hi=>type_ne hb6 h6 (by decide) (k:=i) (by rw [show i=g by simpa using hi];rfl) e),(h.kp.grown gr (fun k e=>(h.row.len k e).1)).setCell h.hg c',h.hg⟩
structure Nw3 (w3 wr:World) (r:Nat) (lg pv v2:Value) (N:Nat) (v4 v5:Value) (R S:List Bool):Prop where
 box:BoxT wr r lg pv v2 (.int .i64 N) v4 v5
 r4:OwnB wr w3.heap.size v4 R
 r5:OwnB wr w3.heap.size v5 S
 ap:∀ k,v4.ownBlock=some k→v5.ownBlock≠some k
 tchd:Touch w3 wr (fun i=>i=r)
theorem Nw3.keeps {w3 wr w':World} {r N:Nat} {lg pv v2 v4 v5:Value} {R S:List Bool} (h:Nw3 w3 wr r lg pv v2 N v4 v5 R S) (k:Keeps wr w'):Nw3 w3 w' r lg pv v2 N v4 v5 R S:=⟨h.box.keeps k,h.r4.keeps k,h.r5.keeps k,h.ap,h.tchd.keeps k⟩
theorem Nw3.push4 {w3 w5 w6:World} {r N:Nat} {lg pv v2 v4 v5 v':Value} {R S R':List Bool} (h:Nw3 w3 w5 r lg pv v2 N v4 v5 R S) (gr:w5.grownBy w6 v4.ownBlock) (h6:OwnB w6 w3.heap.size v' R') (hn:∀ k,v'.ownBlock=some k→v4.ownBlock=some k∨w5.heap.size≤k):Nw3 w3 (w6.setCell ⟨r,4,none⟩ v') r lg pv v2 N v' v5 R' S:=by
 have hb6:BoxT w6 r lg pv v2 (.int .i64 N) v4 v5:=h.box.other h.r4 (by decide) (fun i hi=>hi.symm) (Touch.grown gr);have g7:=hb6.grown 4 v';have h5:OwnB w6 w3.heap.size v5 S:=h.r5.touch (Touch.grown gr) (fun i e hi=>h.ap i hi.symm e)
 have hS:∀ (u:Value) (l:List Bool),OwnB w6 w3.heap.size u l→OwnB (w6.setCell ⟨r,4,none⟩ v') w3.heap.size u l:=fun u l hu=>hu.touch (Touch.grown g7) (fun i e hi=>type_ne hb6 hu (by decide) (k:=i) (by rw [show i=r by simpa using hi];rfl) e)
 exact ⟨hb6.set4 v',hS _ _ h6,hS _ _ h5,fun k e e5=>by
  rcases hn k e with h1 | h1
  ·exact h.ap k h1 e5
  ·have:=(h.r5.len k e5).2;omega,(h.tchd.push gr (fun k e=>.inl (h.r4.len k e).1)).push g7 (fun k e=>.inr (by simpa using e.symm))⟩
theorem Nw3.push5 {w3 w5 w6:World} {r N:Nat} {lg pv v2 v4 v5 v':Value} {R S S':List Bool} (h:Nw3 w3 w5 r lg pv v2 N v4 v5 R S) (gr:w5.grownBy w6 v5.ownBlock) (h6:OwnB w6 w3.heap.size v' S') (hn:∀ k,v'.ownBlock=some k→v5.ownBlock=some k∨w5.heap.size≤k):Nw3 w3 (w6.setCell ⟨r,5,none⟩ v') r lg pv v2 N v4 v' R S':=by
 have hb6:BoxT w6 r lg pv v2 (.int .i64 N) v4 v5:=h.box.other h.r5 (by decide) (fun i hi=>hi.symm) (Touch.grown gr);have g7:=hb6.grown 5 v';have h4:OwnB w6 w3.heap.size v4 R:=h.r4.touch (Touch.grown gr) (fun i e hi=>h.ap i e hi.symm)
 have hS:∀ (u:Value) (l:List Bool),OwnB w6 w3.heap.size u l→OwnB (w6.setCell ⟨r,5,none⟩ v') w3.heap.size u l:=fun u l hu=>hu.touch (Touch.grown g7) (fun i e hi=>type_ne hb6 hu (by decide) (k:=i) (by rw [show i=r by simpa using hi];rfl) e)
 exact ⟨hb6.set5 v',hS _ _ h4,hS _ _ h6,fun k e e5=>by
  rcases hn k e5 with h1 | h1
  ·exact h.ap k e h1
  ·have:=(h.r4.len k e).2;omega,(h.tchd.push gr (fun k e=>.inl (h.r5.len k e).1)).push g7 (fun k e=>.inr (by simpa using e.symm))⟩
theorem Nw2.box6 {wr w5 w6:World} {g:Nat} {a b c:Value} {bs:List Bool} (h:Nw2 wr w5 g a b c bs) (gr:w5.grownBy w6 c.ownBlock):BoxNe w6 g a b c:=
 own_touch h.box (Touch.grown gr) (fun i e hi=>type_ne h.row h.box (by decide) hi.symm e)
theorem Nw1.box6 {w3 w5 w6:World} {r C N:Nat} {lg pv v2:Value} {ns:List Nee} (h:Nw1 w3 w5 r C lg pv N v2 ns) (g:w5.grownBy w6 v2.ownBlock):BoxT w6 r lg pv v2 (.int .i64 N) (.slice none 0 0) (.slice none 0 0):=by
 obtain ⟨us,ho,_⟩:=h.ne;exact h.box.other ho (by decide) (fun i hi=>hi.symm) (Touch.grown g)
theorem Nw3.box4 {w3 w5 w6:World} {r N:Nat} {lg pv v2 v4 v5:Value} {R S:List Bool} (h:Nw3 w3 w5 r lg pv v2 N v4 v5 R S) (gr:w5.grownBy w6 v4.ownBlock):BoxT w6 r lg pv v2 (.int .i64 N) v4 v5:=h.box.other h.r4 (by decide) (fun i hi=>hi.symm) (Touch.grown gr)
theorem Nw3.box5 {w3 w5 w6:World} {r N:Nat} {lg pv v2 v4 v5:Value} {R S:List Bool} (h:Nw3 w3 w5 r lg pv v2 N v4 v5 R S) (gr:w5.grownBy w6 v5.ownBlock):BoxT w6 r lg pv v2 (.int .i64 N) v4 v5:=h.box.other h.r5 (by decide) (fun i hi=>hi.symm) (Touch.grown gr)
theorem OwnB.shape0 {w:World} {B:Nat} {v:Value} {a:List Bool} (h:OwnB w B v a):∃ p c,v=.slice p a.length c:=by
 obtain ⟨p,c,e,_⟩:=At.of_own h;exact ⟨p,c,e⟩
theorem OwnL.shapeV {w:World} {B:Nat} {v:Value} {xs:List (List Nd)} (h:OwnL w B v xs):∃ p n c,v=.slice p n c:=by
 obtain ⟨vs,ho,_⟩:=h;obtain ⟨p,c,e,_⟩:=At.of_own ho;exact ⟨p,_,c,e⟩
theorem OwnL.touchV {w w':World} {S:Nat→Prop} {B:Nat} {v:Value} {xs:List (List Nd)} (h:OwnL w B v xs) (k:Touch w w' S) (hS:∀ i,B≤i→¬S i):OwnL w' B v xs:=by
 obtain ⟨vs,ho,hr,ha,hf⟩:=h;exact ⟨vs,own_touch ho k (fun i e=>hS i (World.ownsRow.lt ho i e).1),hr.touch k (fun i e=>hS i (hr.lt e).1),ha,hf⟩
theorem ElL.getE {w:World} {p:Option Addr} {n cap:Nat} {ss:List ByteArray} {E:List Fm} (h:ElL w (.slice p n cap) ss (E.map Fm.enc)) (i:Nat) (h1:i<ss.length) (h2:i<E.length):
  ∃ b off u,p=some ⟨b,off,none⟩∧w.cell? ⟨b,off+i*2,none⟩=some (.string ss[i])∧w.cell? ⟨b,off+i*2+1,none⟩=some u∧Nds w u (E.getD i .fls).enc:=by
 obtain ⟨p',cap',e,_,_,_,_,hget⟩:=h
 cases e
 obtain ⟨b,off,u,a1,a2,a3,a4⟩:=hget i h1 (by simpa using h2);refine ⟨b,off,u,a1,a2,a3,?_⟩
 have:(E.map Fm.enc)[i]'(by simpa using h2)=(E.getD i .fls).enc:=by
  rw [List.getElem_map,List.getD_eq_getElem?_getD,List.getElem?_eq_getElem h2];rfl
 rw [←this];exact a4
theorem stepBL {w:World} {ops:Array Oper} {o:Oper} {a:Act} {K:Act→World→Prop} {Q:Exit→Act→World→Prop} {E:Prop} (hgd:o.guard=none) (s x:Operand)
  (ho:o.op=.call { callee:=.builtin .append,args:=#[s,x],argTypes:=#[93,93] }) (base:Nat) (v:Value) (xs:List Bool) (hs:a.eval s=v) (hown:OwnB w base v xs)
  (u:Value) (y:Bool) (hx:a.eval x=u) (hu:Bools w u [y]) (hbase:base≤w.heap.size) (hlen:xs.length≤1000000)
  (h:∀ v' w',OwnB w' base v' (xs++[y])→w.grownBy w' v.ownBlock→(∀ k,v.ownBlock=some k→base≤k)→(∀ k,v'.ownBlock=some k→v.ownBlock=some k∨w.heap.size≤k)→K (a.put o.dst v') w'):if Region.wanted o (yielded ops a.tmps)=true then Oper.wp Tryz.prog o a w K Q else E:=by
 rw [if_pos (by simp [Region.wanted,hgd])];obtain ⟨i0,hi,hz0,hz1,hz2⟩:=info_parts infoB;obtain ⟨p,cap,rfl,_,_,hat,_⟩:=hu;obtain ⟨b,off,rfl,hc⟩:=hat 0 (by simp [boolCells]);refine wp_append_lies w s x _ ho base _ i0 _ 1 1 Tryz.underlying93 hi hz0 hz1 hz2 rfl (by decide) v _ _ hs hown ⟨b,off,none⟩ 1 cap [.bool y] hx (by simp) ?_ (by simp [Value.oneCell']) (by omega) (by unfold maxLen;omega) (by omega) hbase _ rfl ?_
 ·intro j u hj
  cases j with
  | zero=>simp at hj;subst hj;simpa [Addr.add,boolCells] using hc
  | succ j=>simp at hj
 ·intro g c' w' h2 h3 h4 h5
  refine h _ w' ?_ h3 (fun k e=>(World.ownsRow.lt hown k e).1) (fun k e=>?_)
  ·unfold OwnB
   rw [List.length_append,show boolCells (xs++[y])=boolCells xs++[.bool y] by simp [boolCells]];exact h2
  ·have:k=g:=by simpa [Value.ownBlock] using e.symm
   subst this
   rcases h4 with h4 | h4
   ·exact .inl h4
   ·exact .inr (by omega)
theorem wrap_pow:∀ k:Nat,k≤62→wrap64 (2^k)=2^k:=by
 intro k hk
 have:∀ j:Fin 63,wrap64 (2^(j:Nat))=2^(j:Nat):=by decide +kernel
 exact this ⟨k,by omega⟩
end
section
open Go.RowKit
section
variable {P:Program} {ops:Array Oper} {Q:Exit→Act→World→Prop} {md:Region.Mode} {S:World→Prop} {L:Nat}
def waitsL (md:Region.Mode) (ops:Array Oper) (L i:Nat):Bool:=
 match ops[L]? with
 | some o=>o.after.any fun e=>Region.binds md e&&e.on==i
 | none=>false
def wpAnyL (P:Program) (md:Region.Mode) (ops:Array Oper) (Q:Exit→Act→World→Prop) (S:World→Prop) (L:Nat):Nat→Array Bool→Act→World→Prop
 | 0,listed,a,w=>Region.ready md ops listed=[]∧Q .normal a w
 | fuel+1,listed,a,w=>
  (Region.ready md ops listed=[]→Q .normal a w)∧
  ∀ i∈Region.ready md ops listed,wpOp P ops Q i (fun a' w'=>((listed.setIfInBounds i true).getD L false=true∨S w')∧wpAnyL P md ops Q S L fuel (listed.setIfInBounds i true) a' w') a w
theorem wpAny_of_L:∀ (fuel:Nat) (listed:Array Bool) (a:Act) (w:World),wpAnyL P md ops Q S L fuel listed a w→wpAny P md ops Q fuel listed a w
 | 0,_,_,_,h=>h
 | fuel+1,_,_,_,h=>⟨h.1,fun i hi=>wpOp_mono (fun a' w' h'=>wpAny_of_L fuel _ a' w' h'.2) (h.2 i hi)⟩
theorem set_getL {listed:Array Bool} {i L:Nat} (h:i≠L):(listed.setIfInBounds i true).getD L false=listed.getD L false:=by
 rw [Array.getD_eq_getD_getElem?,Array.getD_eq_getD_getElem?,Array.getElem?_setIfInBounds_ne h]
theorem waitsL_ready {listed:Array Bool} {i:Nat} (hw:waitsL md ops L i=true) (hi:listed.getD i false=false):L∉Region.ready md ops listed:=by
 intro h;obtain ⟨_,oL,hoL,hall⟩:=mem_ready.1 h;unfold waitsL at hw;rw [hoL] at hw;obtain ⟨e,he,hb⟩:=Array.any_eq_true'.1 hw;rw [Bool.and_eq_true,beq_iff_eq] at hb;have h1:=hall e he hb.1;rw [hb.2] at h1
 rcases Nat.lt_or_ge i listed.size with h' | h'
 ·simp [h'] at hi h1;rw [hi] at h1;cases h1
 ·simp [Array.getElem?_eq_none h'] at h1
theorem wpAnyL_first {i:Nat} {oi:Oper} {v:Value} (hi:ops[i]? = some oi) (hsel:∀ (j:Nat) (o:Oper) cs b,ops[j]? = some o→o.op≠.select cs b) (hiL:i≠L)
  (hQ:∀ c a w,Q (.panic c) (a.put oi.dst v) w→Q (.panic c) a w) (S':World→Prop) (hmode:waitsL md ops L i=true∧S'=S∨S'=fun _=>True):
  ∀ (fuel:Nat) (listed:Array Bool) (a:Act) (w:World),
   (∀ j oj,ops[j]? = some oj→j≠i→listed.getD j true=false→(∀ e∈oj.after,Region.binds md e=true→e.on≠i)→oi.apart ops oj=true)→
   i∈Region.ready md ops listed→YieldsIf P ops S' oi v a→(listed.getD L false=true∨S w)→(waitsL md ops L i=true∧S'=S→listed.getD L false=false∧S w)→
   wpAnyL P md ops Q S L fuel (listed.setIfInBounds i true) (a.put oi.dst v) w→wpAnyL P md ops Q S L (fuel+1) listed a w:=by
 intro fuel
 have hS':∀ (listed:Array Bool) (w:World),(waitsL md ops L i=true∧S'=S→listed.getD L false=false∧S w)→S' w:=fun listed w h2=>by
  rcases hmode with hm | hm
  ·rw [hm.2];exact (h2 hm).2
  ·rw [hm];exact True.intro
 induction fuel with
 | zero=>
  intro listed a w _ hr hy hS h2 H;refine ⟨fun h=>(by rw [h] at hr;cases hr),fun j hj=>?_⟩
  by_cases hji:j=i
  ·subst hji;exact hy.wpOp hi (hS' _ _ h2) ⟨by rw [set_getL hiL];exact hS,H⟩
  ·have:=ready_mono hj hji
   rw [H.1] at this
   cases this
 | succ fuel ih=>
  intro listed a w hfree hr hy hS h2 H;refine ⟨fun h=>(by rw [h] at hr;cases hr),fun j hj=>?_⟩
  by_cases hji:j=i
  ·subst hji;exact hy.wpOp hi (hS' _ _ h2) ⟨by rw [set_getL hiL];exact hS,H⟩
  ·have h1:=H.2 j (ready_mono hj hji)
   obtain ⟨hjun,oj,hoj,hall⟩:=mem_ready.1 hj
   have hin:listed.getD i false=false:=by
    have h0:=(mem_ready.1 hr).1
    rcases Nat.lt_or_ge i listed.size with h' | h'
    ·simp [h'] at h0 ⊢;exact h0
    ·simp [Array.getElem?_eq_none h'] at h0 ⊢
   have hnot:∀ e∈oj.after,Region.binds md e=true→e.on≠i:=fun e he hb heq=>by
    have h1:=hall e he hb;have h0:=(mem_ready.1 hr).1;rw [heq] at h1
    rcases Nat.lt_or_ge i listed.size with h' | h'
    ·simp [h'] at h0 h1;rw [h0] at h1;cases h1
    ·simp [Array.getElem?_eq_none h'] at h1
   have h3:=wpOp_putIf hoj (hfree j oj hoj hji hjun hnot) (fun cs b=>hsel i oi cs b hi) (fun cs b=>hsel j oj cs b hoj) hQ hy h1
   have hfree':∀ k ok,ops[k]? = some ok→k≠i→(listed.setIfInBounds j true).getD k true=false→
     (∀ e∈ok.after,Region.binds md e=true→e.on≠i)→oi.apart ops ok=true:=fun k ok hk hki hun hno=>by
    refine hfree k ok hk hki ?_ hno
    by_cases hjk:j=k
    ·subst hjk;exact hjun
    ·rw [getD_set_ne true hjk] at hun;exact hun
   have hcomm:(listed.setIfInBounds i true).setIfInBounds j true=(listed.setIfInBounds j true).setIfInBounds i true:=Array.setIfInBounds_comm _ _ (Ne.symm hji);refine wpOp_mono (fun a' w' h4=>?_) h3
   have hb:(listed.setIfInBounds j true).getD L false=true∨S w':=by
    have:=h4.2.1;rw [hcomm,set_getL hiL] at this;exact this
   refine ⟨hb,ih (listed.setIfInBounds j true) a' w' hfree' (ready_mono hr (Ne.symm hji)) h4.1 hb ?_ ?_⟩
   ·intro hm
    have hjL:j≠L:=fun e=>waitsL_ready hm.1 hin (e▸hj)
    have hl:(listed.setIfInBounds j true).getD L false=false:=by rw [set_getL hjL];exact (h2 hm).1
    refine ⟨hl,?_⟩
    rcases hb with hb | hb
    ·rw [hl] at hb;cases hb
    ·exact hb
   ·rw [←hcomm];exact h4.2.2
theorem wpAnyL_take {i:Nat} {oi:Oper} {v:Value} {fuel:Nat} {listed:Array Bool} {a:Act} {w:World} (hi:ops[i]? = some oi)
  (hs:Region.noSelect ops=true) (hf:Region.free md ops listed i=true) (hr:(Region.ready md ops listed).contains i=true) (hiL:(i != L)=true) (hl:listed.getD L false=false) (hw:waitsL md ops L i=true)
  (hQ:∀ c a w,Q (.panic c) (a.put oi.dst v) w→Q (.panic c) a w) (hy:YieldsIf P ops S oi v a) (hS:S w)
  (h:wpAnyL P md ops Q S L fuel (listed.setIfInBounds i true) (a.put oi.dst v) w):wpAnyL P md ops Q S L (fuel+1) listed a w:=
 wpAnyL_first hi (Region.noSelect_spec hs) (by simpa using hiL) hQ S (.inl ⟨hw,rfl⟩) fuel listed a w (Region.free_spec hi hf) (by simpa using hr) hy (.inr hS) (fun _=>⟨hl,hS⟩) h
theorem wpAnyL_pure {i:Nat} {oi:Oper} {v:Value} {fuel:Nat} {listed:Array Bool} {a:Act} {w:World} (hi:ops[i]? = some oi)
  (hs:Region.noSelect ops=true) (hf:Region.free md ops listed i=true) (hr:(Region.ready md ops listed).contains i=true) (hiL:(i != L)=true) (hl:listed.getD L false=false)
  (hQ:∀ c a w,Q (.panic c) (a.put oi.dst v) w→Q (.panic c) a w) (hy:YieldsIf P ops (fun _=>True) oi v a) (hS:S w)
  (h:wpAnyL P md ops Q S L fuel (listed.setIfInBounds i true) (a.put oi.dst v) w):wpAnyL P md ops Q S L (fuel+1) listed a w:=
 wpAnyL_first hi (Region.noSelect_spec hs) (by simpa using hiL) hQ (fun _=>True) (.inr rfl) fuel listed a w (Region.free_spec hi hf) (by simpa using hr) hy (.inr hS) (fun _=>⟨hl,hS⟩) h
theorem wpAnyL_one {i:Nat} {o:Oper} {fuel:Nat} {listed:Array Bool} {a:Act} {w:World} (hr:Region.ready md ops listed=[i]) (ho:ops[i]? = some o)
  (h:∀ K':Act→World→Prop,Shut (∀ a w,S w→(S w→wpAnyL P md ops Q S L fuel (listed.setIfInBounds i true) a w)→K' a w)→if Region.wanted o (yielded ops a.tmps)=true then Oper.wp P o a w K' Q else K' (a.put o.dst undef) w):
  wpAnyL P md ops Q S L (fuel+1) listed a w:=
by
 refine ⟨fun h0=>absurd (hr.symm.trans h0) (by simp),fun j hj=>?_⟩;rw [hr] at hj
 obtain rfl:j=i:=by simpa using hj
 exact wpOp_step ho (fun K' hK=>h K' (fun a w hS hW=>hK a w ⟨.inr hS,hW hS⟩))
theorem wpAnyL_last {o:Oper} {fuel:Nat} {listed:Array Bool} {a:Act} {w:World} (hr:Region.ready md ops listed=[L]) (ho:ops[L]? = some o) (hsz:L<listed.size)
  (h:∀ K':Act→World→Prop,Shut (∀ a w,wpAnyL P md ops Q S L fuel (listed.setIfInBounds L true) a w→K' a w)→if Region.wanted o (yielded ops a.tmps)=true then Oper.wp P o a w K' Q else K' (a.put o.dst undef) w):
  wpAnyL P md ops Q S L (fuel+1) listed a w:=
by
 refine ⟨fun h0=>absurd (hr.symm.trans h0) (by simp),fun j hj=>?_⟩;rw [hr] at hj
 obtain rfl:j=L:=by simpa using hj
 exact wpOp_step ho (fun K' hK=>h K' (fun a w hW=>hK a w ⟨.inl (by simp [hsz]),hW⟩))
theorem wpAnyL_done {listed:Array Bool} {a:Act} {w:World} (hr:Region.ready md ops listed=[]) (h:Q .normal a w):∀ fuel,wpAnyL P md ops Q S L fuel listed a w
 | 0=>⟨hr,h⟩
 | _+1=>⟨fun _=>h,by rw [hr];simp⟩
theorem wp_region_L {id:Nat} {a:Act} {w:World} (hm:P.follows .mixedOrders=true) (hS:S w.drew)
  (h:S w.drew→wpAnyL P .any ops Q S L ops.size (Array.replicate ops.size false) a w.drew):(Code.region id ops true).wp P Q a w:=
 wp_region_any hm (wpAny_of_L _ _ _ _ (h hS))
end
end
end Go.Proofs.YtbccmdfdclomiaaGreatDoor
