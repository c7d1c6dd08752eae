import Derived.Test.YtbccmdfdclomiaaGreatDoorHT1
import Derived.Deep.RegionHeld3
import Derived.Deep.CutBlock
import Derived.Deep.DeepCutAuto
/- own -/
namespace Go.Proofs.YtbccmdfdclomiaaGreatDoor
set_option maxRecDepth 20000
set_option maxHeartbeats 4000000
open Go.RowKit
theorem l02Own_any (a:List Nd) (v:Value) (w:World) (hv:Nds w v a) (hl:a.length≤1073741824):Calls Tryz.prog 43 #[v] w (RetN w a):=by
 have h1:=OwnN.empty w;have k1:=(Keeps.refl w).alloc (.cells #[] 74);have hv1:=hv.keeps k1;go_enter Tryz.func43,Tryz.ntmps43
 go_wp2_with (at_builtin;refine appN rfl _ _ rfl w.heap.size _ [] rfl h1 _ a rfl hv1 (by simp) (by simp;omega) ?_;intro v1 w1 hv1 hg1 hr1;have k2:Keeps w w1:=k1.grown hg1 hr1)
 go_ret;exact ⟨_,rfl,by simpa using hv1,k2⟩
theorem cloneN_any (a:List Nd) (v:Value) (w:World) (hv:Nds w v a) (hp:0<a.length) (_hl:a.length≤1073741824):Calls Tryz.prog 90 #[v] w (RetN w a):=by
 have h1:=OwnN.empty w;have k1:=(Keeps.refl w).alloc (.cells #[] 74);have hv1:=hv.keeps k1;obtain ⟨p,cap,rfl,_,_,hat,_⟩:=hv;obtain ⟨b,off,rfl⟩:=hat.ptrN hp;clear hat
 have he:(binOp .eql 34 (.slice (some ⟨b,off,none⟩) a.length cap) (.slice none 0 0)).run Tryz.prog w=.ok (.bool false) w:=by kernel_rfl
 go_enter Tryz.func90,Tryz.ntmps90
 go_wp2_with (at_builtin;refine appN rfl _ _ rfl w.heap.size _ [] rfl h1 _ a rfl hv1 (by simp) (by simp;omega) ?_;intro v1 w1 hv1 hg1 hr1;have k2:Keeps w w1:=k1.grown hg1 hr1)
 go_ret;exact ⟨_,rfl,by simpa using hv1,k2⟩
theorem clone_any (a:List Nd) (v:Value) (w:World) (hv:Nds w v a) (hp:0<a.length) (hl:a.length≤1073741824):Calls Tryz.prog 41 #[v] w (RetN w a):=by
 go_enter Tryz.func41,Tryz.ntmps41
 go_wp2_with (go_at_call 90;refine (cloneN_any a _ _ hv hp hl).mono ?_;rintro e w1 ⟨v1,rfl,hv1,k1⟩)
 go_ret;exact ⟨_,rfl,hv1,k1⟩
theorem OwnI.dr {w w':World} {B b:Nat} {v:Value} {a:List Int} (h:OwnI w b v a) (k:Dr B w w') (hB:B<b):OwnI w' b v a:=own_touch h k.1 (fun i hi e=>by have:=(h.len i hi).1;omega)
theorem OwnN.cut {w:World} {B g cap:Nat} {a:List Nd} (h:OwnN w B (.slice (some ⟨g,0,none⟩) a.length cap) a) (k:Nat) (hk:k≤a.length):OwnN w B (.slice (some ⟨g,0,none⟩) k cap) (a.take k):=by
 have hcl:=ndCells_length a;obtain ⟨hl,h | ⟨g',cap',cur,hv,hb,hg,hnc,hcm,hcs,ht⟩⟩:=h
 ·cases h.1
 cases hv
 have e:(a.take k).length=k:=by simp;omega
 have hcells:∀ (l:List Nd) (k:Nat),ndCells (l.take k)=(ndCells l).take (k*2):=by
  intro l
  induction l with
  | nil=>intro k;simp [ndCells]
  | cons x l ih=>
   intro k
   cases k with
   | zero=>simp [ndCells]
   | succ k=>rw [List.take_succ_cons,ndCells,ih,show (k+1)*2=k*2+1+1 by omega];rfl
 unfold OwnN;rw [e];refine ⟨by rw [ndCells_length,e],.inr ⟨g,cap,cur,rfl,hb,hg,by omega,hcm,hcs,?_⟩⟩;rw [hcells,←ht,List.take_take,Nat.min_eq_left (by omega)]
theorem tailN (g m cap l:Nat) (hl:l≤m) (hc:m≤cap) (hm:cap≤maxLen) (w:World) (B:Nat) (a:List Nd) (h:OwnN w B (.slice (some ⟨g,0,none⟩) m cap) a) (ha:a.length≤2147483648):
  Nds w (.slice (if cap=l then some ⟨g,0,none⟩ else some ⟨g,l*2,none⟩) (m-l) (cap-l)) (a.drop l):=by
 ·obtain ⟨_,_,e,_,_,hat,_⟩:=h.nds ha
  injection e with e1 e2 e3;subst e1;subst e2;subst e3
  have hdl:(a.drop l).length=a.length-l:=by simp
  refine ⟨_,cap-l,by rw [hdl],by omega,by omega,?_,by omega⟩
  split
  ·have:a.drop l=[]:=List.drop_eq_nil_of_le (by omega)
   rw [this];exact At.nil _ _
  ·intro j hj
   obtain ⟨b',off',hp,hc'⟩:=hat (l*2+j) (by rw [ndCells_length] at hj ⊢;omega)
   cases hp
   refine ⟨g,_,rfl,?_⟩;rw [show l*2+j=0+(l*2+j) by omega,hc']
   have hcd:∀ (x:List Nd) (k:Nat),ndCells (x.drop k)=(ndCells x).drop (k*2):=by
    intro x
    induction x with
    | nil=>intro k;simp [ndCells]
    | cons y x ih=>
     intro k
     cases k with
     | zero=>simp
     | succ k=>rw [List.drop_succ_cons,ih,show (k+1)*2=k*2+1+1 by omega];rfl
   simp [hcd]
theorem l01Pick_any (B b:Nat) (xs:List Int) (v:Value) (w:World) (hs:Src w B) (hv:OwnI w b v xs) (hB:B<b) (hp:0<xs.length) (hl:xs.length≤1000):
  Calls Tryz.prog 113 #[.pointer (some ⟨B,0,none⟩),v] w fun e w'=>∃ x∈xs,e=.returned (.int .i64 x)∧Dr B w w':=by
 have hv0:=hv;obtain ⟨g,cap,rfl,_,_,_,hmx⟩:=hv.shape hp;unfold maxLen at hmx;clear hv;go_enter Tryz.func113,Tryz.ntmps113;go_wp2_with fail;refine (l01Next_any (xs.length:Int) B w hs (by omega)).mono ?_;rintro e w2 ⟨r,rfl,hr,d2⟩
 have hrl:r<xs.length:=by omega
 have hrl':(r:Int)<xs.length:=by omega
 obtain ⟨hc,_⟩:=(hv0.dr d2 hB).cell r hrl;go_wp2_with fail;go_ret;exact ⟨xs[r],List.getElem_mem hrl,rfl,d2⟩
theorem OwnI.lit (w:World) (xs:List Int) (hl:xs.length≤maxLen):OwnI (w.alloc (.cells (intCells xs).toArray 2)) w.heap.size (.slice (some ⟨w.heap.size,0,none⟩) xs.length xs.length) xs:=
 ⟨by simp [intCells],.inr ⟨w.heap.size,xs.length,_,rfl,Nat.le_refl _,heap_alloc_new w _,Nat.le_refl _,hl,by simp [intCells],by rw [List.take_of_length_le (by simp [intCells])]⟩⟩
theorem Dr.beside {B g:Nat} {a b c:World} (h:Dr B a b) (k:Touch b c (fun i=>i=g)) (hg:B<g) (ha:a.heap.size≤g):Dr B a c:=by
 have hs:Src c B:=by
  obtain ⟨v,n,x,hh,c0,c1,c2,f1,f2,ty,hx,p,cap,e,q1,q2,q3⟩:=h.2;have hBl:=World.block_lt_of_cell? _ _ c0;have kc:=k.cell hBl (show ¬B=g by omega);refine ⟨v,n,x,hh,by rw [kc.1];exact c0,by rw [kc.1];exact c1,by rw [kc.1];exact c2,by rw [kc.2];exact f1,by rw [kc.2];exact f2,ty.touch k (by omega),hx,p,cap,e,q1,q2,fun j hj=>?_⟩;obtain ⟨b',off,y,e2,hc,hy,hb⟩:=q3 j hj;exact ⟨b',off,y,e2,by rw [(k.cell (b:=b') (World.block_lt_of_cell? _ _ hc) (by omega)).1];exact hc,hy,hb⟩
 refine ⟨⟨k.os.trans h.1.os,k.tape.trans h.1.tape,k.output.trans h.1.output,Nat.le_trans h.1.size k.size,fun i hi hn=>?_⟩,hs⟩;rw [k.block i (Nat.lt_of_lt_of_le hi h.1.size) (by omega)];exact h.1.block i hi hn
def SzGe (w w':World):Prop:=w.heap.size≤w'.heap.size
def DrawA (B n:Nat) (w:World) (e:Ending) (w':World):Prop:=∃ v,∃ a:List Nd,e=.returned v∧OwnN w' w.heap.size v a∧a.length≤n∧Dr B w w'
theorem l02Bend_any (B:Nat) (a:List Nd) (v:Value) (w:World) (hs:Src w B) (hv:Nds w v a) (hp:0<a.length) (hl:a.length≤1000):
  Calls Tryz.prog 84 #[.pointer (some ⟨B,0,none⟩),v] w (DrawA B (a.length+1) w):=by
 have hB:=hs.lt;have HO:=hid (l02Own_any a v w hv (by omega));obtain ⟨p,n,c,rfl⟩:=hv.shape;clear hv;go_enter Tryz.func84,Tryz.ntmps84;go_wp2_with fail;refine HO.out.mono ?_;rintro e w1 ⟨v1,rfl,h1,k1⟩;obtain ⟨g,cap,rfl,hg0,hg1,hgc,hgm⟩:=h1.shape hp;have D1:=Dr.of hs k1;have hgm':=hgm;unfold maxLen at hgm;go_wp2_with fail;refine (l01Next_any (a.length:Int) B w1 D1.2 (by omega)).mono ?_;rintro e w2 ⟨k,rfl,hk,d2⟩
 have hkl:k<a.length:=by omega
 have hkl':(k:Int)<a.length:=by omega
 have D2:=D1.trans d2;have h2:=h1.dr d2 hB;go_wp2_with fail;refine (l01Next_any 5 B w2 D2.2 (by omega)).mono ?_;rintro e w3 ⟨r,rfl,hr,d3⟩;have D3:=D2.trans d3;have h3:=h2.dr d3 hB;clear h1 h2
 have hr5:r=0∨r=1∨r=2∨r=3∨r=4:=by omega
 clear hr
 rcases hr5 with rfl | rfl | rfl | rfl | rfl
 ·go_wp2_with fail
  refine (l01Next_any 9 B w3 D3.2 (by omega)).mono ?_;rintro e w4 ⟨x,rfl,hx,d4⟩;have h4:=h3.dr d4 hB;have D4:=D3.trans d4;obtain ⟨c0,c1,f0,f1⟩:=h4.cell k hkl;obtain ⟨hst,hgr⟩:=h4.storek k hkl ((x:Int)-1);have k5:=(k1.trans (Keeps.refl w1));have t5:Touch w4 (w4.setCell ⟨g,k*2,none⟩ (.int .i64 ((x:Int)-1))) (fun i=>i=g):=(Touch.grown hgr).mono (fun j e=>by cases e;rfl);have D5:=D4.beside t5 (by omega) hg0;go_wp2_with fail;go_ret;exact ⟨_,_,rfl,hst,by simp,D5⟩
 ·have hlit:=OwnI.lit w3 [-1,0,1,5,6] (by simp [maxLen])
  have ka:Keeps w3 (w3.alloc (.cells #[.int .i64 (-1),.int .i64 0,.int .i64 1,.int .i64 5,.int .i64 6] 2)):=(Keeps.refl w3).alloc _;have Da:=D3.keeps ka;have ha:=h3.keeps ka;have hPk:=hid (l01Pick_any B w3.heap.size [-1,0,1,5,6] _ _ Da.2 hlit (by have:=D3.size;omega) (by simp) (by simp));clear hlit h3;go_wp2_with fail;refine hPk.out.mono ?_;rintro e w4 ⟨x,_,rfl,d4⟩;have h4:=ha.dr d4 hB;have D4:=Da.trans d4;obtain ⟨c0,c1,f0,f1⟩:=h4.cell k hkl;obtain ⟨hst,hgr⟩:=h4.stores k hkl x;have t5:Touch w4 (w4.setCell ⟨g,k*2+1,none⟩ (.int .i64 x)) (fun i=>i=g):=(Touch.grown hgr).mono (fun j e=>by cases e;rfl);have D5:=D4.beside t5 (by omega) hg0;go_wp2_with fail;go_ret;exact ⟨_,_,rfl,hst,by simp,D5⟩
 ·go_wp2_with fail
  refine (l01Next_any 7 B w3 D3.2 (by omega)).mono ?_;rintro e w4 ⟨x,rfl,hx,d4⟩;have h4:=h3.dr d4 hB;have D4:=D3.trans d4;have hlit:=(OwnN.lit1 w4 ⟨x,0⟩).nds (by simp);have ka:Keeps w4 (w4.alloc (.cells #[.int .i64 x,.int .i64 0] 74)):=(Keeps.refl w4).alloc _;have Da:=D4.keeps ka;have ha:=h4.keeps ka;clear h3 h4
  go_wp2_with (at_builtin;refine appN rfl _ _ rfl w.heap.size _ a rfl ha _ [⟨x,0⟩] rfl hlit (by have:=Da.size;exact this) (by simp;omega) ?_;intro v5 w5 hv5 hg5 hr5)
  have t5:=(Touch.grown hg5).mono (S':=fun i=>i=g) (fun j e=>by have e2:some j=some g:=e;exact Option.some.inj e2);have D5:=Da.beside t5 (by omega) hg0;go_ret;exact ⟨_,_,rfl,hv5,by simp,D5⟩
 ·have hcut:=h3.cut k (by omega)
  have hkc:(k:Int)≤cap:=by omega
  go_wp2_with fail;go_ret;exact ⟨_,_,rfl,hcut,by simp;omega,D3⟩
 ·have htl0:=tailN g a.length cap (k+1) (by omega) hgc hgm' w3 _ a h3 (by omega)
  have hkc:(k:Int)≤cap:=by omega
  have hk1:(k:Int)+1≤a.length:=by omega
  have hk0:(0:Int)≤(k:Int)+1:=by omega
  have hw1:IntKind.i64.wrap ((k:Int)+1)=(k:Int)+1:=Go.IntWalk.i64_in _ (by omega)
  have htn:((k:Int)+1).toNat=k+1:=by omega
  have hcut:=h3.cut k (by omega);have hsA:SzGe w w3.drew:=D3.size;go_wp2_with fail
  go_region_held3 (fun w'=>SzGe w w') (first | exact hsA | exact hsB) (first | (refine stepN rfl (.tmp 50) (.tmp 54) rfl w.heap.size _ (a.take k) rfl (hcut.keeps (Keeps.refl _).drew) _ (a.drop (k+1)) rfl (htl0.keeps (Keeps.refl _).drew) (by have:=D3.size;exact this) (by simp;omega) ?_;intro v5 w5 hv5 hg5 hr5;have hsB:SzGe w w5:=Nat.le_trans hsA hg5.size))
  all_goals
   have t5:=(Touch.grown hg5).mono (S':=fun i=>i=g) (fun j e=>by have e2:some j=some g:=e;exact Option.some.inj e2);have D5:=(D3.keeps (Keeps.refl _).drew).beside t5 (by omega) hg0;go_wp2_with fail
   all_goals
    go_ret;exact ⟨_,_,rfl,hv5,by simp;omega,D5⟩
def lgS:Nat→ByteArray
 | 0=>⟨#[75]⟩
 | 1=>⟨#[68]⟩
 | 2=>⟨#[84]⟩
 | 3=>⟨#[75,52]⟩
 | 4=>⟨#[83,52]⟩
 | 5=>⟨#[71,76]⟩
 | 6=>⟨#[83,53]⟩
 | _=>⟨#[75,66]⟩
def syS (k:Nat):ByteArray:=if k<8 then lgS k else if k=8 then ⟨#[73,110,116]⟩ else if k=9 then ⟨#[67,76]⟩ else if k=10 then ⟨#[]⟩ else if k=11 then ⟨#[105,110,116]⟩ else ⟨#[71,114,122]⟩
theorem zr_snoc (n:Nat):(List.range (n+1)).map Int.ofNat=(List.range n).map Int.ofNat++[(n:Int)]:=by simp [List.range_succ]
theorem zr_len (n:Nat):((List.range n).map Int.ofNat).length=n:=by simp
theorem lastS_le (L:Nat):9≤lastS L∧lastS L≤13:=by
 unfold lastS
 repeat' split
 all_goals omega
theorem moreS_len (L:Nat):(moreS L).length≤2:=by
 unfold moreS
 repeat' split
 all_goals simp
theorem OwnI.lit1 (w:World) (x:Int):OwnI (w.alloc (.cells #[.int .i64 x] 2)) w.heap.size (.slice (some ⟨w.heap.size,0,none⟩) 1 1) [x]:=
 World.ownsRow_lit (base:=w.heap.size) (e:=2) (size:=1) w #[.int .i64 x] 1 (Nat.le_refl _) (by simp [maxLen]) (by simp)
theorem OwnI.lit2 (w:World) (x y:Int):OwnI (w.alloc (.cells #[.int .i64 x,.int .i64 y] 2)) w.heap.size (.slice (some ⟨w.heap.size,0,none⟩) 2 2) [x,y]:=
 World.ownsRow_lit (base:=w.heap.size) (e:=2) (size:=1) w #[.int .i64 x,.int .i64 y] 2 (Nat.le_refl _) (by simp [maxLen]) (by simp)
theorem OwnI.lit1N (w:World) (x:Int) (N:Nat) (hN:N=w.heap.size):OwnI (w.alloc (.cells #[.int .i64 x] 2)) w.heap.size (.slice (some ⟨N,0,none⟩) 1 1) [x]:=by subst hN;exact OwnI.lit1 w x
theorem OwnI.lit2N (w:World) (x y:Int) (N:Nat) (hN:N=w.heap.size):OwnI (w.alloc (.cells #[.int .i64 x,.int .i64 y] 2)) w.heap.size (.slice (some ⟨N,0,none⟩) 2 2) [x,y]:=by subst hN;exact OwnI.lit2 w x y
theorem schemesOf_any (L:Nat) (hL:L≤9) (w:World):Calls Tryz.prog 74 #[.string (syS L)] w fun e w'=>∃ v,e=.returned (.tuple #[v,.bool true])∧OwnI w' w.heap.size v (schS L)∧Keeps w w':=by
 go_enter Tryz.func74,Tryz.ntmps74
 go_upto_block 0 with fail
 go_cut [4,5] (fun l m wx=>l=.int .i64 ((lastS L:Int)-1)∧OwnI wx w.heap.size m (moreS L)∧Keeps w wx)
 case first=>
  have h8:L=0∨L=1∨L=2∨L=3∨L=4∨L=5∨L=6∨L=7∨L=8∨L=9:=by omega
  clear hL
  rcases h8 with rfl | rfl | rfl | rfl | rfl | rfl | rfl | rfl | rfl | rfl
  all_goals
   simp only [syS,lgS];go_wp2_with fail
   go_meet
   first
    | exact ⟨rfl,OwnI.nil _ _,Keeps.refl _⟩
    | exact ⟨rfl,OwnI.lit1 _ _,(Keeps.refl _).alloc _⟩
    | exact ⟨rfl,OwnI.lit2 _ _ _,(Keeps.refl _).alloc _⟩
 case rest=>
  obtain ⟨rfl,hm,kc⟩:=hcut;obtain ⟨hl1,hl2⟩:=lastS_le L;have hmo:=moreS_len L;have HS:Hid (schS L=(List.range (lastS L)).map Int.ofNat++moreS L):=hid rfl;generalize lastS L=n at*;generalize moreS L=mo at*
  have hw1:wrap64 ((n:Int)-1+1)=n:=by unfold wrap64;omega
  obtain ⟨pm,cm,rfl,_⟩:=hm.ints (by omega);go_wp2_with fail
  go_loopw [6,38] (fun o i' wr=>∃ k:Nat,k≤n∧i'=.int .i64 k∧OwnI wr wc.heap.size o ((List.range k).map Int.ofNat)∧Keeps wc wr) (fun _ i _=>n-(intOf i).toNat)
  case atStart=>exact ⟨0,by omega,rfl,by simpa using OwnI.nil wc wc.heap.size,Keeps.refl _⟩
  case round=>
   obtain ⟨k,hk,rfl,hown,kw⟩:=hrel;have hll:=zr_len k
   by_cases hlt:k<n
   ·have hlt':(k:Int)<n:=by omega
    have HSN:=hid (zr_snoc k)
    go_wp2_with (at_builtin;refine appI rfl _ _ rfl wc.heap.size _ ((List.range k).map Int.ofNat) rfl (hown.keeps ((Keeps.refl wr).alloc _)) _ [(k:Int)] rfl (Ints.lit1 wr k) (by have:=kw.size;simp;omega) (by simp;omega) ?_;intro v1 w1 hv1 hg1 hr1;have k2:=(kw.alloc (.cells #[.int .i64 k] 2)).grown hg1 (by simpa using hr1))
    go_roundw
    case rel=>exact ⟨k+1,by omega,by go_num,by rw [HSN.out];exact hv1,k2⟩
    case measure=>simp [intOf];omega
   ·obtain rfl:k=n:=by omega
    have hlt':¬(k:Int)<k:=by omega
    go_wp2_with (at_builtin;refine appI rfl _ _ rfl wc.heap.size _ ((List.range k).map Int.ofNat) rfl hown _ mo rfl ((hm.ints (by omega)).keeps kw) kw.size (by simp;omega) ?_;intro v1 w1 hv1 hg1 hr1;have k2:=kw.grown hg1 (by simpa using hr1))
    go_ret2
    exact ⟨_,rfl,by rw [HS.out];exact hv1.mono kc.size,kc.trans k2⟩
theorem schemesOf_none (L:Nat) (hL:L=10∨L=11∨L=12) (w:World):Calls Tryz.prog 74 #[.string (syS L)] w fun e w'=>e=.returned (.tuple #[.slice none 0 0,.bool false])∧Keeps w w':=by
 rcases hL with rfl | rfl | rfl
 all_goals
  simp only [syS];go_enter Tryz.func74,Tryz.ntmps74;go_wp2_with fail
  go_ret2
  exact ⟨rfl,Keeps.refl _⟩
theorem l13Schemes_any (L:Nat) (hL:L≤9) (w:World):Calls Tryz.prog 75 #[.string (syS L)] w fun e w'=>∃ v,e=.returned v∧OwnI w' w.heap.size v (schS L)∧Keeps w w':=by
 have kE:=(Keeps.refl w).alloc (.cells #[] 2);have h0:=OwnI.empty w;go_enter Tryz.func75,Tryz.ntmps75
 go_upto_block 0 with fail
 go_cut [3,4] (fun l m wx=>l=.int .i64 (lastS L:Int)∧OwnI wx w.heap.size m (moreS L)∧Keeps w wx)
 case first=>
  have h8:L=0∨L=1∨L=2∨L=3∨L=4∨L=5∨L=6∨L=7∨L=8∨L=9:=by omega
  clear hL
  rcases h8 with rfl | rfl | rfl | rfl | rfl | rfl | rfl | rfl | rfl | rfl
  all_goals
   simp only [syS,lgS];go_wp2_with fail
   go_meet
   first
    | exact ⟨rfl,h0,kE⟩
    | exact ⟨rfl,(OwnI.lit1N _ _ _ (by simp)).mono kE.size,kE.alloc _⟩
    | exact ⟨rfl,(OwnI.lit2N _ _ _ _ (by simp)).mono kE.size,kE.alloc _⟩
 case rest=>
  obtain ⟨rfl,hm,kc⟩:=hcut;obtain ⟨hl1,hl2⟩:=lastS_le L;have hmo:=moreS_len L;have HS:Hid (schS L=(List.range (lastS L)).map Int.ofNat++moreS L):=hid rfl;generalize lastS L=n at*;generalize moreS L=mo at*;obtain ⟨pm,cm,rfl,_⟩:=hm.ints (by omega);have kF:=(Keeps.refl wc).alloc (.cells #[] 2);have h1:=OwnI.empty wc;clear kE h0;go_wp2_with fail
  go_loopw [5,6] (fun o i' wr=>∃ k:Nat,k≤n∧i'=.int .i64 k∧OwnI wr wc.heap.size o ((List.range k).map Int.ofNat)∧Keeps wc wr) (fun _ i _=>n-(intOf i).toNat)
  case atStart=>exact ⟨0,by omega,rfl,by simpa using h1,kF⟩
  case round=>
   obtain ⟨k,hk,rfl,hown,kw⟩:=hrel;have hll:=zr_len k;clear kF h1
   by_cases hlt:k<n
   ·have hlt':(k:Int)<n:=by omega
    have HSN:=hid (zr_snoc k)
    go_wp2_with (at_builtin;refine appI rfl _ _ rfl wc.heap.size _ ((List.range k).map Int.ofNat) rfl (hown.keeps ((Keeps.refl wr).alloc _)) _ [(k:Int)] rfl (Ints.lit1 wr k) (by have:=kw.size;simp;omega) (by simp;omega) ?_;intro v1 w1 hv1 hg1 hr1;have k2:=(kw.alloc (.cells #[.int .i64 k] 2)).grown hg1 (by simpa using hr1))
    go_roundw
    case rel=>exact ⟨k+1,by omega,by go_num,by rw [HSN.out];exact hv1,k2⟩
    case measure=>simp [intOf];omega
   ·obtain rfl:k=n:=by omega
    have hlt':¬(k:Int)<k:=by omega
    go_wp2_with (at_builtin;refine appI rfl _ _ rfl wc.heap.size _ ((List.range k).map Int.ofNat) rfl hown _ mo rfl ((hm.ints (by omega)).keeps kw) kw.size (by simp;omega) ?_;intro v1 w1 hv1 hg1 hr1;have k2:=kw.grown hg1 (by simpa using hr1))
    go_ret;exact ⟨_,rfl,by rw [HS.out];exact hv1.mono kc.size,kc.trans k2⟩
theorem l13Schemes_none (L:Nat) (hL:L=10∨L=11∨L=12) (w:World):Calls Tryz.prog 75 #[.string (syS L)] w fun e w'=>e=.returned (.slice none 0 0)∧Keeps w w':=by
 have kE:=(Keeps.refl w).alloc (.cells #[] 2)
 rcases hL with rfl | rfl | rfl
 all_goals
  simp only [syS];go_enter Tryz.func75,Tryz.ntmps75;go_wp2_with fail;go_ret;exact ⟨rfl,kE⟩
end Go.Proofs.YtbccmdfdclomiaaGreatDoor
