import Derived.Test.YtagoboblkadelaaGreatZPZ
import Derived.Test.YtagoboblkadelaaGreatZTH
/- own -/
namespace Go.Proofs.YtagoboblkadelaaGreat
set_option maxRecDepth 20000
set_option maxHeartbeats 4000000
open Go.RowKit
theorem fv {n:Nat} {R A:Nat→Nat→Prop} (hR:∀ x y,R x y→y<n):∀ (t:Fm) (x:Fin n),mfc R A x.1 t↔frc (W:=Fin n) (fun x y=>R x.1 y.1) (fun x p=>A x.1 p) t x
 | .var p,x=>by rw[mfc,frc]
 | .fls,x=>by rw[mfc,frc]
 | .and a c,x=>by rw[mfc,frc,fv hR a x,fv hR c x]
 | .or a c,x=>by rw[mfc,frc,fv hR a x,fv hR c x]
 | .imp a c,x=>by rw[mfc,frc,fv hR a x,fv hR c x]
 | .box a,x=>by
  rw[mfc,frc];exact⟨fun h y hy=>(fv hR a y).1 (h y.1 hy),fun h y hy=>(fv hR a ⟨y,hR _ _ hy⟩).2 (h ⟨y,hR _ _ hy⟩ hy)⟩
 | .dia a,x=>by
  rw[mfc,frc];exact⟨fun ⟨y,hy,hf⟩=>⟨⟨y,hR _ _ hy⟩,hy,(fv hR a ⟨y,hR _ _ hy⟩).1 hf⟩,fun ⟨y,hy,hf⟩=>⟨y.1,hy,(fv hR a y).2 hf⟩⟩
theorem Bd {W:Type} (R:W→W→Prop) (V:W→Nat→Prop) (x:W):∀ (l:List Fm) (a:Fm),frc R V (l.foldl Fm.and a) x↔frc R V a x∧∀ b∈l,frc R V b x
 | [],a=>by simp
 | b::l,a=>by
  rw[List.foldl_cons,Bd R V x l,frc];simp[and_assoc]
theorem DE {W:Type} (R:W→W→Prop) (V:W→Nat→Prop) (x:W):∀ (l:List Fm) (a:Fm),frc R V (l.foldl Fm.or a) x↔frc R V a x∨∃ b∈l,frc R V b x
 | [],a=>by simp
 | b::l,a=>by
  rw[List.foldl_cons,DE R V x l,frc];simp[or_assoc]
theorem F0 {W:Type} (R:W→W→Prop) (V:W→Nat→Prop) (x:W):∀ (l:List Fm),frc R V (zH l) x↔∀ b∈l,frc R V b x
 | []=>by simp[zH,frc]
 | a::l=>by
  unfold zH;rw[Bd]
  simp
theorem F1 {W:Type} (R:W→W→Prop) (V:W→Nat→Prop) (x:W):∀ (l:List Fm),frc R V (zL l) x↔∃ b∈l,frc R V b x
 | []=>by simp[zL,frc]
 | a::l=>by
  unfold zL;rw[DE]
  simp
theorem EZ {L:Nat} {A B:List Fm} (h:dB L A B) {W:Type} {R:W→W→Prop} (V:W→Nat→Prop) (hF:FrC L R) (x:W):frc R V (sqF A B) x:=by
 unfold sqF;rw[frc];intro hA;exact(F1 R V x B).2 (h W R V hF x ((F0 R V x A).1 hA))
def gh (b:List Nat) (x y:Fin b.length):Prop:=(b.getD x.1 0).testBit y.1=true
instance (b:List Nat) (x y:Fin b.length):Decidable (gh b x y):=by unfold gh;infer_instance
theorem GI {L:Nat} {A B:List Fm} (h:dB L A B) {b vs:List Nat} (hb:Bnd b.length b) (hv:Bnd b.length vs) (hF:FrC L (gh b)):trB b vs (sqF A B)=2^b.length-1:=by
 refine Dl (n:=b.length) (oW hv _) (by have:=Nat.two_pow_pos b.length;omega) fun x hx=>?_
 rw[fy b vs hb _ x hx,Nat.testBit_two_pow_sub_one,decide_eq_true hx];refine iff_of_true ?_ rfl;have h1:=EZ h (fun (x:Fin b.length) p=>(vs.getD p 0).testBit x.1=true) hF ⟨x,hx⟩
 exact(fv (fun x y hy=>by
  apply Decidable.byContradiction;intro hn;have h2:(b.getD x 0).testBit y=false:=Nat.testBit_lt_two_pow (zv (hb x) (Nat.pow_le_pow_right qB qB));rw[h2] at hy
  cases hy) _ ⟨x,hx⟩).2 h1
def fA:List (List Nat):=[[0,0],[0,1],[0,2],[0,3],[1,0],[1,1],[1,2],[1,3],[2,0],[2,1],[2,2],[2,3],[3,0],[3,1],[3,2],[3,3]]
def KL (b:List Nat):Bool:=decide (∀ x:Fin b.length,∃ y,gh b x y)
def EG (b:List Nat):Bool:=decide (∀ x:Fin b.length,gh b x x)
def CW (b:List Nat):Bool:=decide (∀ x y z:Fin b.length,gh b x y→gh b y z→gh b x z)
def KN (b:List Nat):Bool:=decide (∀ x y:Fin b.length,gh b x y→gh b y x)
def Iz (b:List Nat):Bool:=decide (∀ x y z:Fin b.length,gh b x y→gh b x z→gh b y z)
def Im (b:List Nat):Bool:=decide (∀ x y:Fin b.length,gh b x y→∃ z,gh b x z∧¬gh b y z)
def ofR (L:Nat) (b:List Nat):Bool:=
 if L=0 then true else if L=1 then KL b else if L=2 then EG b else if L=3 then CW b else if L=4 then CW b&&EG b else if L=5 then CW b&&Im b else if L=6 then Iz b&&EG b else KN b
theorem Dy {α:Type} {p q:α→Bool} (h:∀ x,p x=true→q x=true):∀ l:List α,(l.filter p).length≤(l.filter q).length
 | []=>by simp
 | x::l=>by
  have ih:=Dy h l
  by_cases hp:p x=true
  ·rw[List.filter_cons_of_pos hp,List.filter_cons_of_pos (h x hp),zh,zh];omega
  ·rw[List.filter_cons_of_neg hp]
   by_cases hq:q x=true
   ·rw[List.filter_cons_of_pos hq,zh];omega
   ·rw[List.filter_cons_of_neg hq];exact ih
theorem Dz {α:Type} {p q:α→Bool} (h:∀ x,p x=true→q x=true) {z:α} (hq:q z=true) (hp:¬p z=true):∀ l:List α,z∈l→(l.filter p).length<(l.filter q).length
 | [],hz=>by simp at hz
 | x :: l,hz=>by
  rcases List.mem_cons.1 hz with rfl | hz
  ·rw[List.filter_cons_of_neg hp,List.filter_cons_of_pos hq,zh]
   have:=Dy h l;omega
  ·have ih:=Dz h hq hp l hz
   by_cases eE:p x=true
   ·rw[List.filter_cons_of_pos eE,List.filter_cons_of_pos (h x eE),zh,zh];omega
   ·rw[List.filter_cons_of_neg eE]
    by_cases h9:q x=true
    ·rw[List.filter_cons_of_pos h9,zh];omega
    ·rw[List.filter_cons_of_neg h9];exact ih
theorem G1 (b:List Nat) (ht:CW b=true) (ha:Im b=true):WellFounded fun x y:Fin b.length=>gh b y x:=by
 have x6:=of_decide_eq_true ht;have h9:=of_decide_eq_true ha
 let f:Fin b.length→Nat:=fun x=>((List.finRange b.length).filter fun y=>decide (gh b x y)).length
 refine Subrelation.wf (r:=InvImage (· < ·) f) ?_ (InvImage.wf f Nat.lt_wfRel.wf);intro x y eE;obtain⟨z,hz,hn⟩:=h9 y x eE;exact Dz (fun u hu=>decide_eq_true (x6 y x u eE (of_decide_eq_true hu))) (decide_eq_true hz) (fun h=>hn (of_decide_eq_true h)) _ (List.mem_finRange z)
theorem Gv {L:Nat} (hL:L<8) {b:List Nat} (h:ofR L b=true):FrC L (gh b):=by
 have eE:∀ x y z:Fin b.length,Iz b=true→gh b x y→gh b x z→gh b y z:=fun x y z he=>of_decide_eq_true he x y z
 unfold ofR at h
 match L,hL with
 | 0,_=>exact⟨fun h=>by omega,fun h=>by omega,fun h=>by omega,fun h=>by omega,fun h=>by omega⟩
 | 1,_=>exact⟨fun _=>of_decide_eq_true h,fun h=>by omega,fun h=>by omega,fun h=>by omega,fun h=>by omega⟩
 | 2,_=>exact⟨fun h=>by omega,fun _=>of_decide_eq_true h,fun h=>by omega,fun h=>by omega,fun h=>by omega⟩
 | 3,_=>exact⟨fun h=>by omega,fun h=>by omega,fun _=>of_decide_eq_true h,fun h=>by omega,fun h=>by omega⟩
 | 4,_=>
  have h2:=(zk _ _▸h:CW b=true∧EG b=true);exact⟨fun h=>by omega,fun _=>of_decide_eq_true h2.2,fun _=>of_decide_eq_true h2.1,fun h=>by omega,fun h=>by omega⟩
 | 5,_=>
  have h2:=(zk _ _▸h:CW b=true∧Im b=true);exact⟨fun h=>by omega,fun h=>by omega,fun _=>of_decide_eq_true h2.1,fun _=>G1 b h2.1 h2.2,fun h=>by omega⟩
 | 6,_=>
  have h2:=(zk _ _▸h:Iz b=true∧EG b=true)
  have hr:∀ x:Fin b.length,gh b x x:=of_decide_eq_true h2.2
  have hs:∀ x y:Fin b.length,gh b x y→gh b y x:=fun x y h9=>eE x y x h2.1 h9 (hr x)
  exact⟨fun h=>by omega,fun _=>hr,fun _ x y z h1 h3=>eE y x z h2.1 (hs x y h1) h3,fun h=>by omega,fun _=>hs⟩
 | 7,_=>exact⟨fun h=>by omega,fun h=>by omega,fun h=>by omega,fun h=>by omega,fun _=>of_decide_eq_true h⟩
def zT (b:List Nat) (s:ByteArray):Bool:=if bts s=[52] then iA b else if bts s=[53] then Dw b else if bts s=[68] then E0 b else if bts s=[84] then sU b else iA b&&xl b
theorem IV:∀ L:Fin 7,∀ b∈fA,(axK L.1).all (zT b)=true→ofR L.1 b=true:=by decide +kernel
theorem rl:∀ b∈fA,b.length=2∧∀ x∈b,x<4:=qC
theorem BL {b:List Nat} (h:b∈fA):Bnd b.length b:=mQ fun x hx=>by
 obtain⟨h1,h2⟩:=rl b h;rw[h1];exact h2 x hx
theorem Fa {x y:Nat} (hx:x<4) (hy:y<4):[x,y]∈fA:=by
 have:∀ x:Fin 4,∀ y:Fin 4,[x.1,y.1]∈fA:=qC
 exact this ⟨x,hx⟩ ⟨y,hy⟩
theorem F5 (b:List Nat) (s:ByteArray) (hs:s=⟨#[52]⟩∨s=⟨#[53]⟩∨s=⟨#[68]⟩∨s=⟨#[84]⟩∨s=⟨#[76]⟩) (v:Value) (w:World) (hv:aV w v (zs b)) (hb:b.length≤8) (eE:Bnd b.length b):
  Calls Tryz.prog 183 #[.agg #[.int .i64 b.length,v],.string s] w fun e w'=>e=.returned (.bool (zT b s))∧aa w w':=by
 rcases hs with rfl | rfl | rfl | rfl | rfl
 ·exact ou b v w hv hb eE
 ·exact ot b v w hv hb eE
 ·exact qo b v w hv hb eE
 ·exact qn b v w hv hb eE
 ·exact ow b v w hv hb eE
theorem BU:∀ (L:Nat),L<7→∀ s∈axK L,s=⟨#[52]⟩∨s=⟨#[53]⟩∨s=⟨#[68]⟩∨s=⟨#[84]⟩∨s=⟨#[76]⟩:=fun L hL s hs=>by
 match L,hL with
 | 0,_=>simp[axK] at hs
 | 1,_=>simp[axK] at hs;simp[hs]
 | 2,_=>simp[axK] at hs;simp[hs]
 | 3,_=>simp[axK] at hs;simp[hs]
 | 4,_=>simp[axK] at hs;rcases hs with rfl | rfl<;>simp
 | 5,_=>simp[axK] at hs;simp[hs]
 | 6,_=>simp[axK] at hs;rcases hs with rfl | rfl<;>simp
theorem FI (L:Nat) (hL:L<7) (w:World):Calls Tryz.prog 137 #[.string (lgS L)] w fun e w'=>(∃ v,e=.returned v∧au w' v (axK L))∧aa w w':=by
 match L,hL with
 | 0,_=>exact sk w
 | 1,_=>exact sn w
 | 2,_=>exact so w
 | 3,_=>exact su w
 | 4,_=>exact sw w
 | 5,_=>exact sA w
 | 6,_=>exact sB w
theorem Cl (L:Nat) (hL:L<7) (b:List Nat) (hb:b∈fA) (v:Value) (w:World) (hv:aV w v (zs b)):
  Calls Tryz.prog 89 #[.agg #[.int .i64 b.length,v],.string (lgS L)] w fun e w'=>e=.returned (.bool ((axK L).all (zT b)))∧aa w w':=by
 have HA:=hid (fun wz=>FI L hL wz);have HE:=hid (fun vs wz (kz:aa w wz) (hs:au wz vs (axK L))=>yi b (zT b) (axK L) v vs wz (hv.keeps kz) hs (fun s hs wy ky=>F5 b s (BU L hL s hs) v wy (hv.keeps (kz.trans ky)) (by rw[(rl b hb).1];omega) (BL hb)));generalize (axK L).all (zT b)=R at*;obtain⟨p,cap,rfl,_⟩:=hv;rw[af b] at*;have kA:=(aa.refl w).alloc (.cells #[.int .i64 b.length,.slice p b.length cap] 41);obtain⟨c0,c1⟩:=jf.made w b.length (.slice p b.length cap) 41;generalize b.length=n at*;generalize lgS L=lg at*;go_enter Tryz.func89,Tryz.ntmps89
 go_upto_region 1 with fail
 generalize w.alloc (.cells #[.int .i64 (n:Int),.slice p n cap] 41)=w1 at*;have HC:=hid (fun W (kW:aa w1 W)=>(show W.cell? ⟨w.heap.size,0,none⟩=some (.int .i64 (n:Int))∧W.cell? ⟨w.heap.size,1,none⟩=some (.slice p n cap) from⟨kW.cell c0,kW.cell c1⟩))
 go_region_held3 (fun W=>W.cell? ⟨w.heap.size,0,none⟩=some (.int .i64 (n:Int))∧W.cell? ⟨w.heap.size,1,none⟩=some (.slice p n cap)) (first | (refine HC.out _ ?_;(with_reducible (repeat (first | exact aa.refl _ | exact k3 | exact k2 | refine aa.alloc ?_ _ | refine aa.drew ?_)));done)) (first
  | (go_at_call 137;refine(HA.out _).mono ?_;rintro e w2 ⟨⟨va,rfl,eE⟩,k2'⟩;have k2:aa w1 w2:=aa.trans (by with_reducible (repeat (first | exact aa.refl _ | refine aa.drew ?_))) k2';obtain⟨pa,ca,rfl,_⟩:=eE.shape)
  | (go_at_call 136;refine(HE.out _ _ (kA.trans k2) eE).mono ?_;rintro e w3 ⟨rfl,k3'⟩;have k3:aa w1 w3:=k2.trans k3'))
 go_wp2_with fail;go_ret;exact⟨rfl,kA.trans k3⟩
def Jh (w:World) (a:List Int) (e:Ending) (w':World):Prop:=∃ v,e=.returned (.agg #[.int .i64 a.length,v])∧aI w' w.heap.size v a∧aa w w'
theorem vW (a:List Int) (v:Value) (w:World) (hv:aV w v a):Calls Tryz.prog 135 #[v] w (Jh w a):=by
 have x9:=hv;obtain⟨p,cap,rfl,H8,x8,hr,eE⟩:=hv;unfold maxLen at x8;have k1:=(aa.refl w).alloc (.cells #[.int .i64 0,.slice none 0 0] 41);go_enter Tryz.func135,Tryz.ntmps135;go_wp2_with fail;refine(fK a _ _ (x9.keeps k1)).mono ?_;rintro e w2 ⟨v2,rfl,x6,k2⟩;obtain⟨p2,c2,rfl,_⟩:=x6.ints eE;obtain⟨x7,H7⟩:=k2.both;go_wp2_with fail;refine bodyPost_ret (v:=.agg #[.int .i64 a.length,.slice p2 a.length c2]) (by simp[results,Tryz.results135,go_sem,x7]) rfl ?_
 have h9:w.heap.size<(w.alloc (.cells #[.int .i64 0,.slice none 0 0] 41)).heap.size:=by simp
 exact⟨_,rfl,((x6.setBelow h9 _).setBelow h9 _).mono qD,((k1.trans k2).setCell (zm _) _).setCell (zm _) _⟩
theorem Jn (x:Int):∃ r:Nat,bits .and .i64 x 3=(r:Int)∧r<4:=by
 refine⟨(BitVec.ofInt 64 x &&& BitVec.ofInt 64 3).toNat,?_,?_⟩
 ·show IntKind.i64.wrap ((BitVec.ofInt 64 x &&& BitVec.ofInt 64 3).toNat:Int)=_
  have h1:(BitVec.ofInt 64 x &&& BitVec.ofInt 64 3).toNat≤3:=by
   rw[BitVec.toNat_and];exact zx Nat.and_le_right qC
  generalize (BitVec.ofInt 64 x &&& BitVec.ofInt 64 3).toNat=k at h1 ⊢;simp[IntKind.wrap,IntKind.bits,IntKind.signed];omega
 ·rw[BitVec.toNat_and]
  exact Nat.lt_of_le_of_lt Nat.and_le_right qC
theorem Cn:∀ x y:Fin 4,(oz [x.1,y.1]).length=2:=by decide +kernel
theorem Dk (w:World) (u:Value) (E:TypeId) (x y:Nat):At (w.alloc (.cells #[.int .i64 2,u] E)) (some ⟨w.heap.size,0,none⟩) (bB [[x,y]] [u]):=At.ps1 (x:=[x,y])
theorem tB (w:World):Calls Tryz.prog 88 #[.int .i64 2] w fun e w'=>∃ v xs,e=.returned (.tuple #[v,.int .i64 0])∧fF w' w.heap.size v xs∧xs.length≤16∧(∀ b∈xs,b∈fA)∧aa w w':=by
 have HI:=hid (fun wz=>eW 2 0 3 wz);have Lb:inR 2 0 3=true:=qC;rw[Lb] at HI;clear Lb;have H1:=hid (fun wz=>mf 4 wz qB qB);have H2:=hid (fun wz=>xZ 2 wz qB qB);rw[show(2:Int)^(4:Int).toNat=16 from rfl] at H1;rw[show(2:Int)^(2:Int).toNat-1=3 from rfl] at H2;go_enter Tryz.func88,Tryz.ntmps88;go_wp2_with fail;refine(HI.out w).mono ?_;rintro e w' ⟨rfl,rfl⟩;have hE:=fF.empty w;have kE:=(aa.refl w).alloc (.cells #[] 41);go_wp2_with fail
 go_loopw [5,4] (fun i' v' wr=>∃ i:Nat,i≤16∧i'=.int .i64 i∧(∃ xs,fF wr w.heap.size v' xs∧xs.length≤i∧∀ b∈xs,b∈fA)∧aa w wr) (fun i' _ _=>16-(intOf i').toNat)
 case atStart=>exact⟨0,qB,rfl,⟨[],hE,qD,fun b hb=>by cases hb⟩,kE⟩
 case round=>
  obtain⟨i,hi,rfl,⟨xs,KZ,hl,H8⟩,kr⟩:=hrel;clear hE kE;obtain⟨px,cx,rfl,Lp,Lm⟩:=KZ.shape;unfold maxLen at Lm;have KS:=hid KZ;have h9:=hid H8;have H9:=hid kr;clear KZ H8 kr;go_wp2_with fail;refine(H1.out wr).mono ?_;rintro e w' ⟨rfl,rfl⟩
  by_cases Lq:i<16
  ·have KT:(i:Int)<16:=qB
   go_wp2_with fail;have kA:=(aa.refl wr).alloc (.cells #[] 2);have hA:aI (wr.alloc (.cells #[] 2)) wr.heap.size (.slice (some ⟨wr.heap.size,0,none⟩) 0 0) (zs []):=aI.empty wr;have Lr:=H9.out.size;generalize wr=wo at*
   go_loopw [7,6] (fun j' a' wr=>∃ j:Nat,j≤2∧j'=.int .i64 (1-(j:Int))∧(∃ l:List Nat,aI wr wo.heap.size a' (zs l)∧l.length=j∧∀ x∈l,x<4)∧aa wo wr) (fun j' _ _=>(intOf j'+1).toNat)
   case atStart=>exact⟨0,qB,rfl,⟨[],hA,rfl,fun x hx=>by cases hx⟩,kA⟩
   case round=>
    obtain⟨j,hj,rfl,⟨l,KP,x6,Lc⟩,kr⟩:=hrel;clear hA kA;obtain⟨pa,ca,rfl,-,-,-⟩:=At.of_own KP
    have Le:(zs l).length=j:=by rw[af,x6]
    rw[Le] at KP ⊢;clear Le;have x8:=hid KP;have eE:=hid Lc;have Lo:=kr.size;have HK:=hid kr;clear KP Lc kr;have Lk:j=0∨j=1∨j=2:=qB
    rcases Lk with rfl | rfl | rfl
    ·obtain⟨x,hx,KY⟩:=Jn ((i:Int)/4)
     go_wp2_with fail;refine(H2.out _).mono ?_;rintro e w' ⟨rfl,rfl⟩
     go_wp2_with (at_builtin;(refine mw rfl (.tmp 27) (.tmp 37) rfl wo.heap.size _ (zs l) rfl (by exact x8.out.keeps (by with_reducible (repeat (first | exact aa.refl _ | refine aa.alloc ?_ _ | refine aa.drew ?_)))) _ [(x:Int)] rfl (by exact aV.lit1 _ _) (by rw[World.size_alloc];omega) (by rw[af,x6];simp) ?_;intro v3 w3 h3 g3 b3))
     have k3:aa wo w3:=aa.grown ((HK.out).alloc _) g3 b3
     have h4:aI w3 wo.heap.size v3 (zs (l++[x])):=by
      rw[fD];exact h3
     have HF:=hid (show ∃ l':List Nat,aI w3 wo.heap.size v3 (zs l')∧l'.length=0+1∧∀ x∈l',x<4 from⟨l++[x],h4,by simp[x6],fun y hy=>by
      rcases List.mem_append.1 hy with hy | hy
      ·exact eE.out y hy
      ·rw[List.mem_singleton.1 hy];exact KY⟩)
     clear h3 g3 b3 h4 hx;go_wp2_with fail;go_roundw
     case rel=>exact⟨0+1,qB,qD,HF.out,k3⟩
     case measure=>simp[intOf]
    ·obtain⟨x,hx,KY⟩:=Jn ((i:Int))
     go_wp2_with fail;refine(H2.out _).mono ?_;rintro e w' ⟨rfl,rfl⟩
     go_wp2_with (at_builtin;refine mw rfl (.tmp 27) (.tmp 37) rfl wo.heap.size _ (zs l) rfl (by exact x8.out.keeps (by with_reducible (repeat (first | exact aa.refl _ | refine aa.alloc ?_ _ | refine aa.drew ?_)))) _ [(x:Int)] rfl (by exact aV.lit1 _ _) (by rw[World.size_alloc];omega) (by rw[af,x6];simp) ?_;intro v3 w3 h3 g3 b3)
     have k3:aa wo w3:=aa.grown ((HK.out).alloc _) g3 b3
     have h4:aI w3 wo.heap.size v3 (zs (l++[x])):=by
      rw[fD];exact h3
     have HF:=hid (show ∃ l':List Nat,aI w3 wo.heap.size v3 (zs l')∧l'.length=1+1∧∀ x∈l',x<4 from⟨l++[x],h4,by simp[x6],fun y hy=>by
      rcases List.mem_append.1 hy with hy | hy
      ·exact eE.out y hy
      ·rw[List.mem_singleton.1 hy];exact KY⟩)
     clear h3 g3 b3 h4 hx;go_wp2_with fail;go_roundw
     case rel=>exact⟨1+1,qB,qD,HF.out,k3⟩
     case measure=>simp[intOf]
    ·have Ll:∃ x y:Nat,l=[x,y]:=by
      match l,x6 with
      | [x,y],_=>exact⟨x,y,rfl⟩
     obtain⟨x,y,rfl⟩:=Ll;go_wp2_with fail;have K0:=hid (vU [x,y] _ wr (x8.out.ints (by rw[af];simp)) qD (BL (Fa (eE.out x qD) (eE.out y qD))));have Lj:=hid (Fa (eE.out x qD) (eE.out y qD));have x9:(oz [x,y]).length=2:=Cn ⟨x,eE.out x qD⟩ ⟨y,eE.out y qD⟩;generalize oz [x,y]=lp at*;have KR:=hid (x8.out.ints (by rw[af];simp));have HZ:Hid (w.heap.size≤wr.heap.size):=hid qB;have H7:=hid x9;clear x9;refine K0.out.mono ?_;rintro e w4 ⟨v4,rfl,KU,k4⟩;have La:=hid (vO lp [x,y] _ _ w4 (KU.ints (by rw[af,H7.out];omega)) (KR.out.keeps k4));obtain⟨p4,c4,rfl,-,-,-⟩:=At.of_own KU;rw[show(zs lp).length=2 by rw[af];exact H7.out] at*;have Lh:Hid (∀ wz,aa w4 wz→Calls Tryz.prog 135 #[.slice pa 2 ca] wz (fun e w'=>∃ v,e=.returned (.agg #[.int .i64 2,v])∧aI w' wz.heap.size v (zs [x,y])∧aa wz w')):=hid (fun wz kz=>(vW (zs [x,y]) _ wz ((KR.out.keeps k4).keeps kz)).mono (fun e w' ⟨v,e1,e2,e3⟩=>⟨v,e1,e2,e3⟩));have Lf:=hid (H9.out.trans (HK.out.trans k4));have Ln:=k4.size;have x7:=hid (HK.out.trans k4);clear K0 KU k4 KR x8 eE;go_wp2_with fail;refine La.out.mono ?_;rintro e w5 ⟨rfl,k5⟩;clear La
     cases hbq:(lp==[x,y])
     ·have Lg:=hid (Lf.out.trans k5)
      have hF:=hid (show ∃ xs':List (List Nat),fF w5 w.heap.size (.slice px xs.length cx) xs'∧xs'.length≤i+1∧∀ b∈xs',b∈fA from⟨xs,KS.out.keeps (x7.out.trans k5),qB,h9.out⟩);clear hbq;go_wp2_with fail;go_roundw
      case rel=>exact⟨i+1,qB,by go_num,hF.out,Lg.out⟩
      case measure=>simp[intOf];omega
     ·clear hbq
      go_wp2_with fail;refine(Lh.out w5 k5).mono ?_;rintro e w6 ⟨v6,rfl,KV,k6⟩;obtain⟨p6,c6,rfl,-,-,-⟩:=At.of_own KV;rw[show(zs [x,y]).length=2 from rfl] at*;have Ls:=k5.size;have Lt:=k6.size;have Ld:aI w6 w.heap.size (.slice p6 2 c6) (zs [x,y]):=KV.mono (by have:=HZ.out;omega);have Li:=hid Ld;have K56:=hid (x7.out.trans (k5.trans k6));clear KV Ld
      go_wp2_with (at_builtin;refine Jt rfl (.tmp 43) (.tmp 46) rfl w.heap.size _ xs rfl wo KS.out (by exact K56.out.alloc _) [.slice p6 2 c6] [[x,y]] (by exact bT.one (Li.out.keeps (by with_reducible (repeat (first | exact aa.refl _ | refine aa.alloc ?_ _ | refine aa.drew ?_))))) (by rw[World.size_alloc];have:=HZ.out;omega) _ _ rfl (by exact Dk _ _ _ _ _) (by simp;omega) ?_;intro v8 w8 h8 g8 b8)
      have k8:aa w w8:=aa.grown ((H9.out.trans K56.out).alloc _) g8 b8
      have hF:=hid (show ∃ xs':List (List Nat),fF w8 w.heap.size v8 xs'∧xs'.length≤i+1∧∀ b∈xs',b∈fA from⟨xs++[[x,y]],h8,by simp;omega,fun b hb=>by
       rcases List.mem_append.1 hb with hb | hb
       ·exact h9.out b hb
       ·rw[List.mem_singleton.1 hb];exact Lj.out⟩)
      clear h8 g8 b8;go_wp2_with fail;go_roundw
      case rel=>exact⟨i+1,qB,by go_num,hF.out,k8⟩
      case measure=>simp[intOf];omega
  ·have KT:¬(i:Int)<16:=qB
   go_wp2_with fail
   go_ret2
   exact⟨_,xs,rfl,KS.out,qB,h9.out,H9.out⟩
def Jg (L:Nat) (w:World) (e:Ending) (w':World):Prop:=∃ v xs,e=.returned v∧dI w' w.heap.size v xs∧xs.length≤16∧(∀ b∈xs,b∈fA∧ofR L b=true)∧aa w w'
theorem tU (L:Nat) (hL:L<7) (w:World):Calls Tryz.prog 48 #[.string (lgS L),.int .i64 2] w (Jg L w):=by
 have HO:=hid (fun b (hb:b∈fA) vz wz (hz:aV wz vz (zs b))=>Cl L hL b hb vz wz hz);have HT:=hid (fun b (hb:b∈fA) (h:(axK L).all (zT b)=true)=>IV ⟨L,hL⟩ b hb h);have K0:=hid (fun wz=>tB wz)
 obtain⟨Q,hQ⟩:∃ Q:List Nat→Bool,∀ b,Q b=(axK L).all (zT b):=⟨_,fun _=>rfl⟩
 simp only[←hQ] at HO HT;clear hQ;generalize lgS L=lg at*;go_enter Tryz.func48,Tryz.ntmps48;go_wp2_with fail;refine(K0.out w).mono ?_;rintro e w1 ⟨v1,xs,rfl,KP,Lq,KV,k1⟩;obtain⟨px,cx,rfl,Lp,Lj⟩:=KP.shape;unfold maxLen at Lj;have hE:=dI.empty w1;have kE:=(aa.refl w1).alloc (.cells #[] 41);have Lh:=hid KP;have Lg:=hid KV;have Ll:=k1.size;have Lb:=hid k1;clear KP KV k1;go_wp2_with fail
 go_loopw [8,7] (fun i' v' wr=>∃ i:Nat,i≤xs.length∧i'=.int .i64 i∧(∃ ys,dI wr w1.heap.size v' ys∧ys.length≤i∧∀ b∈ys,b∈fA∧ofR L b=true)∧aa w1 wr) (fun i' _ _=>xs.length-(intOf i').toNat)
 case atStart=>exact⟨0,qB,rfl,⟨[],hE,qD,fun b hb=>by cases hb⟩,kE⟩
 case round=>
  obtain⟨i,hi,rfl,⟨ys,KR,Lr,KY⟩,kr⟩:=hrel;clear hE kE;obtain⟨py,cy,rfl,Li,Lk⟩:=KR.shape;unfold maxLen at Lk;have H7:=hid KR;have x9:=hid KY;clear KR KY
  by_cases KT:i<xs.length
  ·have H8:(i:Int)<xs.length:=qB
   obtain⟨b1,o1,u,rfl,c0,c1,H9⟩:=(Lh.out.keeps kr).get i KT;have x6:=Lg.out _ (zo KT);have eE:=(rl _ x6).1;have La:=hid x6;generalize xs[i]=b at*;have h9:=H9.ints (by rw[af,eE];omega);obtain⟨pu,cu,rfl,-⟩:=id h9;have x7:=hid (HO.out b x6 _ wr h9);have Lf:=hid (HT.out b x6);have x8:=hid H9;have Ld:=hid eE
   have KZ:(zs b).length=2:=by rw[af,eE]
   rw[KZ] at c1 x7 x8;rw[eE,show((2:Nat):Int)=2 from rfl] at c0 x7;clear KZ;have Lc:=hid kr;have Lm:=kr.size;clear H9 h9 x6 kr eE;generalize Q b=q at*;go_wp2_with fail;refine x7.out.mono ?_;rintro e w2 ⟨rfl,k2⟩;clear x7;have KS:=hid (Lc.out.trans k2)
   cases q
   ·have hF:=hid (show ∃ ys':List (List Nat),dI w2 w1.heap.size (.slice py ys.length cy) ys'∧ys'.length≤i+1∧∀ b∈ys',b∈fA∧ofR L b=true from⟨ys,H7.out.keeps k2,qB,x9.out⟩)
    go_wp2_with fail;go_roundw
    case rel=>exact⟨i+1,qB,by go_num,hF.out,KS.out⟩
    case measure=>simp[intOf];omega
   ·have Ln:=k2.cell c0
    have Lo:=k2.cell c1;have Ls:=k2.size;have KU:=(x8.out.keeps k2)
    obtain⟨x,y,rfl⟩:∃ x y:Nat,b=[x,y]:=by
     have h2:=Ld.out
     match b,h2 with
     | [x,y],_=>exact⟨x,y,rfl⟩
    have Le:=hid KU;have K2:=hid k2;clear KU k2 c0 c1 x8
    go_wp2_with (at_builtin;refine Js rfl (.tmp 27) (.tmp 32) rfl w1.heap.size _ ys rfl wr H7.out (by exact K2.out.alloc _) [.slice pu 2 cu] [[x,y]] (by exact bT.one ((Le.out.mono (Nat.zero_le _)).keeps (by with_reducible (repeat (first | exact aa.refl _ | refine aa.alloc ?_ _ | refine aa.drew ?_))))) (by rw[World.size_alloc];omega) _ _ rfl (by exact Dk _ _ _ _ _) (by simp;omega) ?_;intro v8 w8 h8 g8 b8)
    have k8:aa w1 w8:=aa.grown (KS.out.alloc _) g8 b8
    have hF:=hid (show ∃ ys':List (List Nat),dI w8 w1.heap.size v8 ys'∧ys'.length≤i+1∧∀ b∈ys',b∈fA∧ofR L b=true from⟨ys++[[x,y]],h8,by simp;omega,fun b hb=>by
     rcases List.mem_append.1 hb with hb | hb
     ·exact x9.out b hb
     ·rw[List.mem_singleton.1 hb];exact⟨La.out,Lf.out (by trivial)⟩⟩)
    clear h8 g8 b8;go_wp2_with fail;go_roundw
    case rel=>exact⟨i+1,qB,by go_num,hF.out,k8⟩
    case measure=>simp[intOf];omega
  ·have H8:¬(i:Int)<xs.length:=qB
   go_wp2_with fail;go_ret;exact⟨_,ys,rfl,H7.out.mono Ll,qB,x9.out,Lb.out.trans kr⟩
def Ci:Nat→Nat
 | 0=>4
 | 1=>0
 | 2=>13
 | 3=>5
 | 4=>9
 | 5=>2
 | _=>12
theorem JJ:∀ L:Fin 7,∃ h:Ci L.1<dy.length,bts (dy[Ci L.1])=bts (lgS L.1)∧∀ j (hj:j<dy.length),j<Ci L.1→bts dy[j]≠bts (lgS L.1):=qC
def C9 (L:Nat) (w:World) (e:Ending) (w':World):Prop:=∃ v xs,e=.returned (.tuple #[v,.int .i64 0])∧dI w' w.heap.size v xs∧xs.length≤16∧(∀ b∈xs,b∈fA∧ofR L b=true)∧aa w w'
theorem vw (L:Nat) (hL:L<7) (w:World):Calls Tryz.prog 18 #[.string (lgS L),.int .i64 2] w (C9 L w):=by
 have HF:=hid (fun wz=>tU L hL wz);have h9:=hid (fun wz=>cX wz)
 have eE:=hid (fun p wz (h:au wz (.slice p 16 16) dy)=>by
  obtain⟨h1,h2,h3⟩:=JJ ⟨L,hL⟩
  exact eh dy (lgS L) (Ci L) h1 (da h2) h3 _ wz h)
 have HI:=hid (fun wz=>eW 2 0 3 wz);have x6:inR 2 0 3=true:=qC;rw[x6] at HI;clear x6;have x8:¬((Ci L:Nat):Int)<0:=qB;generalize Ci L=k at*;generalize lgS L=lg at*;go_enter Tryz.func18,Tryz.ntmps18;go_wp2_with fail;refine(h9.out w).mono ?_;rintro e w1 ⟨⟨p,rfl,hn⟩,k1⟩;have H1:=hid (eE.out p w1 hn);have x7:=hid k1;have hz:=k1.size;clear h9 eE hn k1;go_wp2_with fail;refine H1.out.mono ?_;rintro e w' ⟨rfl,rfl⟩;go_wp2_with fail;refine(HI.out _).mono ?_;rintro e w' ⟨rfl,rfl⟩;go_wp2_with fail;refine(HF.out _).mono ?_;rintro e w2 ⟨v,xs,rfl,h1,h2,h3,k2⟩;have HR:=hid (show C9 L w (.returned (.tuple #[v,.int .i64 0])) w2 from⟨v,xs,rfl,h1.mono hz,h2,h3,x7.out.trans k2⟩);obtain⟨p2,c2,rfl,-⟩:=h1.shape;clear h1 h3 k2;go_wp2_with fail
 go_ret2
 exact HR.out
theorem BM:∀ b∈([[0,0],[0,1],[0,2],[0,3],[1,0],[1,1],[1,2],[1,3],[2,0],[2,1],[2,2],[2,3],[3,0],[3,1],[3,2],[3,3]]:List (List Nat)),Bl 2 (zs b)=true∧b.length=2∧∀ x∈b,x<4:=qC
theorem qy (b:List Nat) (hb:b∈fA) (t:Fm) (hw:t.wf) (hf:AV [t.enc]=true) (pv v:Value) (w:World) (h9:aV w pv (zs b)) (hv:bW w v [t.enc]):
  Calls Tryz.prog 49 #[.agg #[.int .i64 2,pv],v] w fun e w'=>e=.returned (.int .i64 0)∧aa w w':=by
 obtain⟨h1,h2,h3⟩:=BM b hb;have kA:=(aa.refl w).alloc (.cells #[.int .i64 2,pv] 41);obtain⟨c0,c1⟩:=jf.made w 2 pv 41;have HF:=hid (fun wz (kz:aa w wz)=>pJ 2 (zs b) pv wz (h9.keeps kz));rw[h1] at HF;have HA:=hid (fun wz (kz:aa w wz)=>pY [t.enc] v wz (hv.keeps kz));rw[hf] at HA;have eE:=hid (fun wz (kz:aa w wz)=>jQ [t.enc] v wz (hv.keeps kz) (fun x hx=>by rw[List.mem_singleton.1 hx];exact List.all_eq_true.2 (mX hw)));rw[y7] at eE
 have x9:(zs (lR t)).length≤6:=by
  rw[af];have:=List.length_filter_le (fun j=>(vm t.enc).testBit j) (List.range 6);unfold lR tZ
  simpa using this
 have x7:(zs b).length=2:=by rw[af,h2]
 obtain⟨pq,cq,epv,-⟩:=h9;rw[x7] at epv;subst epv;obtain⟨pv',cv',rfl,-⟩:=hv;clear h1 h2 h3 x7 hf hw;generalize zs (lR t)=V at*;go_enter Tryz.func49,Tryz.ntmps49;go_wp2_with fail;refine(HF.out _ kA).mono ?_;rintro e w2 ⟨rfl,k2⟩;have K2:=hid (kA.trans k2);have d0:=k2.cell c0;have d1:=k2.cell c1;clear c0 c1 k2 kA;go_wp2_with fail;refine(HA.out _ K2.out).mono ?_;rintro e w3 ⟨rfl,k3⟩;have K3:=hid (K2.out.trans k3);have e0:=k3.cell d0;have e1:=k3.cell d1;clear d0 d1 k3 K2;go_wp2_with fail;have HC:=hid (fun W (kW:aa w3 W)=>(show W.cell? ⟨w.heap.size,0,none⟩=some (.int .i64 2)∧W.cell? ⟨w.heap.size,1,none⟩=some (.slice pq 2 cq) from⟨kW.cell e0,kW.cell e1⟩))
 go_region_held3 (fun W=>W.cell? ⟨w.heap.size,0,none⟩=some (.int .i64 2)∧W.cell? ⟨w.heap.size,1,none⟩=some (.slice pq 2 cq)) (first | (refine HC.out _ ?_;(with_reducible (repeat (first | exact aa.refl _ | exact k4 | refine aa.drew ?_)));done)) (first
  | (go_at_call 91;refine(eE.out _ (K3.out.trans (by with_reducible (repeat (first | exact aa.refl _ | refine aa.drew ?_))))).mono ?_;rintro e w4 ⟨vV,rfl,x6,k4'⟩;have k4:aa w3 w4:=aa.trans (by with_reducible (repeat (first | exact aa.refl _ | refine aa.drew ?_))) k4';have x8:=x6.ints qB;obtain⟨pvv,qvv,rfl,-,-,-⟩:=At.of_own x6)
  | (go_at_call 67;refine(iX V _ w4 x8).mono ?_;rintro e w' ⟨rfl,rfl⟩))
 have hm:IntKind.i64.wrap (2*(V.length:Int))=2*(V.length:Int):=by simp[IntKind.wrap,IntKind.bits,IntKind.signed];omega
 have hg:decide (16<IntKind.i64.wrap (2*(V.length:Int)))=false:=by rw[hm];exact decide_eq_false qB
 have hR:=hid (K3.out.trans k4);simp only[hg];go_wp2_with fail;go_ret;exact⟨rfl,hR.out⟩
theorem rX (b:List Nat) (hb:b∈fA) (t:Fm) (hw:t.wf) (hN:t.enc.length≤40) (hT:∀ vs,Bnd 2 vs→vs.length=6→trB b vs t=3) (pv v:Value) (w:World) (h9:aV w pv (zs b)) (hv:Nds w v t.enc):
  Calls Tryz.prog 19 #[.agg #[.int .i64 2,pv],v] w fun e w'=>e=.returned (.tuple #[.bool true,.int .i64 0])∧aa w w':=by
 obtain⟨h1,h2,h3⟩:=BM b hb
 have x7:Bnd 2 b:=mQ fun x hx=>h3 x hx
 have hf:AV [t.enc]=true:=by
  unfold AV qf;rw[List.any_cons,tQ hw,decide_eq_true hN];rfl
 have kA:=(aa.refl w).alloc (.cells #[.int .i64 2,pv] 41);obtain⟨c0,c1⟩:=jf.made w 2 pv 41
 have x8:(zs b).length=2:=by rw[af,h2]
 have eE:=hid (fun wz (kz:aa w wz)=>qy b hb t hw hf pv (.slice (some ⟨wz.heap.size,0,none⟩) 1 1) (wz.alloc (.cells #[v] 50)) (h9.keeps (kz.trans ((aa.refl wz).alloc (.cells #[v] 50)))) (bW.lit1 (hv.keeps kz)));have x9:=hid (fun wz (kz:aa w wz)=>vC b h2 x7 t hw qB hT pv v wz (h9.keeps kz) (hv.keeps kz));obtain⟨pq,cq,epv,-⟩:=h9;rw[x8] at epv;subst epv;obtain⟨pn,cn,rfl,-⟩:=hv;clear h1 h2 h3 x8 hf hw hT x7;generalize t.enc.length=nn at*;have x6:=eE.out _ kA;rw[World.size_alloc] at x6;have eE:=hid x6;clear x6;go_enter Tryz.func19,Tryz.ntmps19;go_wp2_with fail;refine eE.out.mono ?_;rintro e w2 ⟨rfl,k2⟩;have kx:=((aa.refl (w.alloc (.cells #[.int .i64 2,.slice pq 2 cq] 41))).alloc (.cells #[.slice pn nn cn] 50)).trans k2;have K2:=hid (kA.trans kx);have d0:=kx.cell c0;have d1:=kx.cell c1;clear c0 c1 k2 kx kA eE;go_wp2_with fail;refine(x9.out _ K2.out).mono ?_;rintro e w3 ⟨rfl,k3⟩;have hR:=hid (K2.out.trans k3);go_wp2_with fail
 go_ret2
 exact⟨rfl,hR.out⟩
end Go.Proofs.YtagoboblkadelaaGreat
