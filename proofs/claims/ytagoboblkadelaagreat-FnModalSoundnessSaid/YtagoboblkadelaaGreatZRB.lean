import Derived.Test.YtagoboblkadelaaGreatZK8
import Derived.Test.YtagoboblkadelaaGreatZR
import Derived.Test.YtagoboblkadelaaGreatZHF
import Derived.Test.YtagoboblkadelaaGreatZRK
/- own -/
namespace Go.Proofs.YtagoboblkadelaaGreat
set_option maxRecDepth 100000
set_option maxHeartbeats 4000000
section
open Go.RowKit
theorem BW:∀ (m:Fin 64) (i:Fin 7),(bits BinOp.and IntKind.i64 (((m:Nat):Int)/2^(i:Nat)) 1==1)=(m:Nat).testBit i:=by decide +kernel
theorem Er:∀ (m:Fin 64) (s:Fin 6),bits BinOp.or IntKind.i64 ((m:Nat):Int) (2^(s:Nat))=(((m:Nat) ||| 2^(s:Nat):Nat):Int):=by decide +kernel
theorem JZ:∀ (m:Fin 64) (s:Fin 6),(m:Nat) ||| 2^(s:Nat)<64:=by decide +kernel
def vm (a:List Nd):Nat:=a.foldl (fun m n=>if n.k=0 then m ||| 2^n.s.toNat else m) 0
theorem G0 (a:List Nd) (x:Nd):vm (a++[x])=if x.k=0 then vm a ||| 2^x.s.toNat else vm a:=by simp[vm,List.foldl_append]
theorem BP (a:List Nd) (k:Nat) (h:k<a.length):vm (a.take (k+1))=if a[k].k=0 then vm (a.take k) ||| 2^a[k].s.toNat else vm (a.take k):=by
 rw[zq h,G0]
theorem Ep {a:List Nd} (h:a.all dR=true) (k:Nat) (hk:k<a.length) (h0:a[k].k=0):∃ s:Nat,s<6∧a[k].s=s:=by
 have:=List.all_eq_true.1 h a[k] (zo hk);simp[dR,h0] at this;exact⟨a[k].s.toNat,qB,qB⟩
theorem Ii {a:List Nd} (h:a.all dR=true):∀ k,k≤a.length→vm (a.take k)<64:=by
 intro k
 induction k with
 | zero=>intro _;simp[vm]
 | succ k ih=>
  intro hk;have h1:=ih qB;rw[BP a k qB]
  split
  ·rename_i h0
   obtain⟨s,hs,e⟩:=Ep h k qB h0;rw[e];exact JZ ⟨_,h1⟩ ⟨s,hs⟩
  ·exact h1
def low (m i:Nat):List Int:=((List.range i).filter (fun j=>m.testBit j)).map Int.ofNat
def mem (m:Nat):List Int:=low m 6
theorem Eg (m i:Nat):low m (i+1)=if m.testBit i then low m i++[(i:Int)] else low m i:=by
 unfold low;rw[List.range_succ,List.filter_append,List.map_append]
 by_cases h:m.testBit i<;>simp[h]
theorem Gk (m:Nat):∀ i,(low m i).length≤i:=by
 intro i;unfold low;rw[List.length_map];exact zx (List.length_filter_le _ _) qD
theorem Gj:∀ (m:Fin 64) (i:Fin 7),(m:Nat)/2^(i:Nat)=0→low m i=mem m:=by decide +kernel
theorem B4:∀ (m:Fin 64),(m:Nat)/2^6=0:=by decide +kernel
theorem F3 (m i:Nat) (w:World) (hm:m<64) (hi:i≤6):Calls Tryz.prog 167 #[.int .i64 m,.int .i64 i] w fun e w'=>e=.returned (.bool (m.testBit i))∧w=w':=by
 go_enter Tryz.func167,Tryz.ntmps167;go_wp2;go_ret;exact⟨ab (BW ⟨m,hm⟩ ⟨i,qB⟩),rfl⟩
theorem oZ (a:List Nd) (v:Value) (w:World) (hv:Nds w v a) (ha:a.all dR=true):Calls Tryz.prog 140 #[v] w fun e w'=>e=.returned (.int .i64 (vm a))∧aa w w':=by
 have x9:=hv;obtain⟨p,cap,rfl,KR,H9,_,H7⟩:=hv;unfold maxLen at H9;have HA:=hid ha;clear ha;go_enter Tryz.func140,Tryz.ntmps140;go_wp2
 go_loopw [3,8] (fun c i' wr=>∃ k:Nat,k≤a.length∧i'=.int .i64 k∧c=.int .i64 (vm (a.take k))∧aa w wr) (fun _ i _=>a.length-(intOf i).toNat)
 case atStart=>exact⟨0,qB,rfl,by simp[vm],aa.refl w⟩
 case round=>
  obtain⟨k,hk,rfl,rfl,kw⟩:=hrel
  by_cases x7:k<a.length
  ·obtain⟨_,_,e1,_,_,h9,_⟩:=x9.keeps kw
   cases e1
   obtain⟨b1,o1,rfl,h1,h2⟩:=h9.nd k x7;clear h9 x9;have H8:(k:Int)<a.length:=qB;have KP:=Ii HA.out k hk;have eE:=BP a k x7;have x6:=kw.alloc (.cells #[.int .i64 a[k].k,.int .i64 a[k].s] 82)
   by_cases h0:a[k].k=0
   ·obtain⟨s,hs,e⟩:=Ep HA.out k x7 h0
    rw[if_pos h0,e] at eE;have x8:=Er ⟨_,KP⟩ ⟨s,hs⟩;have KS:=tv s qB;rw[h0] at h1 x6;rw[e] at h2 x6;have HO:=hid x8;clear x8;have HS:=hid eE;clear eE;clear e h0;generalize vm (List.take k a)=m at*;go_wp2;go_roundw
    case rel=>exact⟨k+1,qB,by go_num,by rw[HS.out];have h:=HO.out;simp only[Int.toNat_natCast] at *;rw[h],x6⟩
    case measure=>simp[intOf];omega
   ·have hb:(a[k].k==0)=false:=by simp[h0]
    rw[if_neg h0] at eE;have HS:=hid eE;clear eE;clear h0;go_wp2;go_roundw
    case rel=>exact⟨k+1,qB,by go_num,by rw[HS.out],x6⟩
    case measure=>simp[intOf];omega
  ·go_wp2
   go_ret;rw[List.take_of_length_le qB];exact⟨rfl,kw⟩
theorem ua (m:Nat) (w:World) (hm:m<64):Calls Tryz.prog 141 #[.int .i64 m] w (BR w (mem m)):=by
 go_enter Tryz.func141,Tryz.ntmps141;go_wp2
 go_loopw [3,4] (fun o i' wr=>∃ i:Nat,i≤6∧i'=.int .i64 i∧aI wr w.heap.size o (low m i)∧aa w wr) (fun _ i _=>7-(intOf i).toNat)
 case atStart=>exact⟨0,qB,rfl,by simpa [low] using aI.nil w w.heap.size,aa.refl w⟩
 case round=>
  obtain⟨i,hi,rfl,h9,kw⟩:=hrel
  have eE:(m:Int)/2^i=((m/2^i:Nat):Int):=by push_cast;rfl
  by_cases hp:0<m/2^i
  ·have H9:i<6:=by
    rcases Nat.lt_or_ge i 6 with h | h
    ·exact h
    ·obtain rfl:i=6:=qB
     have:=B4 ⟨m,hm⟩
     simp only at this;omega
   have hd:decide ((m:Int)/2^i>0)=true:=by rw[eE];simp only[decide_eq_true_eq];omega
   have hd':(0:Int)<(m:Int)/2^i:=by rw[eE];omega
   have x8:=Eg m i;have KP:=Gk m i;have HH:=hid (F3 m i wr hm qB);have x6:=hid x8;clear x8;clear eE hp
   cases hb:m.testBit i
   ·rw[hb] at HH x6
    clear hb;go_wp2_with fail;refine HH.out.mono ?_;rintro e w' ⟨rfl,rfl⟩;go_wp2_with fail;go_roundw
    case rel=>exact⟨i+1,qB,by go_num,by have h:=x6.out;simp only[Bool.false_eq_true,if_false] at h;rw[h];exact h9,kw⟩
    case measure=>simp[intOf];omega
   ·rw[hb] at HH x6
    clear hb;go_wp2_with fail;refine HH.out.mono ?_;rintro e w' ⟨rfl,rfl⟩
    go_wp2_with (at_builtin;refine mw rfl _ _ rfl w.heap.size _ (low m i) rfl (h9.keeps ((aa.refl wr).alloc _)) _ [(i:Int)] rfl (aV.lit1 wr i) (by have:=kw.size;simp;omega) (by simp;omega) ?_;intro v1 w1 H8 x9 H7;have k2:=(kw.alloc (.cells #[.int .i64 i] 2)).grown x9 (by simpa using H7))
    go_roundw
    case rel=>exact⟨i+1,qB,by go_num,by have h:=x6.out;simp only[if_true] at h;rw[h];exact H8,k2⟩
    case measure=>simp[intOf];omega
  ·have hz:m/2^i=0:=Nat.eq_zero_of_not_pos hp
   have hd:decide ((m:Int)/2^i>0)=false:=by rw[eE,hz];simp
   have hd':¬(0:Int)<(m:Int)/2^i:=by rw[eE,hz];simp
   have x7:=Gj ⟨m,hm⟩ ⟨i,qB⟩ hz
   simp only at x7
   rw[x7] at h9;clear x7 hz hp eE;go_wp2;go_ret;exact⟨_,rfl,h9,kw⟩
theorem J5:(50:TypeId)≠82:=qC
theorem JI:(Tryz.prog.info? 50).map (fun i=>(i.zero,i.size,i.bytes))=some (some (.slice none 0 0),1,24):=qA
theorem yE {w:World} {B B':Nat} {v:Value} {n:Nat} {hs vs:List Value} {xs:List (List Nd)} (ho:w.ownsRow B 50 1 v n hs) (hr:dA w B' vs xs):Off v vs:=fun i hi k hk=>
 cE ho (hr.2 i hi (by have:=hr.1;omega)) J5 hk
theorem fN.nil (w:World) (B:Nat):fN w B (.slice none 0 0) []:=⟨[],World.ownsRow_nil w B _ 1,dA.nil _ _,lS.nil,Off.nil _⟩
theorem fN.empty (w:World):fN (w.alloc (.cells #[] 50)) w.heap.size (.slice (some ⟨w.heap.size,0,none⟩) 0 0) []:=
 ⟨[],World.ownsRow_made w #[] 0 (zm _) (by simp[maxLen]) qD,dA.nil _ _,lS.nil,Off.nil _⟩
theorem fN.snoc {w0 w w':World} {B:Nat} {v v' u:Value} {xs:List (List Nd)} {x:List Nd} {vs:List Value} (hr:dA w0 B vs xs) (ha:lS vs) (ho:w.ownsRow B 50 1 v xs.length vs) (k:aa w0 w) (hu:aU w w0.heap.size u x) (hB:B≤w0.heap.size)
  (ho':w'.ownsRow B 50 1 v' (xs.length+1) (vs++[u])) (hg:w.grownBy w' v.ownBlock):fN w' B v' (xs++[x]):=by
 have x6:=hr.keeps k;have h9:=yE ho x6;have hr':dA w' B vs xs:=x6.touch (al.grown hg) (fun i hb e=>h9.not_blk e.symm hb);have hu':aU w' B u x:=(hu.touch (al.grown hg) (fun i hi e=>cE ho hu J5 e.symm hi)).mono hB;have eE:=dA.snoc hu' hr';refine⟨vs++[u],by simpa using ho',eE,lS.snoc (fun i hi hb=>?_) ha,yE ho' eE⟩;have:=(hu.len i hi).1;have:=(hr.lt hb).2;omega
theorem Jy {w:World} {o:Oper} {a:Act} {K:Act→World→Prop} {Q:Exit→Act→World→Prop} (s x:Operand)
  (ho:o.op=.call { callee:=.builtin .append,args:=#[s,x],argTypes:=#[79,79] }) (base:Nat) (v:Value) (xs:List (List Nd)) (hs:a.eval s=v)
  (w0:World) (x7:fN w0 base v xs) (k:aa w0 w) (u:Value) (y:List Nd) (hu:aU w w0.heap.size u y) (h9:base≤w0.heap.size)
  (p:Option Addr) (c:Nat) (hx:a.eval x=.slice p 1 c) (x9:At w p [u]) (H7:xs.length≤2147483648)
  (h:∀ v' w',fN w' base v' (xs++[y])→w.grownBy w' v.ownBlock→(∀ k,v.ownBlock=some k→base≤k)→K (a.put o.dst v') w'):o.wp Tryz.prog a w K Q:=by
 obtain⟨i0,hi,H8,H9,KP⟩:=info_parts JI;obtain⟨vs,x8,hr,ha,_⟩:=x7
 have x6:∀ z∈[u],z.oneCell'=true:=by
  intro z hz
  simp at hz;subst hz
  obtain⟨p,c,e,_⟩:=At.of_own hu;rw[e];rfl
 have eE:=bw x8 k;refine bI s x _ ho _ i0 _ 1 24 Tryz.underlying79 hi H8 H9 KP rfl qC base v _ _ hs eE p 1 c [u] hx qD x9 x6 (by unfold maxLen;omega) qB (by have:=k.size;omega) ?_;intro v' w' h1 h2 h3;exact h v' w' (fN.snoc hr ha eE k hu h9 h1 h2) h2 h3
theorem Jv {w:World} {ops:Array Oper} {rest:List Oper} {o:Oper} {a:Act} {Q:Exit→Act→World→Prop} (x8:o.guard=none) (s x:Operand)
  (ho:o.op=.call { callee:=.builtin .append,args:=#[s,x],argTypes:=#[79,79] }) (base:Nat) (v:Value) (xs:List (List Nd)) (hs:a.eval s=v)
  (w0:World) (x6:fN w0 base v xs) (k:aa w0 w) (u:Value) (y:List Nd) (hu:aU w w0.heap.size u y) (eE:base≤w0.heap.size)
  (p:Option Addr) (c:Nat) (hx:a.eval x=.slice p 1 c) (x7:At w p [u]) (h9:xs.length≤2147483648)
  (h:∀ v' w',fN w' base v' (xs++[y])→w.grownBy w' v.ownBlock→(∀ k,v.ownBlock=some k→base≤k)→wpList Tryz.prog ops Q rest (a.put o.dst v') w'):wpList Tryz.prog ops Q (o::rest) a w:=
 wpList_plain x8 fun _ hK=>Jy s x ho base v xs hs w0 x6 k u y hu eE p c hx x7 h9 fun v' w' h1 h2 h3=>hK _ _ (h v' w' h1 h2 h3)
def Ji (w:World) (xs:List (List Nd)) (e:Ending) (w':World):Prop:=∃ v,e=.returned v∧fN w' w.heap.size v xs∧aa w w'
theorem bW.shapeL {w:World} {v:Value} {xs:List (List Nd)} (h:bW w v xs):∃ p n c,v=.slice p n c:=by
 obtain⟨p,c,e,_⟩:=h;exact⟨p,_,c,e⟩
theorem eu (a b:List Nd) (va vb:Value) (w:World) (KZ:Nds w va a) (K0:Nds w vb b):
  Calls Tryz.prog 190 #[va,vb] w fun e w'=>e=.returned (.bool (decide (a=b)))∧aa w w':=by
 have x7:=KZ;have x8:=K0;obtain⟨pa,ca,rfl,La,H7,_,KP⟩:=KZ;obtain⟨pb,cb,rfl,Lb,H8,_,KR⟩:=K0;unfold maxLen at H7 H8
 by_cases hl:a.length=b.length
 ·have hl':((a.length:Int) != (b.length:Int))=false:=by simp[hl]
  have HL:=hid hl;clear hl;go_enter Tryz.func190,Tryz.ntmps190;go_wp2
  go_loopw [4,5] (fun r i' wr=>∃ k:Nat,k≤a.length∧a.take k=b.take k∧aa w wr∧i'=.int .i64 k∧r=.bool false) (fun _ i _=>a.length-(intOf i).toNat)
  case atStart=>exact⟨0,qB,rfl,aa.refl w,rfl,rfl⟩
  case round=>
   obtain⟨k,hk,KY,kw,rfl,rfl⟩:=hrel;have HT:=hid KY;clear KY;clear hl'
   by_cases KS:k<a.length
   ·have x6:k<b.length:=by have:=HL.out;omega
    obtain⟨_,_,e1,_,_,eE,_⟩:=x7.keeps kw.drew;obtain⟨_,_,e2,_,_,h9,_⟩:=x8.keeps kw.drew
    cases e1;cases e2
    obtain⟨b1,o1,rfl,h1,h2⟩:=eE.nd k KS;obtain⟨b2,o2,rfl,h3,h4⟩:=h9.nd k x6;clear eE h9 x7 x8;have Lc:(k:Int)<a.length:=qB;have KT:(k:Int)<b.length:=qB
    by_cases he:a[k]=b[k]
    ·have H9:a[k].k=b[k].k:=by rw[he]
     have KV:a[k].s=b[k].s:=by rw[he]
     rw[H9] at h1;rw[KV] at h2;have HE:=hid he;clear he H9 KV;go_wp2_with fail
     go_region
     go_wp2;go_roundw
     case rel=>exact⟨k+1,qB,by rw[zq KS,zq x6,HT.out,HE.out],kw.drew,by go_num,rfl⟩
     case measure=>simp[intOf];omega
    ·have KU:decide (a=b)=false:=by rw[decide_eq_false_iff_not];rintro rfl;exact he rfl
     have HN:=hid KU;clear KU
     have x9:¬(a[k].k=b[k].k∧a[k].s=b[k].s):=fun ⟨g1,g2⟩=>he (by cases hx:a[k];cases hy:b[k];simp[hx,hy] at g1 g2;simp[g1,g2])
     clear he;generalize a[k].k=x1 at*;generalize a[k].s=x2 at*;generalize b[k].k=y1 at*;generalize b[k].s=y2 at*
     by_cases hx:x1=y1
     ·have Ld:¬x2=y2:=fun e=>x9 ⟨hx,e⟩
      subst hx;clear x9;go_wp2_with fail
      go_region
      go_wp2;go_ret;exact⟨ab HN.out.symm,kw.drew⟩
     ·clear x9
      go_wp2_with fail
      go_region
      go_wp2;go_ret;exact⟨ab HN.out.symm,kw.drew⟩
   ·go_wp2
    go_ret;refine⟨ab ?_,kw⟩
    symm;rw[decide_eq_true_eq]
    have h1:=HL.out;have h2:=HT.out;rw[List.take_of_length_le qB,List.take_of_length_le qB] at h2;exact h2
 ·have hl':((a.length:Int) != (b.length:Int))=true:=by simp;omega
  have HL:=hid hl;clear hl;go_enter Tryz.func190,Tryz.ntmps190;go_wp2;go_ret;refine⟨ab ?_,aa.refl _⟩
  symm;rw[decide_eq_false_iff_not]
  rintro rfl;exact HL.out rfl
theorem aI.touch {w w':World} {S:Nat→Prop} {B:Nat} {v:Value} {a:List Int} (h:aI w B v a) (k:al w w' S) (hS:∀ i,v.ownBlock=some i→¬S i):aI w' B v a:=aZ h k hS
def dD (k:Int):List (List Nd)→List Nd
 | []=>if k=2 then (Fm.imp .fls .fls).enc else Fm.fls.enc
 | a::l=>l.foldl (fun o x=>⟨k,0⟩::(o++x)) a
theorem foldN_one (k:Int) (a:List Nd):dD k [a]=a:=rfl
theorem rL (k:Int) (l:List (List Nd)) (h:l≠[]) (x:List Nd):dD k (l++[x])=⟨k,0⟩::(dD k l++x):=by
 cases l with
 | nil=>exact absurd rfl h
 | cons a l=>simp[dD,List.foldl_append]
theorem iI {k:Int} {L:List (List Nd)} (hl:∀ x∈L,x.length≤1000) (i:Nat) (hi:i≤L.length):(dD k (L.take i)).length≤i*1001+3:=by
 induction i with
 | zero=>
  rw[List.take_zero]
  show(if k=2 then (Fm.imp .fls .fls).enc else Fm.fls.enc).length≤3
  by_cases h2:k=2
  ·rw[if_pos h2];simp[Fm.enc]
  ·rw[if_neg h2];simp[Fm.enc]
 | succ i ih=>
  have ih:=ih qB;rw[zq qB];have hx:=hl _ (zo (show i<L.length by omega))
  by_cases h1:i=0
  ·subst h1
   simp only[List.take_zero,List.nil_append,foldN_one];omega
  ·rw[rL k _ (by intro e;have:=congrArg List.length e;rw[List.length_take,List.length_nil] at this;omega)]
   simp only[zh,ze];omega
theorem sg (k:Int) (L:List (List Nd)) (hL:L.length≤1000) (hl:∀ x∈L,x.length≤1000) (v:Value) (w:World) (hv:bW w v L):Calls Tryz.prog 43 #[.int .i64 k,v] w (jh w (dD k L)):=by
 have HV:=hid hv;obtain⟨p,cap,rfl,Lj,Le,_⟩:=hv;unfold maxLen at Le
 by_cases h0:L=[]
 ·subst h0
  by_cases hk:k=2
  ·subst hk
   go_enter Tryz.func43,Tryz.ntmps43;go_wp2_with fail;refine(dh w).mono ?_;rintro e w2 ⟨v2,rfl,x6,k2⟩;go_wp2_with fail;go_ret;exact⟨_,rfl,x6,k2⟩
  ·have HF:Hid (dD k []=Fm.fls.enc):=hid (by unfold dD;rw[if_neg hk])
   go_enter Tryz.func43,Tryz.ntmps43;go_wp2_with fail;refine(cU w).mono ?_;rintro e w2 ⟨v2,rfl,x6,k2⟩;go_wp2_with fail;go_ret;exact⟨_,rfl,by rw[HF.out];exact x6,k2⟩
 ·have h9:0<L.length:=List.length_pos_iff.2 h0
  have KT:(0:Int)<L.length:=qB;have Lf:¬(L.length:Int)=0:=qB;obtain⟨b0,o0,u0,e0,La,KU⟩:=HV.out.get 0 h9;rw[Nat.add_zero] at La;subst e0;have KR:=hid (Af L[0] u0 w KU (by have:=hl _ (zo h9);omega))
  have x8:Hid (dD k (L.take 1)=L[0]):=hid (by
   match L,h9 with
   | a::l,_=>rfl)
  have H9:=hid (fun i (hi:i<L.length) (h1:1≤i)=>show dD k (L.take (i+1))=⟨k,0⟩::(dD k (L.take i)++L[i]) from by
   rw[zq hi,rL k _ (by intro e;have:=congrArg List.length e;rw[List.length_take,List.length_nil] at this;omega)])
  have H8:=hid (show dD k (L.take L.length)=dD k L by rw[List.take_length]);have KP:=hid (fun i (hi:i≤L.length)=>iI (k:=k) hl i hi);have K0:=hid (fun i (hi:i<L.length)=>hl _ (zo hi))
  obtain⟨FF,KS⟩:∃ FF:Nat→List Nd,∀ i,FF i=dD k (L.take i):=⟨_,fun _=>rfl⟩
  simp only[←KS] at x8 H9 H8 KP;clear KS h0 KU;go_enter Tryz.func43,Tryz.ntmps43;go_wp2_with fail;refine KR.out.mono ?_;rintro e w2 ⟨v2,rfl,x6,k2⟩;go_wp2_with fail
  have x7:aU w2 w.heap.size v2 (FF 1):=by rw[x8.out];exact x6
  have HA:=hid (And.intro x7 k2);clear x6 x7 k2 KR x8
  go_loopw [5,6] (fun s5 s6 wr=>∃ i:Nat,1≤i∧i≤L.length∧s6=.int .i64 i∧aU wr w.heap.size s5 (FF i)∧aa w wr) (fun _ s6 _=>L.length-(intOf s6).toNat)
  case atStart=>exact⟨1,qB,qB,rfl,HA.out.1,HA.out.2⟩
  case round=>
   obtain⟨i,Lb,hi,rfl,eE,kw⟩:=hrel;clear HA;have Lg:=kw.size
   by_cases x9:i<L.length
   ·have H7:(i:Int)<L.length:=qB
    obtain⟨b1,o1,u1,e1,Li,KV⟩:=(HV.out.keeps kw).get i x9
    cases e1
    have Lc:=K0.out i x9;have Ld:=KP.out i qB;have KZ:=hid (H9.out i x9 Lb);have KY:=eE.nds qB;have HP:=hid (bQ k (FF i) L[i] _ u1 wr KY KV qB);generalize L[i]=x at*;clear KV eE KY;go_wp2_with fail;refine HP.out.mono ?_;rintro e w3 ⟨v3,rfl,Lh,k3⟩;go_wp2_with fail;go_roundw
    case rel=>exact⟨i+1,qB,qB,by go_num,by rw[KZ.out];exact Lh.mono Lg,kw.trans k3⟩
    case measure=>simp[intOf];omega
   ·have e:i=L.length:=qB
    subst e;have H7:¬((L.length:Nat):Int)<(L.length:Nat):=qB;rw[H8.out] at eE;go_wp2_with fail;go_ret;exact⟨_,rfl,eE,kw⟩
theorem rN (k:Int):∀ (l:List (List Nd)) (a:List Nd),l.foldl (fun o x=>(⟨k,0⟩:Nd)::(o++x)) a=List.replicate l.length ⟨k,0⟩++(a++l.flatten)
 | [],a=>by simp
 | x::l,a=>by
  rw[List.foldl_cons,rN k l,List.flatten_cons,zh,show l.length+1=l.length+1 from rfl,List.replicate_succ']
  simp
theorem zS (k:Int) (L:List (List Nd)) (h:L≠[]):dD k L=List.replicate (L.length-1) ⟨k,0⟩++L.flatten:=by
 cases L with
 | nil=>exact absurd rfl h
 | cons a l=>
  show l.foldl _ a=_
  rw[rN]
  simp
theorem AD (w:World) (n:Nat) (hn:n≤2147483648):∃ w',(Instr.makeSlice 50 (.int .i64 0) (.int .i64 (n:Int))).run Tryz.prog w=.ok (.slice (some ⟨w.heap.size,0,none⟩) 0 n) w'∧
   aU w' w.heap.size (.slice (some ⟨w.heap.size,0,none⟩) 0 n) []∧aa w w':=by
 obtain⟨i0,hi,eE,h9,x6⟩:=info_parts Bi;obtain⟨w',hr,ho,hg⟩:=run_make_own (P:=Tryz.prog) w w.heap.size 50 82 i0 _ 2 Tryz.underlying50 hi eE h9 .i64 .i64 n (by rw[x6];omega) (by unfold maxLen;omega) (zm _);exact⟨w',hr,ho,(aa.refl w).grown hg qD⟩
def wU (L:List (List Nd)):Nat:=(L.map List.length).sum
theorem BJ {L:List (List Nd)} (hl:∀ x∈L,x.length≤1000) (i:Nat):i≤L.length→wU (L.take i)≤i*1000:=by
 induction i with
 | zero=>intro _;simp[wU]
 | succ i ih=>
  intro hi;have ih:=ih qB;have hx:=hl _ (zo (show i<L.length by omega));rw[zq qB];unfold wU at*;rw[List.map_append,List.sum_append];simp only[List.map_cons,List.map_nil,List.sum_cons,List.sum_nil];omega
theorem pK (k:Int) (L:List (List Nd)) (hL:L.length≤1000) (hl:∀ x∈L,x.length≤1000) (v:Value) (w:World) (hv:bW w v L):Calls Tryz.prog 38 #[.int .i64 k,v] w (jh w (dD k L)):=by
 have HV:=hid hv;obtain⟨p,cap,rfl,LL,LD,_⟩:=hv;unfold maxLen at LD
 by_cases h0:L=[]
 ·subst h0
  by_cases hk:k=2
  ·subst hk
   go_enter Tryz.func38,Tryz.ntmps38;go_wp2_with fail;refine(oX w).mono ?_;rintro e w2 ⟨v2,rfl,Ld,k2⟩;go_wp2_with fail;go_ret;exact⟨_,rfl,Ld,k2⟩
  ·have HF:Hid (dD k []=Fm.fls.enc):=hid (by unfold dD;rw[if_neg hk])
   go_enter Tryz.func38,Tryz.ntmps38;go_wp2_with fail;refine(gG w).mono ?_;rintro e w2 ⟨v2,rfl,Ld,k2⟩;go_wp2_with fail;go_ret;exact⟨_,rfl,by rw[HF.out];exact Ld,k2⟩
 ·have LH:0<L.length:=List.length_pos_iff.2 h0
  have LF:¬(L.length:Int)=0:=qB;have Lp:=hid (zS k L h0);have KP:=hid (BJ hl);clear h0;go_enter Tryz.func38,Tryz.ntmps38;go_wp2_with fail;have HE:Hid (wU (L.take 0)=0):=hid rfl
  have Lj:=hid (fun i (hi:i<L.length)=>show wU (L.take (i+1))=wU (L.take i)+(L[i]'hi).length from by
   unfold wU;rw[zq hi,List.map_append,List.sum_append];simp only[List.map_cons,List.map_nil,List.sum_cons,List.sum_nil,Nat.add_zero])
  obtain⟨RR,eE⟩:∃ RR:Nat→List Nd,∀ i,RR i=List.replicate (L.length-1) ⟨k,0⟩++(L.take i).flatten:=⟨_,fun _=>rfl⟩
  have H8:Hid (RR 0=List.replicate (L.length-1) ⟨k,0⟩):=hid (by rw[eE];simp);have x6:Hid (RR L.length=List.replicate (L.length-1) ⟨k,0⟩++L.flatten):=hid (by rw[eE,List.take_length])
  have H9:=hid (fun i (hi:i<L.length)=>show RR (i+1)=RR i++L[i]'hi from by
   rw[eE,eE,zq hi,List.flatten_append,←zz]
   simp only[List.flatten_cons,List.flatten_nil,List.append_nil])
  have Lu:=hid (fun i (hi:i≤L.length)=>show(RR i).length≤2000000 from by
   have h1:=BJ hl i hi;rw[eE,ze,List.length_replicate,List.length_flatten];unfold wU at h1
   omega)
  clear eE
  obtain⟨SM,Lk⟩:∃ SM:Nat→Nat,∀ i,SM i=wU (L.take i):=⟨_,fun _=>rfl⟩
  simp only[←Lk] at HE Lj KP;clear Lk;have LO:Hid (w=w):=hid rfl
  go_loopw [5,7,23] (fun s5 _ s23 wr=>∃ i:Nat,i≤L.length∧s23=.int .i64 i∧s5=.int .i64 (L.length-1+SM i:Nat)∧aa w wr) (fun _ _ s23 _=>L.length-(intOf s23).toNat)
  case atStart=>exact⟨0,qB,rfl,by rw[HE.out];go_num,aa.refl _⟩
  case round=>
   obtain⟨i,hi,rfl,rfl,kw⟩:=hrel
   by_cases KZ:i<L.length
   ·have K0:(i:Int)<L.length:=qB
    obtain⟨b1,o1,u1,e1,Lz,h9⟩:=(HV.out.keeps kw).get i KZ
    cases e1
    obtain⟨p1,c1,rfl,_⟩:=id h9;have Lo:=Lj.out i KZ;have LI:=KP.out i qB;have LK:=hl _ (zo KZ);generalize L[i]=x at*;have KR:=hid Lo;clear Lo h9;go_wp2_with fail;go_roundw
    case rel=>exact⟨i+1,qB,by go_num,by rw[KR.out];go_num,kw⟩
    case measure=>simp[intOf];omega
   ·have e:i=L.length:=qB
    subst e;have K0:¬((L.length:Nat):Int)<(L.length:Nat):=qB;have LI:=KP.out L.length (zm _);have LG:L.length-1+SM L.length≤2147483648:=qB;generalize L.length-1+SM L.length=nn at*;obtain⟨w1,LC,x9,k1⟩:=AD wr nn LG;have Li:=hid x9;have Lg:=hid (kw.trans k1);clear x9;go_wp2_with fail;clear LC;have HW:Hid (w.heap.size≤wr.heap.size):=hid kw.size;have Lb:Hid (List.replicate 0 (⟨k,0⟩:Nd)=[]):=hid rfl
    go_loopw [8,37] (fun s8 s37 wx=>∃ j:Nat,j≤L.length-1∧s37=.int .i64 j∧aU wx w.heap.size s8 (List.replicate j ⟨k,0⟩)∧aa w wx) (fun _ s37 _=>L.length-(intOf s37).toNat)
    case atStart=>exact⟨0,qB,rfl,by rw[Lb.out];exact Li.out.mono HW.out,Lg.out⟩
    case round=>
     obtain⟨j,hj,rfl,x7,kx⟩:=hrel;clear Li Lg;have Lm:(List.replicate j (⟨k,0⟩:Nd)).length=j:=List.length_replicate;have Lf:=hid Lm;clear Lm;obtain⟨pj,cj,Ll,-,-,-⟩:=At.of_own x7;rw[Lf.out] at Ll;subst Ll;have LJ:=kx.size
     by_cases LM:j<L.length-1
     ·have KU:(j:Int)<(L.length:Int)-1:=qB
      have kA:=(aa.refl wr).alloc (.cells #[.int .i64 k,.int .i64 0] 82);have Lr:=hid ((aU.lit1 wr ⟨k,0⟩).nds qD);have Lw:=hid (show List.replicate (j+1) (⟨k,0⟩:Nd)=List.replicate j ⟨k,0⟩++[⟨k,0⟩] from List.replicate_succ');have H7:=hid x7;clear x7
      go_wp2_with (at_builtin;refine zF rfl _ _ rfl w.heap.size _ (List.replicate j ⟨k,0⟩) rfl (H7.out.keeps kA) _ [⟨k,0⟩] rfl Lr.out (by have:=kA.size;omega) (by rw[Lf.out];simp;omega) ?_;intro v3 w3 Le KT La)
      go_roundw
      case rel=>exact⟨j+1,qB,by go_num,by rw[Lw.out];exact Le,(kx.trans kA).grown KT La⟩
      case measure=>simp[intOf];omega
     ·have e:j=L.length-1:=qB
      subst e;have KU:¬((L.length-1:Nat):Int)<(L.length:Int)-1:=qB;have H7:=hid x7;have Lh:=hid kx;clear x7 kx;go_wp2_with fail;have Lt:Hid (RR 0=List.replicate (L.length-1) ⟨k,0⟩):=hid H8.out
      go_loopw [8,10,47] (fun s8 _ s47 wx=>∃ j:Nat,j≤L.length∧s47=.int .i64 j∧aU wx w.heap.size s8 (RR j)∧aa w wx) (fun _ _ s47 _=>L.length-(intOf s47).toNat)
      case atStart=>exact⟨0,qB,rfl,by rw[Lt.out];exact H7.out,Lh.out⟩
      case round=>
       obtain⟨m,hm,rfl,x8,km⟩:=hrel;clear H7 Lh;obtain⟨pm,cm,KS,-,-,-⟩:=At.of_own x8;have LN:=Lu.out m hm;have Lc:=km.size
       by_cases KV:m<L.length
       ·have KY:(m:Int)<L.length:=qB
        obtain⟨b1,o1,u1,e1,Lz,h9⟩:=(HV.out.keeps km).get m KV
        cases e1
        have Ln:=H9.out m KV;have LK:=hl _ (zo KV);generalize L[m]=x at*;generalize RR m=Rm at*;have Lx:=hid Ln;clear Ln;subst KS;have Ls:=hid x8;have Ly:=hid h9;obtain⟨p1,c1,rfl,_⟩:=id h9;clear x8 h9
        go_wp2_with (at_builtin;refine zF rfl _ _ rfl w.heap.size _ Rm rfl Ls.out _ x rfl Ly.out Lc qB ?_;intro v3 w3 Le KT La)
        go_roundw
        case rel=>exact⟨m+1,qB,by go_num,by rw[Lx.out];exact Le,km.grown KT La⟩
        case measure=>simp[intOf];omega
       ·have e:m=L.length:=qB
        subst e;have KY:¬((L.length:Nat):Int)<(L.length:Nat):=qB;have Lq:=hid (show aU wr w.heap.size (.slice pm (RR L.length).length cm) (dD k L) from by rw[Lp.out,←x6.out,←KS];exact x8);subst KS;clear x8;go_wp2_with fail;go_ret;exact⟨_,rfl,Lq.out,km⟩
def lM (w:World) (v:Value) (n B:Nat):Prop:=∃ p cap,v=.slice p n cap∧n≤cap∧cap≤maxLen∧∀ j,j<n→∃ b off,∃ x:Nat,p=some ⟨b,off,none⟩∧w.cell? ⟨b,off+j,none⟩=some (.int .u8 x)∧x<256∧b<B
def C8 (T:TypeId):Prop:=T≠29
def gT (w:World) (B:Nat):Prop:=∃ T,cw w B T∧T≠9∧T≠2∧C8 T
theorem gT.keeps {w w':World} {B:Nat} (h:gT w B) (k:aa w w'):gT w' B:=by
 obtain⟨T,h1,h2⟩:=h;exact⟨T,h1.keeps k,h2⟩
theorem gT.set {w:World} {B:Nat} (h:gT w B) (a:Addr) (u:Value):gT (w.setCell a u) B:=by
 obtain⟨T,h1,h2⟩:=h;exact⟨T,h1.set a u,h2⟩
theorem gT.drewN {w:World} {B:Nat} (h:gT w B) (n:Nat):gT (w.drewN n) B:=h
theorem gT.touch {w w':World} {S:Nat→Prop} {B:Nat} (h:gT w B) (k:al w w' S) (hB:¬S B):gT w' B:=by
 obtain⟨T,h1,h2⟩:=h;exact⟨T,h1.touch k hB,h2⟩
def Src (w:World) (B:Nat):Prop:=∃ v n,∃ at':Nat,∃ h:Int,w.cell? ⟨B,0,none⟩=some v∧w.cell? ⟨B,1,none⟩=some (.int .i64 at')∧w.cell? ⟨B,2,none⟩=some (.int .u64 h)∧w.frozen? ⟨B,1,none⟩=false∧w.frozen? ⟨B,2,none⟩=false∧gT w B∧at'≤n∧lM w v n B
theorem lM.touch {w w':World} {v:Value} {n B:Nat} (h:lM w v n B) (k:al w w' (fun i=>i=B)):lM w' v n B:=by
 obtain⟨p,cap,e,h1,h2,h3⟩:=h;refine⟨p,cap,e,h1,h2,fun j hj=>?_⟩;obtain⟨b,off,x,e2,hc,hx,hb⟩:=h3 j hj;exact⟨b,off,x,e2,by rw[(k.cell (b:=b) (World.block_lt_of_cell? _ _ hc) qB).1];exact hc,hx,hb⟩
def Dr (B:Nat) (w w':World):Prop:=al w w' (fun i=>i=B)∧Src w' B
theorem Dr.trans {B:Nat} {a b c:World} (h:Dr B a b) (k:Dr B b c):Dr B a c:=⟨h.1.trans k.1,k.2⟩
theorem Src.keeps {w w':World} {B:Nat} (h:Src w B) (k:aa w w'):Src w' B:=by
 obtain⟨v,n,a,h,c0,c1,c2,f1,f2,ty,ha,hb⟩:=h;have hB:=World.block_lt_of_cell? _ _ c0;refine⟨v,n,a,h,k.cell c0,k.cell c1,k.cell c2,?_,?_,ty.keeps k,ha,hb.touch (al.of_keeps k _)⟩
 ·rw[(k.both).2 B 1 hB];exact f1
 ·rw[(k.both).2 B 2 hB];exact f2
theorem Dr.keeps {B:Nat} {a b c:World} (h:Dr B a b) (k:aa b c):Dr B a c:=⟨h.1.trans (al.of_keeps k _),h.2.keeps k⟩
theorem Dr.of {B:Nat} {a b:World} (h:Src a B) (k:aa a b):Dr B a b:=⟨al.of_keeps k _,h.keeps k⟩
theorem Src.lt {w:World} {B:Nat} (h:Src w B):B<w.heap.size:=by
 obtain⟨v,n,a,h,c0,_⟩:=h;exact World.block_lt_of_cell? _ _ c0
theorem Dr.size {B:Nat} {a b:World} (h:Dr B a b):a.heap.size≤b.heap.size:=h.1.size
theorem Dr.keepsOf {B:Nat} {a b c:World} (k:aa a b) (hB:a.heap.size≤B) (h:Dr B b c):aa a c:=k.touch h.1 (fun i hi=>by omega)
theorem Hj (x:Int):∃ r:Nat,bits .and .u64 x 16777215=(r:Int)∧r≤16777215:=by
 refine⟨(BitVec.ofInt 64 x &&& BitVec.ofInt 64 16777215).toNat,?_,?_⟩
 ·show IntKind.u64.wrap ((BitVec.ofInt 64 x &&& BitVec.ofInt 64 16777215).toNat:Int)=_
  have h1:=(BitVec.ofInt 64 x &&& BitVec.ofInt 64 16777215).isLt;generalize (BitVec.ofInt 64 x &&& BitVec.ofInt 64 16777215).toNat=k at h1 ⊢;simp[IntKind.wrap,IntKind.bits,IntKind.signed];omega
 ·rw[BitVec.toNat_and]
  exact zx Nat.and_le_right qC
theorem aE (n:Int) (B:Nat) (w:World) (hs:Src w B) (hn:n≤1000000):Calls Tryz.prog 53 #[.pointer (some ⟨B,0,none⟩),.int .i64 n] w fun e w'=>∃ r:Nat,e=.returned (.int .i64 r)∧((r:Int)<n∨r=0)∧Dr B w w':=by
 by_cases h1:n<1
 ·go_enter Tryz.func53,Tryz.ntmps53
  go_wp2;go_ret;exact⟨0,rfl,.inr rfl,Dr.of hs (aa.refl w)⟩
 ·obtain⟨v,m,a,h,c0,c1,c2,f1,f2,ty,ha,hb⟩:=hs
  obtain⟨p,cap,rfl,H7,x7,x6⟩:=hb;unfold maxLen at x7;have HB:=hid x6;go_enter Tryz.func53,Tryz.ntmps53;go_wp2;obtain⟨y,hy,KS⟩:=Hj (IntKind.u64.wrap (IntKind.u64.wrap (h*6364136223846793005)+1442695040888963407)/8589934592)
  have x8:wrap64 (y:Int)=y:=by unfold wrap64;omega
  rw[hy,x8];clear hy x8;generalize IntKind.u64.wrap (IntKind.u64.wrap (h*6364136223846793005)+1442695040888963407)=h2;have t2:al w (w.setCell ⟨B,2,none⟩ (.int .u64 h2)) (fun i=>i=B):=(al.grown (db B 2 _)).mono (fun k e=>by cases e;rfl)
  have d0:(w.setCell ⟨B,2,none⟩ (.int .u64 h2)).cell? ⟨B,0,none⟩=some (.slice p m cap):=by rw[World.cell?_setCell_other _ _ _ _ qD];exact c0
  have d1:(w.setCell ⟨B,2,none⟩ (.int .u64 h2)).cell? ⟨B,1,none⟩=some (.int .i64 a):=by rw[World.cell?_setCell_other _ _ _ _ qD];exact c1
  have d2:(w.setCell ⟨B,2,none⟩ (.int .u64 h2)).cell? ⟨B,2,none⟩=some (.int .u64 h2):=World.cell?_setCell_same _ _ _ c2
  have g1:(w.setCell ⟨B,2,none⟩ (.int .u64 h2)).frozen? ⟨B,1,none⟩=false:=by simpa using f1
  have g2:(w.setCell ⟨B,2,none⟩ (.int .u64 h2)).frozen? ⟨B,2,none⟩=false:=by simpa using f2
  have eE:lM (w.setCell ⟨B,2,none⟩ (.int .u64 h2)) (.slice p m cap) m B:=lM.touch ⟨p,cap,rfl,H7,x7,HB.out⟩ t2;have ty2:=hid (ty.set ⟨B,2,none⟩ (.int .u64 h2));clear ty;have T2:=hid t2;clear t2;generalize w.setCell ⟨B,2,none⟩ (.int .u64 h2)=w2 at*;clear c0 c1 c2 f1 f2 x6
  by_cases x9:a<m
  ·have h9:(a:Int)<m:=qB
   obtain⟨b,off,x,rfl,hx,KR,KP⟩:∃ b off,∃ x:Nat,p=some ⟨b,off,none⟩∧w2.cell? ⟨b,off+a,none⟩=some (.int .u8 x)∧x<256∧b<B:=by
    obtain⟨p',cap',e,_,_,h3⟩:=eE
    cases e
    exact h3 a x9
   go_quiet (fail)
   go_wp2_with fail
   go_quiet (fail)
   go_wp2_with fail;go_ret;have H8:0≤((y:Int)+x)%n:=Int.emod_nonneg _ qB;have H9:((y:Int)+x)%n<n:=Int.emod_lt_of_pos _ qB
   have t3:∀ z,al w2 ((w2.drewN z).setCell ⟨B,1,none⟩ (.int .i64 ((a:Int)+1))) (fun i=>i=B):=fun z=>(al.of_keeps ((aa.refl w2).drewN z) _).trans ((al.grown (db B 1 _)).mono (fun k e=>by cases e;rfl))
   refine⟨(((y:Int)+x)%n).toNat,aK qB,.inl qB,T2.out.trans (t3 _),_,m,a+1,h2,?_,?_,?_,?_,?_,(ty2.out.drewN _).set _ _,qB,eE.touch (t3 _)⟩
   ·rw[World.cell?_setCell_other _ _ _ _ qD];exact d0
   ·refine(World.cell?_setCell_same _ _ _ (u:=.int .i64 a) ?_).trans ?_
    ·exact d1
    ·simp
   ·rw[World.cell?_setCell_other _ _ _ _ qD];exact d2
   ·simpa using g1
   ·simpa using g2
  ·have h9:¬(a:Int)<m:=qB
   go_quiet (fail)
   go_wp2_with fail;go_ret;have H8:0≤(y:Int)%n:=Int.emod_nonneg _ qB;have H9:(y:Int)%n<n:=Int.emod_lt_of_pos _ qB;have t3:=al.of_keeps ((aa.refl w2).drewN nq) (fun i=>i=B);exact⟨((y:Int)%n).toNat,aK qB,.inl qB,T2.out.trans t3,_,m,a,h2,d0,d1,d2,g1,g2,ty2.out.drewN _,ha,eE.touch t3⟩
def Bts (w:World) (v:Value) (n:Nat):Prop:=lM w v n w.heap.size
theorem lM.low {w w':World} {v:Value} {n B:Nat} (h:lM w v n B) (k:aa w w'):lM w' v n B:=by
 obtain⟨p,cap,e,h1,h2,h3⟩:=h;refine⟨p,cap,e,h1,h2,fun j hj=>?_⟩;obtain⟨b,off,x,e2,hc,hx,hb⟩:=h3 j hj;exact⟨b,off,x,e2,k.cell hc,hx,hb⟩
theorem lM.up {w:World} {v:Value} {n B B':Nat} (h:lM w v n B) (k:B≤B'):lM w v n B':=by
 obtain⟨p,cap,e,h1,h2,h3⟩:=h;refine⟨p,cap,e,h1,h2,fun j hj=>?_⟩;obtain⟨b,off,x,e2,hc,hx,hb⟩:=h3 j hj;exact⟨b,off,x,e2,hc,hx,qB⟩
def jg (w:World) (v:Value) (wr:World):Prop:=aa w wr∧∃ h,gT wr w.heap.size∧wr.cell? ⟨w.heap.size,0,none⟩=some v∧wr.cell? ⟨w.heap.size,1,none⟩=some (.int .i64 0)∧wr.cell? ⟨w.heap.size,2,none⟩=some (.int .u64 h)∧wr.frozen? ⟨w.heap.size,1,none⟩=false∧wr.frozen? ⟨w.heap.size,2,none⟩=false
theorem jg.step {w wr:World} {v:Value} (hr:jg w v wr) (x:Int):jg w v (wr.setCell ⟨w.heap.size,2,none⟩ (.int .u64 x)).drew:=by
 obtain⟨kw,h,ty,c0,c1,c2,f1,f2⟩:=hr;refine⟨aa.drew (kw.setCell qD _),x,(ty.set _ _).drewN 1,?_,?_,?_,?_,?_⟩
 ·show(World.setCell _ _ _).cell? _=_
  rw[World.cell?_setCell_other _ _ _ _ qD];exact c0
 ·show(World.setCell _ _ _).cell? _=_
  rw[World.cell?_setCell_other _ _ _ _ qD];exact c1
 ·show(World.setCell _ _ _).cell? _=_
  exact World.cell?_setCell_same _ _ _ c2
 ·show(World.setCell _ _ _).frozen? _=_
  simpa using f1
 ·show(World.setCell _ _ _).frozen? _=_
  simpa using f2
theorem xY (v:Value) (n:Nat) (w:World) (hv:Bts w v n) (hn:n≤4096):Calls Tryz.prog 21 #[v] w fun e w'=>∃ B,e=.returned (.pointer (some ⟨B,0,none⟩))∧w.heap.size≤B∧Src w' B∧aa w w':=by
 have x6:=hv;obtain⟨p,cap,rfl,H9,H7,x7⟩:=hv;unfold maxLen at H7;have HB:=hid x6;clear x6 x7;go_enter Tryz.func21,Tryz.ntmps21;go_wp2;have h9:aa w (w.alloc (.cells #[.slice p n cap,.int .i64 0,.int .u64 (7129+(n:Int))] 98)):=(aa.refl w).alloc _
 go_loopw [4] (fun i' wr=>∃ k:Nat,k≤n∧i'=.int .i64 k∧jg w (.slice p n cap) wr) (fun i _=>n-(intOf i).toNat)
 case atStart=>exact⟨0,qB,rfl,h9,(7129+(n:Int)),⟨_,cw.alloc _ _ _,qC,qC,by unfold C8;decide⟩,qD,qD,qD,qD,qD⟩
 case round=>
  obtain⟨k,hk,rfl,kw,h,ty,c0,c1,c2,f1,f2⟩:=hrel;have TY:=hid ty;clear ty;clear h9
  by_cases x8:k<n
  ·have eE:(k:Int)<n:=qB
   have x9:(k:Int)<4096:=qB
   obtain⟨b,off,x,rfl,hx,KP,H8⟩:∃ b off,∃ x:Nat,p=some ⟨b,off,none⟩∧wr.cell? ⟨b,off+k,none⟩=some (.int .u8 x)∧x<256∧b<w.heap.size:=by
    obtain⟨p',cap',e,_,_,h3⟩:=HB.out.low kw
    cases e
    exact h3 k x8
   go_wp2_with fail
   go_region
   go_wp2_with fail;go_roundw
   case rel=>exact⟨k+1,qB,by go_num,jg.step ⟨kw,h,TY.out,c0,c1,c2,f1,f2⟩ _⟩
   case measure=>simp[intOf];omega
  ·have eE:¬(k:Int)<n:=qB
   go_wp2_with fail;go_ret;exact⟨_,rfl,zm _,⟨_,n,0,h,c0,c1,c2,f1,f2,TY.out,qB,HB.out.low kw⟩,kw⟩
theorem aU.dr {w w':World} {B b:Nat} {v:Value} {a:List Nd} (h:aU w b v a) (k:Dr B w w') (hB:B<b):aU w' b v a:=h.touch k.1 (fun i hi e=>by have:=(h.len i hi).1;omega)
theorem aU.own_shape {w:World} {B:Nat} {v:Value} {a:List Nd} (h:aU w B v a):∃ p n c,v=.slice p n c:=by
 obtain⟨p,c,e,_⟩:=At.of_own h;exact⟨p,_,c,e⟩
def I9 (B n:Nat) (w:World) (e:Ending) (w':World):Prop:=∃ v,∃ t:Fm,e=.returned v∧aU w' w.heap.size v t.enc∧t.enc.length≤max n 1∧t.wf∧Dr B w w'
theorem lC (r:Nat) {t:Fm} (ht:t.wf) (h:r<2):∃ u:Fm,(⟨5+r,0⟩:Nd)::t.enc=u.enc∧u.enc.length=t.enc.length+1∧u.wf:=by
 have:r=0∨r=1:=qB
 rcases this with rfl | rfl
 ·exact⟨.box t,rfl,by simp[Fm.enc],ht⟩
 ·exact⟨.dia t,rfl,by simp[Fm.enc],ht⟩
theorem jx (r:Nat) {t u:Fm} (ht:t.wf) (hu:u.wf) (h:r<3):∃ z:Fm,(⟨2+r,0⟩:Nd)::(t.enc++u.enc)=z.enc∧z.enc.length=t.enc.length+u.enc.length+1∧z.wf:=by
 have:r=0∨r=1∨r=2:=qB
 rcases this with rfl | rfl | rfl
 ·exact⟨.and t u,rfl,by simp[Fm.enc],ht,hu⟩
 ·exact⟨.or t u,rfl,by simp[Fm.enc],ht,hu⟩
 ·exact⟨.imp t u,rfl,by simp[Fm.enc],ht,hu⟩
theorem jt (B vr:Nat) (Lo:vr≤6) (m:Bool):∀ n:Nat,n≤1000→∀ w,Src w B→Calls Tryz.prog 95 #[.pointer (some ⟨B,0,none⟩),.int .i64 n,.int .i64 vr,.bool m] w (I9 B n w):=by
 intro n
 induction n using Nat.strongRecOn with
 | ind n ih=>
 intro hn w hs;have IH:=hid (fun k hk (Lg:k≤1000) w2 Ll=>ih k hk Lg w2 Ll);clear ih
 by_cases h2:n≤2
 ·have h2':(n:Int)≤2:=qB
  go_enter Tryz.func95,Tryz.ntmps95;go_wp2_with fail;refine(aE 8 B _ hs qB).mono ?_;rintro e w1 ⟨r1,rfl,La,d1⟩;have D1:Dr B w w1:=d1
  by_cases H9:r1=0
  ·subst H9
   go_wp2_with fail;refine(cU _).mono ?_;rintro e w9 ⟨v9,rfl,eE,k9⟩;go_wp2_with fail;go_ret;exact⟨_,.fls,rfl,eE.mono D1.size,by simp[Fm.enc];omega,trivial,D1.keeps k9⟩
  ·have hz':((r1:Nat):Int)≠0:=qB
   go_wp2_with fail;refine(aE (vr:Int) B _ D1.2 qB).mono ?_;rintro e w8 ⟨r8,rfl,Ld,d8⟩;have D8:=D1.trans d8;go_wp2_with fail;refine(bO r8 _).mono ?_;rintro e w9 ⟨v9,rfl,eE,k9⟩;go_wp2_with fail;go_ret;exact⟨_,.var r8,rfl,eE.mono D8.size,by simp[Fm.enc];omega,(show r8<6 by omega),D8.keeps k9⟩
 ·have h2':¬(n:Int)≤2:=qB
  have Ln:2<n:=qB
  cases m with
  | false=>
   go_enter Tryz.func95,Tryz.ntmps95;go_wp2_with fail;refine(aE 9 B _ hs qB).mono ?_;rintro e w1 ⟨r1,rfl,La,d1⟩
   by_cases H9:r1=0
   ·subst H9
    go_wp2_with fail;refine(aE 8 B _ d1.2 qB).mono ?_;rintro e w2 ⟨r2,rfl,Lb,d2⟩;have D2:Dr B w w2:=(d1.trans d2)
    by_cases KP:r2=0
    ·subst KP
     go_wp2_with fail;refine(cU _).mono ?_;rintro e w9 ⟨v9,rfl,eE,k9⟩;go_wp2_with fail;go_ret;exact⟨_,.fls,rfl,eE.mono D2.size,by simp[Fm.enc];omega,trivial,D2.keeps k9⟩
    ·have hz':((r2:Nat):Int)≠0:=qB
     go_wp2_with fail;refine(aE (vr:Int) B _ D2.2 qB).mono ?_;rintro e w8 ⟨r8,rfl,Ld,d8⟩;have D8:=D2.trans d8;go_wp2_with fail;refine(bO r8 _).mono ?_;rintro e w9 ⟨v9,rfl,eE,k9⟩;go_wp2_with fail;go_ret;exact⟨_,.var r8,rfl,eE.mono D8.size,by simp[Fm.enc];omega,(show r8<6 by omega),D8.keeps k9⟩
   ·have KY:((r1:Nat):Int)≠0:=qB
    go_wp2_with fail;refine(aE 6 B _ d1.2 qB).mono ?_;rintro e w3 ⟨r3,rfl,Lc,d3⟩;have D3:=d1.trans d3
    by_cases KZ:r3=0
    ·subst KZ
     have IH2:=hid (IH.out (n-2) qB qB w3 D3.2);have KS:((n-2:Nat):Int)=(n:Int)-2:=qB;rw[KS] at IH2;go_wp2_with fail;refine IH2.out.mono ?_;rintro e w4 ⟨v4,t4,rfl,x6,K0,ok4,d4⟩;have D4:=D3.trans d4;obtain⟨p4,n4,q4,rfl⟩:=x6.own_shape;have KR:=hid (gK t4 _ w4 (x6.nds qB) qB);clear x6;go_wp2_with fail;refine KR.out.mono ?_;rintro e w5 ⟨v5,rfl,h9,k5⟩;go_wp2_with fail;go_ret;exact⟨_,Fm.not t4,rfl,h9.mono D4.size,by simp[Fm.not,Fm.enc];omega,⟨ok4,trivial⟩,D4.keeps k5⟩
    ·have hz':((r3:Nat):Int)≠0:=qB
     go_wp2_with fail;refine(aE ((n:Int)-2) B _ D3.2 qB).mono ?_;rintro e w4 ⟨r4,rfl,Lj,d4⟩;have D4:=D3.trans d4;have KV:r4+2<n:=qB;have IH5:=hid (IH.out (1+r4) qB qB w4 D4.2);have KT:((1+r4:Nat):Int)=1+(r4:Int):=qB;rw[KT] at IH5;go_wp2_with fail;refine IH5.out.mono ?_;rintro e w5 ⟨v5,t5,rfl,h9,Lh,ok5,d5⟩;have D5:=D4.trans d5;have x9:B<w4.heap.size:=D4.2.lt;obtain⟨p5,n5,q5,rfl⟩:=h9.own_shape;go_wp2_with fail;refine(aE 3 B _ D5.2 qB).mono ?_;rintro e w6 ⟨r6,rfl,Lk,d6⟩;have D6:=D5.trans d6;have H7:=h9.dr d6 x9;have IH7:=hid (IH.out (n-1-(1+r4)) qB qB w6 D6.2);have KU:((n-1-(1+r4):Nat):Int)=(n:Int)-1-(1+(r4:Int)):=qB;rw[KU] at IH7;clear h9;go_wp2_with fail;refine IH7.out.mono ?_;rintro e w7 ⟨v7,t7,rfl,x8,Li,ok7,d7⟩;have D7:=D6.trans d7;have H8:=H7.dr d7 x9;obtain⟨p7,n7,q7,rfl⟩:=x8.own_shape;have x7:=hid (bQ (2+(r6:Int)) _ _ _ _ w7 (H8.nds qB) (x8.nds qB) qB);obtain⟨z,hz,Le,okz⟩:=jx r6 ok5 ok7 qB;rw[hz] at x7;clear H7 x8 H8 hz;go_wp2_with fail;refine x7.out.mono ?_;rintro e w8 ⟨v8,rfl,eE,k9⟩;go_wp2_with fail;go_ret;exact⟨_,z,rfl,eE.mono D7.size,qB,okz,D7.keeps k9⟩
  | true=>
   go_enter Tryz.func95,Tryz.ntmps95;go_wp2_with fail;refine(aE 9 B _ hs qB).mono ?_;rintro e w1 ⟨r1,rfl,La,d1⟩
   by_cases H9:r1=0
   ·subst H9
    go_wp2_with fail;refine(aE 8 B _ d1.2 qB).mono ?_;rintro e w2 ⟨r2,rfl,Lb,d2⟩;have D2:Dr B w w2:=(d1.trans d2)
    by_cases KP:r2=0
    ·subst KP
     go_wp2_with fail;refine(cU _).mono ?_;rintro e w9 ⟨v9,rfl,eE,k9⟩;go_wp2_with fail;go_ret;exact⟨_,.fls,rfl,eE.mono D2.size,by simp[Fm.enc];omega,trivial,D2.keeps k9⟩
    ·have hz':((r2:Nat):Int)≠0:=qB
     go_wp2_with fail;refine(aE (vr:Int) B _ D2.2 qB).mono ?_;rintro e w8 ⟨r8,rfl,Ld,d8⟩;have D8:=D2.trans d8;go_wp2_with fail;refine(bO r8 _).mono ?_;rintro e w9 ⟨v9,rfl,eE,k9⟩;go_wp2_with fail;go_ret;exact⟨_,.var r8,rfl,eE.mono D8.size,by simp[Fm.enc];omega,(show r8<6 by omega),D8.keeps k9⟩
   ·have KY:((r1:Nat):Int)≠0:=qB
    go_wp2_with fail;refine(aE 3 B _ d1.2 qB).mono ?_;rintro e w2 ⟨r2,rfl,Lb,d2⟩;have D2:=d1.trans d2
    by_cases KP:r2=0
    ·subst KP
     go_wp2_with fail;refine(aE 2 B _ D2.2 qB).mono ?_;rintro e w3 ⟨r3,rfl,Lc,d3⟩;have D3:=D2.trans d3;have IH4:=hid (IH.out (n-1) qB qB w3 D3.2);have Lf:((n-1:Nat):Int)=(n:Int)-1:=qB;rw[Lf] at IH4;go_wp2_with fail;refine IH4.out.mono ?_;rintro e w4 ⟨v4,t4,rfl,x6,K0,ok4,d4⟩;have D4:=D3.trans d4;obtain⟨p4,n4,q4,rfl⟩:=x6.own_shape;have x7:=hid (ee (5+(r3:Int)) _ _ w4 (x6.nds qB) qB);obtain⟨z,hz,Le,okz⟩:=lC r3 ok4 qB;rw[hz] at x7;clear x6 hz;go_wp2_with fail;refine x7.out.mono ?_;rintro e w5 ⟨v5,rfl,h9,k5⟩;go_wp2_with fail;go_ret;exact⟨_,z,rfl,h9.mono D4.size,qB,okz,D4.keeps k5⟩
    ·have Lm:((r2:Nat):Int)≠0:=qB
     go_wp2_with fail;refine(aE 6 B _ D2.2 qB).mono ?_;rintro e w3 ⟨r3,rfl,Lc,d3⟩;have D3:=D2.trans d3
     by_cases KZ:r3=0
     ·subst KZ
      have IH2:=hid (IH.out (n-2) qB qB w3 D3.2);have KS:((n-2:Nat):Int)=(n:Int)-2:=qB;rw[KS] at IH2;go_wp2_with fail;refine IH2.out.mono ?_;rintro e w4 ⟨v4,t4,rfl,x6,K0,ok4,d4⟩;have D4:=D3.trans d4;obtain⟨p4,n4,q4,rfl⟩:=x6.own_shape;have KR:=hid (gK t4 _ w4 (x6.nds qB) qB);clear x6;go_wp2_with fail;refine KR.out.mono ?_;rintro e w5 ⟨v5,rfl,h9,k5⟩;go_wp2_with fail;go_ret;exact⟨_,Fm.not t4,rfl,h9.mono D4.size,by simp[Fm.not,Fm.enc];omega,⟨ok4,trivial⟩,D4.keeps k5⟩
     ·have hz':((r3:Nat):Int)≠0:=qB
      go_wp2_with fail;refine(aE ((n:Int)-2) B _ D3.2 qB).mono ?_;rintro e w4 ⟨r4,rfl,Lj,d4⟩;have D4:=D3.trans d4;have KV:r4+2<n:=qB;have IH5:=hid (IH.out (1+r4) qB qB w4 D4.2);have KT:((1+r4:Nat):Int)=1+(r4:Int):=qB;rw[KT] at IH5;go_wp2_with fail;refine IH5.out.mono ?_;rintro e w5 ⟨v5,t5,rfl,h9,Lh,ok5,d5⟩;have D5:=D4.trans d5;have x9:B<w4.heap.size:=D4.2.lt;obtain⟨p5,n5,q5,rfl⟩:=h9.own_shape;go_wp2_with fail;refine(aE 3 B _ D5.2 qB).mono ?_;rintro e w6 ⟨r6,rfl,Lk,d6⟩;have D6:=D5.trans d6;have H7:=h9.dr d6 x9;have IH7:=hid (IH.out (n-1-(1+r4)) qB qB w6 D6.2);have KU:((n-1-(1+r4):Nat):Int)=(n:Int)-1-(1+(r4:Int)):=qB;rw[KU] at IH7;clear h9;go_wp2_with fail;refine IH7.out.mono ?_;rintro e w7 ⟨v7,t7,rfl,x8,Li,ok7,d7⟩;have D7:=D6.trans d7;have H8:=H7.dr d7 x9;obtain⟨p7,n7,q7,rfl⟩:=x8.own_shape;have x7:=hid (bQ (2+(r6:Int)) _ _ _ _ w7 (H8.nds qB) (x8.nds qB) qB);obtain⟨z,hz,Le,okz⟩:=jx r6 ok5 ok7 qB;rw[hz] at x7;clear H7 x8 H8 hz;go_wp2_with fail;refine x7.out.mono ?_;rintro e w8 ⟨v8,rfl,eE,k9⟩;go_wp2_with fail;go_ret;exact⟨_,z,rfl,eE.mono D7.size,qB,okz,D7.keeps k9⟩
theorem aI.lit (w:World) (xs:List Int) (hl:xs.length≤maxLen):aI (w.alloc (.cells (aO xs).toArray 2)) w.heap.size (.slice (some ⟨w.heap.size,0,none⟩) xs.length xs.length) xs:=
 ⟨by simp[aO],.inr ⟨w.heap.size,xs.length,_,rfl,zm _,heap_alloc_new w _,zm _,hl,by simp[aO],by rw[List.take_of_length_le (by simp[aO])]⟩⟩
def vmL (l:List (List Nd)):Nat:=l.foldl (fun m a=>m ||| vm a) 0
theorem y8 (l:List (List Nd)) (k:Nat) (h:k<l.length):vmL (l.take (k+1))=vmL (l.take k) ||| vm l[k]:=by
 unfold vmL;rw[zq h,List.foldl_append];rfl
theorem Ih {a:List Nd} (h:a.all dR=true):vm a<64:=by
 have:=Ii h a.length (zm _);rwa[List.take_length] at this
theorem Fu {l:List (List Nd)} (h:∀ a∈l,a.all dR=true):∀ k,k≤l.length→vmL (l.take k)<64
 | 0,_=>by simp[vmL]
 | k+1,hk=>by
  rw[y8 l k qB];exact Nat.or_lt_two_pow (n:=6) (Fu h k qB) (Ih (h _ (zo qB)))
theorem KF:∀ (m n:Fin 64),bits BinOp.or IntKind.i64 ((m:Nat):Int) ((n:Nat):Int)=(((m:Nat) ||| (n:Nat):Nat):Int):=by decide +kernel
theorem jQ (l:List (List Nd)) (v:Value) (w:World) (hv:bW w v l) (ha:∀ a∈l,a.all dR=true):Calls Tryz.prog 91 #[v] w (BR w (mem (vmL l))):=by
 have x9:=hv;obtain⟨p,cap,rfl,KP,H8,H7,_⟩:=hv;unfold maxLen at H8;have HA:=hid ha;have HL:=hid (Fu ha);clear ha;have HM:=hid (fun w2=>ua (vmL l) w2 (by have:=HL.out l.length (zm _);rwa[List.take_length] at this));go_enter Tryz.func91,Tryz.ntmps91;go_wp2
 go_loopw [3,8] (fun c i' wr=>∃ k:Nat,k≤l.length∧i'=.int .i64 k∧c=.int .i64 (vmL (l.take k))∧aa w wr) (fun _ i _=>l.length-(intOf i).toNat)
 case atStart=>exact⟨0,qB,rfl,rfl,aa.refl w⟩
 case round=>
  obtain⟨k,hk,rfl,rfl,kw⟩:=hrel
  by_cases h9:k<l.length
  ·have x6:(k:Int)<l.length:=qB
   obtain⟨b,off,u,rfl,hc,hu⟩:=(bW.keeps x9 kw).get k h9;obtain⟨pu,nu,cu,rfl⟩:=hu.shape;have x7:=HA.out _ (zo h9);have x8:=y8 l k h9;have eE:=KF ⟨vmL (l.take k),HL.out k hk⟩ ⟨vm l[k],Ih x7⟩
   simp only at eE
   rw[←x8] at eE;have HV:=hid (oZ l[k] _ wr hu x7);have HO:=hid eE;clear eE x8 hu x7 x9;generalize vm l[k]=y at*;generalize vmL (l.take k)=x at*;go_wp2_with fail;refine HV.out.mono ?_;rintro e w2 ⟨rfl,k2⟩;go_wp2_with fail;go_roundw
   case rel=>exact⟨k+1,qB,by go_num,by rw[HO.out],kw.trans k2⟩
   case measure=>simp[intOf];omega
  ·obtain rfl:k=l.length:=qB
   have x6:¬(l.length:Int)<l.length:=qB;rw[List.take_length];go_wp2_with fail;refine(HM.out _).mono ?_;rintro e w2 ⟨v2,rfl,H9,k2⟩;go_wp2_with fail;go_ret;exact⟨_,rfl,H9.mono kw.size,kw.trans k2⟩
theorem uq (n:Int) (B:Nat) (w:World) (hs:Src w B) (hn:n≤1000000):Calls Tryz.prog 13 #[.pointer (some ⟨B,0,none⟩),.int .i64 n] w fun e w'=>∃ r:Nat,e=.returned (.int .i64 r)∧((r:Int)<n∨r=0)∧Dr B w w':=by
 by_cases h1:n<1
 ·go_enter Tryz.func13,Tryz.ntmps13
  go_wp2;go_ret;exact⟨0,rfl,.inr rfl,Dr.of hs (aa.refl w)⟩
 ·obtain⟨v,m,a,h,c0,c1,c2,f1,f2,ty,ha,hb⟩:=hs
  obtain⟨p,cap,rfl,H7,x7,x6⟩:=hb;unfold maxLen at x7;have HB:=hid x6;go_enter Tryz.func13,Tryz.ntmps13;go_wp2;obtain⟨y,hy,KS⟩:=Hj (IntKind.u64.wrap (IntKind.u64.wrap (h*6364136223846793005)+1442695040888963407)/8589934592)
  have x8:wrap64 (y:Int)=y:=by unfold wrap64;omega
  rw[hy,x8];clear hy x8;generalize IntKind.u64.wrap (IntKind.u64.wrap (h*6364136223846793005)+1442695040888963407)=h2;have t2:al w (w.setCell ⟨B,2,none⟩ (.int .u64 h2)) (fun i=>i=B):=(al.grown (db B 2 _)).mono (fun k e=>by cases e;rfl)
  have d0:(w.setCell ⟨B,2,none⟩ (.int .u64 h2)).cell? ⟨B,0,none⟩=some (.slice p m cap):=by rw[World.cell?_setCell_other _ _ _ _ qD];exact c0
  have d1:(w.setCell ⟨B,2,none⟩ (.int .u64 h2)).cell? ⟨B,1,none⟩=some (.int .i64 a):=by rw[World.cell?_setCell_other _ _ _ _ qD];exact c1
  have d2:(w.setCell ⟨B,2,none⟩ (.int .u64 h2)).cell? ⟨B,2,none⟩=some (.int .u64 h2):=World.cell?_setCell_same _ _ _ c2
  have g1:(w.setCell ⟨B,2,none⟩ (.int .u64 h2)).frozen? ⟨B,1,none⟩=false:=by simpa using f1
  have g2:(w.setCell ⟨B,2,none⟩ (.int .u64 h2)).frozen? ⟨B,2,none⟩=false:=by simpa using f2
  have eE:lM (w.setCell ⟨B,2,none⟩ (.int .u64 h2)) (.slice p m cap) m B:=lM.touch ⟨p,cap,rfl,H7,x7,HB.out⟩ t2;have ty2:=hid (ty.set ⟨B,2,none⟩ (.int .u64 h2));clear ty;have T2:=hid t2;clear t2;generalize w.setCell ⟨B,2,none⟩ (.int .u64 h2)=w2 at*;clear c0 c1 c2 f1 f2 x6
  by_cases x9:a<m
  ·have h9:(a:Int)<m:=qB
   obtain⟨b,off,x,rfl,hx,KR,KP⟩:∃ b off,∃ x:Nat,p=some ⟨b,off,none⟩∧w2.cell? ⟨b,off+a,none⟩=some (.int .u8 x)∧x<256∧b<B:=by
    obtain⟨p',cap',e,_,_,h3⟩:=eE
    cases e
    exact h3 a x9
   go_quiet (fail)
   go_wp2_with fail
   go_quiet (fail)
   go_wp2_with fail;go_ret;have H8:0≤((y:Int)+x)%n:=Int.emod_nonneg _ qB;have H9:((y:Int)+x)%n<n:=Int.emod_lt_of_pos _ qB
   have t3:∀ z,al w2 ((w2.drewN z).setCell ⟨B,1,none⟩ (.int .i64 ((a:Int)+1))) (fun i=>i=B):=fun z=>(al.of_keeps ((aa.refl w2).drewN z) _).trans ((al.grown (db B 1 _)).mono (fun k e=>by cases e;rfl))
   refine⟨(((y:Int)+x)%n).toNat,aK qB,.inl qB,T2.out.trans (t3 _),_,m,a+1,h2,?_,?_,?_,?_,?_,(ty2.out.drewN _).set _ _,qB,eE.touch (t3 _)⟩
   ·rw[World.cell?_setCell_other _ _ _ _ qD];exact d0
   ·refine(World.cell?_setCell_same _ _ _ (u:=.int .i64 a) ?_).trans ?_
    ·exact d1
    ·simp
   ·rw[World.cell?_setCell_other _ _ _ _ qD];exact d2
   ·simpa using g1
   ·simpa using g2
  ·have h9:¬(a:Int)<m:=qB
   go_quiet (fail)
   go_wp2_with fail;go_ret;have H8:0≤(y:Int)%n:=Int.emod_nonneg _ qB;have H9:(y:Int)%n<n:=Int.emod_lt_of_pos _ qB;have t3:=al.of_keeps ((aa.refl w2).drewN nq) (fun i=>i=B);exact⟨((y:Int)%n).toNat,aK qB,.inl qB,T2.out.trans t3,_,m,a,h2,d0,d1,d2,g1,g2,ty2.out.drewN _,ha,eE.touch t3⟩
theorem EH (v:Value) (n:Nat) (seed:Nat) (w:World) (hv:Bts w v n) (hn:n≤4096) (x6:seed≤100000):Calls Tryz.prog 12 #[v,.int .u64 seed] w fun e w'=>∃ B,e=.returned (.pointer (some ⟨B,0,none⟩))∧w.heap.size≤B∧Src w' B∧aa w w':=by
 have x7:=hv;obtain⟨p,cap,rfl,H9,H7,x8⟩:=hv;unfold maxLen at H7;have HB:=hid x7;clear x7 x8;go_enter Tryz.func12,Tryz.ntmps12;go_wp2;have h9:aa w (w.alloc (.cells #[.slice p n cap,.int .i64 0,.int .u64 ((seed:Int)*7681+(n:Int))] 71)):=(aa.refl w).alloc _
 go_loopw [6] (fun i' wr=>∃ k:Nat,k≤n∧i'=.int .i64 k∧jg w (.slice p n cap) wr) (fun i _=>n-(intOf i).toNat)
 case atStart=>exact⟨0,qB,rfl,h9,((seed:Int)*7681+(n:Int)),⟨_,cw.alloc _ _ _,qC,qC,by unfold C8;decide⟩,qD,qD,qD,qD,qD⟩
 case round=>
  obtain⟨k,hk,rfl,kw,h,ty,c0,c1,c2,f1,f2⟩:=hrel;have TY:=hid ty;clear ty;clear h9
  by_cases x9:k<n
  ·have eE:(k:Int)<n:=qB
   obtain⟨b,off,x,rfl,hx,KP,H8⟩:∃ b off,∃ x:Nat,p=some ⟨b,off,none⟩∧wr.cell? ⟨b,off+k,none⟩=some (.int .u8 x)∧x<256∧b<w.heap.size:=by
    obtain⟨p',cap',e,_,_,h3⟩:=HB.out.low kw
    cases e
    exact h3 k x9
   go_wp2_with fail
   go_region
   go_wp2_with fail;go_roundw
   case rel=>exact⟨k+1,qB,by go_num,jg.step ⟨kw,h,TY.out,c0,c1,c2,f1,f2⟩ _⟩
   case measure=>simp[intOf];omega
  ·have eE:¬(k:Int)<n:=qB
   go_wp2_with fail;go_ret;exact⟨_,rfl,zm _,⟨_,n,0,h,c0,c1,c2,f1,f2,TY.out,qB,HB.out.low kw⟩,kw⟩
theorem FJ (v:Value) (n:Nat) (w:World) (hv:Bts w v n):Calls Tryz.prog 4 #[v] w fun e w'=>e=.returned (.bool (decide (4096<n)))∧w=w':=by
 obtain⟨p,c,rfl,hc,hm,_⟩:=hv;unfold maxLen at hm;go_enter Tryz.func4,Tryz.ntmps4;go_wp2;go_ret;exact⟨ab (by rw[Bool.eq_iff_iff];simp;omega),rfl⟩
theorem Bts.keeps {w w':World} {v:Value} {n:Nat} (h:Bts w v n) (k:aa w w'):Bts w' v n:=(lM.low h k).up k.size
theorem oC (a b:List Nd) (va vb:Value) (w:World) (KZ:Nds w va a) (K0:Nds w vb b):
  Calls Tryz.prog 17 #[va,vb] w fun e w'=>e=.returned (.bool (decide (a=b)))∧aa w w':=by
 have x7:=KZ;have x8:=K0;obtain⟨pa,ca,rfl,La,H7,_,KP⟩:=KZ;obtain⟨pb,cb,rfl,Lb,H8,_,KR⟩:=K0;unfold maxLen at H7 H8
 by_cases hl:a.length=b.length
 ·have hl':((a.length:Int) != (b.length:Int))=false:=by simp[hl]
  have HL:=hid hl;clear hl;go_enter Tryz.func17,Tryz.ntmps17;go_wp2
  go_loopw [4,5] (fun r i' wr=>∃ k:Nat,k≤a.length∧a.take k=b.take k∧aa w wr∧i'=.int .i64 k∧r=.bool false) (fun _ i _=>a.length-(intOf i).toNat)
  case atStart=>exact⟨0,qB,rfl,aa.refl w,rfl,rfl⟩
  case round=>
   obtain⟨k,hk,KY,kw,rfl,rfl⟩:=hrel;have HT:=hid KY;clear KY;clear hl'
   by_cases KS:k<a.length
   ·have x6:k<b.length:=by have:=HL.out;omega
    obtain⟨_,_,e1,_,_,eE,_⟩:=x7.keeps kw.drew;obtain⟨_,_,e2,_,_,h9,_⟩:=x8.keeps kw.drew
    cases e1;cases e2
    obtain⟨b1,o1,rfl,h1,h2⟩:=eE.nd k KS;obtain⟨b2,o2,rfl,h3,h4⟩:=h9.nd k x6;clear eE h9 x7 x8;have Lc:(k:Int)<a.length:=qB;have KT:(k:Int)<b.length:=qB
    by_cases he:a[k]=b[k]
    ·have H9:a[k].k=b[k].k:=by rw[he]
     have KV:a[k].s=b[k].s:=by rw[he]
     rw[H9] at h1;rw[KV] at h2;have HE:=hid he;clear he H9 KV;go_wp2_with fail
     go_region
     go_wp2;go_roundw
     case rel=>exact⟨k+1,qB,by rw[zq KS,zq x6,HT.out,HE.out],kw.drew,by go_num,rfl⟩
     case measure=>simp[intOf];omega
    ·have KU:decide (a=b)=false:=by rw[decide_eq_false_iff_not];rintro rfl;exact he rfl
     have HN:=hid KU;clear KU
     have x9:¬(a[k].k=b[k].k∧a[k].s=b[k].s):=fun ⟨g1,g2⟩=>he (by cases hx:a[k];cases hy:b[k];simp[hx,hy] at g1 g2;simp[g1,g2])
     clear he;generalize a[k].k=x1 at*;generalize a[k].s=x2 at*;generalize b[k].k=y1 at*;generalize b[k].s=y2 at*
     by_cases hx:x1=y1
     ·have Ld:¬x2=y2:=fun e=>x9 ⟨hx,e⟩
      subst hx;clear x9;go_wp2_with fail
      go_region
      go_wp2;go_ret;exact⟨ab HN.out.symm,kw.drew⟩
     ·clear x9
      go_wp2_with fail
      go_region
      go_wp2;go_ret;exact⟨ab HN.out.symm,kw.drew⟩
   ·go_wp2
    go_ret;refine⟨ab ?_,kw⟩
    symm;rw[decide_eq_true_eq]
    have h1:=HL.out;have h2:=HT.out;rw[List.take_of_length_le qB,List.take_of_length_le qB] at h2;exact h2
 ·have hl':((a.length:Int) != (b.length:Int))=true:=by simp;omega
  have HL:=hid hl;clear hl;go_enter Tryz.func17,Tryz.ntmps17;go_wp2;go_ret;refine⟨ab ?_,aa.refl _⟩
  symm;rw[decide_eq_false_iff_not]
  rintro rfl;exact HL.out rfl
end
section
open Go.ChangeShapes Go.WideShapes Go.ChangeAt Go.RowKit Go.Deep
theorem Am {H:Type} {enc:TypeId×Value→H} {W:World} {v:Value} {d:DataW H} {ps:List MemPlace} {r:Reach} {b0:Nat} (x6:Value.okWide Tryz.prog W r b0 22 v)
  (h:DataW.Trod enc Tryz.prog W 0 (fun _=>true) true 22 v d ps):
  ∃ p n cap,v=.slice p n cap∧n≤maxLen∧Bts W v n:=by
 obtain⟨p,n,cap,rfl⟩:=okWide_slice Tryz.underlying22 x6;obtain⟨fuel,hf⟩:=h;have hC:Tryz.prog.cellsOf 5=1:=qA
 rcases open_slice1 Tryz.underlying22 hC hf with ⟨eE,_⟩ | ⟨a,len,cap',m,n',V,D,Pl,eE,_,hl,hm,hmm,_,hi⟩
 ·simp[Value.cells] at eE
  obtain⟨rfl,rfl,rfl⟩:=eE;exact⟨none,0,0,rfl,by simp[maxLen],none,0,rfl,qD,by simp[maxLen],fun j hj=>by omega⟩
 ·simp[Value.cells] at eE
  obtain⟨rfl,rfl,rfl⟩:=eE
  simp at hmm
  refine⟨some a,n,cap,rfl,qB,some a,cap,rfl,hl,hm,fun j hj=>?_⟩;obtain⟨hc,ht⟩:=hi j qB;obtain⟨x,hx,_,x7⟩:=DataW.trod_int Tryz.underlying5 ht
  simp at hx
  rw[hx] at hc
  have hr:0≤x∧x<256:=by
   simp[Lit.wf,IntKind.min,IntKind.max,IntKind.bits,IntKind.signed] at x7;omega
  obtain⟨b,off,spot⟩:=a
  have hs:spot=none:=by simpa [Addr.add] using World.cell?_spot (hi 0 qB).1
  subst hs
  have h9:(⟨b,off,none⟩:Addr).add j=⟨b,off+j,none⟩:=by unfold Addr.add;split<;>simp_all
  rw[h9] at hc;exact⟨b,off,x.toNat,rfl,by rw[hc];congr 2;omega,qB,World.block_lt_of_cell? _ _ hc⟩
end
end Go.Proofs.YtagoboblkadelaaGreat
