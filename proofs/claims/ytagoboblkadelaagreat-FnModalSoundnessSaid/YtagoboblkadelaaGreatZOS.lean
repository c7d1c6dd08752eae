import Derived.Test.YtagoboblkadelaaGreatZXV
import Derived.Test.YtagoboblkadelaaGreatZRW
/- own -/
namespace Go.Proofs.YtagoboblkadelaaGreat
set_option maxRecDepth 100000
set_option maxHeartbeats 4000000
open Go.RowKit
theorem ya (l:List Nat) (x:Nat) (v:Value) (w:World) (hv:aV w v (zs l)):Calls Tryz.prog 211 #[v,.int .i64 x] w fun e w'=>e=.returned (.bool (l.contains x))∧w=w':=by
 have x6:=hv;obtain⟨p,cap,rfl,_,x7,_,_⟩:=hv;unfold maxLen at x7;rw[af l] at*;have HC:=hid (fun i (hi:i<l.length)=>x6.zs_cell i hi);clear x6
 have HF:Hid ((∀ j,j<l.length→l.getD j 0≠x)→l.contains x=false):=hid fun h=>by
  rw[Bool.eq_false_iff,ne_eq,List.contains_iff_mem];intro hx;obtain⟨j,hj,e⟩:=List.getElem_of_mem hx;exact h j hj (by rw[bJ hj,e])
 have HT:Hid (∀ j,j<l.length→l.getD j 0=x→l.contains x=true):=hid fun j hj h=>by
  rw[List.contains_iff_mem,←h,bJ hj];exact zo hj
 generalize l.contains x=r at*
 obtain⟨G,hG⟩:∃ G:Nat→Nat,∀ i,G i=l.getD i 0:=⟨fun i=>l.getD i 0,fun _=>rfl⟩
 simp only[←hG] at HC HF HT;clear hG;generalize l.length=n at*;go_enter Tryz.func211,Tryz.ntmps211;go_wp2_with fail
 go_loopw [4,5] (fun s4 s5 wr=>∃ i:Nat,i≤n∧s4=.bool false∧s5=.int .i64 i∧Hid (∀ j,j<i→G j≠x)∧w=wr) (fun _ s5 _=>n-(intOf s5).toNat)
 case atStart=>exact⟨0,qB,rfl,rfl,hid (fun j h=>by omega),rfl⟩
 case round=>
  obtain⟨i,hi,rfl,rfl,HA,rfl⟩:=hrel
  by_cases h9:i<n
  ·have eE:(i:Int)<n:=qB
   obtain⟨b1,o1,rfl,h1⟩:=HC.out i h9
   by_cases he:G i=x
   ·have hb:(((G i:Nat):Int)==(x:Int))=true:=by rw[he];simp
    have HR:=hid (HT.out i h9 he);clear he;generalize G i=y at*;go_wp2_with fail;go_ret;exact⟨ab HR.out.symm,rfl⟩
   ·have hb:(((G i:Nat):Int)==(x:Int))=false:=by simp;omega
    have HE:=hid he;clear he;generalize hy:G i=y at*;have HY:=hid hy;clear hy;go_wp2_with fail;go_roundw
    case rel=>exact⟨i+1,qB,rfl,by go_num,hid (fun j hj=>by
     by_cases e:j=i
     ·rw[e,HY.out];exact HE.out
     ·exact HA.out j qB),trivial⟩
    case measure=>simp[intOf];omega
  ·have e:n=i:=qB
   subst e;have eE:¬(n:Int)<n:=qB;have HR:=hid (HF.out HA.out);go_wp2_with fail;go_ret;exact⟨ab HR.out.symm,rfl⟩
theorem sj (o:List Nat) (m:Nat) (v:Value) (w:World) (hv:aV w v (zs o)) (h8:o.length≤8) (ho:∀ i,o.getD i 0≤8) (hm:m<256):
  Calls Tryz.prog 212 #[v,.int .i64 m] w fun e w'=>e=.returned (.int .i64 (sqz o m o.length:Nat))∧w=w':=by
 have H7:=hv;obtain⟨p,cap,rfl,_,KS,_,_⟩:=hv;unfold maxLen at KS;rw[af o] at*;have HC:=hid (fun i (hi:i<o.length)=>H7.zs_cell i hi);clear H7;have HB:=hid (fun i=>de m (o.getD i 0) w hm (ho i));have HO:=hid (fun (i:Nat) (hi:i≤8)=>mf (i:Int) w qB qB)
 have HS:Hid (∀ k,sqz o m (k+1)=sqz o m k ||| (if m.testBit (o.getD k 0) then 2^k else 0)):=hid fun _=>rfl
 have HL:=hid (AI o m);have H0:Hid (sqz o m 0=0):=hid rfl
 obtain⟨Z,hZ⟩:∃ Z:Nat→Nat,∀ i,Z i=sqz o m i:=⟨_,fun _=>rfl⟩
 obtain⟨G,hG⟩:∃ G:Nat→Nat,∀ i,G i=o.getD i 0:=⟨fun i=>o.getD i 0,fun _=>rfl⟩
 simp only[←hG] at HC HB HS;simp only[←hZ] at HS HL H0 ⊢;clear hG hZ ho;generalize o.length=n at*;go_enter Tryz.func212,Tryz.ntmps212;go_wp2_with fail
 go_loopw [5,6] (fun s5 s6 wr=>∃ i:Nat,i≤n∧s5=.int .i64 (Z i:Nat)∧s6=.int .i64 i∧w=wr) (fun _ s6 _=>n-(intOf s6).toNat)
 case atStart=>exact⟨0,qB,by rw[H0.out];rfl,rfl,rfl⟩
 case round=>
  obtain⟨i,hi,rfl,rfl,rfl⟩:=hrel
  by_cases KP:i<n
  ·have x9:(i:Int)<n:=qB
   obtain⟨b1,o1,rfl,h1⟩:=HC.out i KP;have h9:=hid (HB.out i);have x6:=HO.out i qB
   have eE:(2:Int)^(i:Int).toNat=((2^i:Nat):Int):=by rw[Int.toNat_natCast];push_cast;rfl
   rw[eE] at x6;have x7:=hid x6;clear x6 eE;have hs:=HS.out i;have KR:=HL.out i;have H9:2^i≤2^8:=Nat.pow_le_pow_right qB qB;have KT:=orN (Z i) (2^i) qB qB;clear KR H9;generalize 2^i=P at*;generalize G i=y at*
   cases hb:m.testBit y
   ·rw[hb] at h9
    have x8:Hid (Z (i+1)=Z i):=hid (by rw[hs,hb];simp);clear hb hs;generalize hz:Z i=z at*;have H8:=hid hz;clear hz;go_wp2_with fail;refine h9.out.mono ?_;rintro e w' ⟨rfl,rfl⟩;go_wp2_with fail;go_roundw
    case rel=>exact⟨i+1,qB,by rw[x8.out],by go_num,trivial⟩
    case measure=>simp[intOf];omega
   ·rw[hb] at h9
    have x8:Hid (Z (i+1)=Z i ||| P):=hid (by rw[hs,hb];simp);clear hb hs;generalize hz:Z i=z at*;have H8:=hid hz;clear hz;go_wp2_with fail;refine h9.out.mono ?_;rintro e w' ⟨rfl,rfl⟩;go_wp2_with fail;refine x7.out.mono ?_;rintro e w' ⟨rfl,rfl⟩;go_wp2_with fail;go_roundw
    case rel=>exact⟨i+1,qB,by rw[x8.out],by go_num,trivial⟩
    case measure=>simp[intOf];omega
  ·have e:n=i:=qB
   subst e;have x9:¬(n:Int)<n:=qB;go_wp2_with fail;go_ret;exact⟨rfl,rfl⟩
theorem qm (a o:List Nat) (va vo:Value) (w:World) (KZ:aV w va (zs a)) (KR:aV w vo (zs o)) (KV:o.length≤8) (KU:a.length=o.length) (H7:∀ x∈o,x<o.length) (KT:Bnd o.length a):
  Calls Tryz.prog 181 #[va,vo] w (BR w (zs (gP a o))):=by
 have x9:=qJ KV
 have KY:∀ i,o.getD i 0≤8:=fun i=>by
  by_cases hi:i<o.length
  ·rw[bJ hi];have:=H7 _ (zo hi);omega
  ·rw[zi,List.getElem?_eq_none qB];simp
 have KS:Hid (∀ i,i<o.length→o.getD i 0<o.length):=hid fun i hi=>by rw[bJ hi];exact H7 _ (zo hi)
 have x8:=hid (fun i w2 (k:aa w w2)=>sj o (a.getD i 0) vo w2 (KR.keeps k) KV KY (zv (KT i) x9));have h9:=KZ;have x7:=KR;obtain⟨p,cap,rfl,_,Lh,_,_⟩:=KZ;obtain⟨q,cap2,rfl,_,KP,_,_⟩:=KR;unfold maxLen at Lh KP;rw[af a] at*;rw[af o] at*;have K0:=hid (fun i (hi:i<o.length) wr (k:aa w wr)=>(x7.keeps k).zs_cell i hi);have x6:=hid (fun i (hi:i<a.length) wr (k:aa w wr)=>(h9.keeps k).zs_cell i hi);clear h9 x7;rw[KU] at*
 obtain⟨F,hF⟩:∃ F:Nat→Nat,∀ i,F i=sqz o (a.getD i 0) o.length:=⟨_,fun _=>rfl⟩
 have HR:Hid (∀ k,k<o.length→(gP a o).take (k+1)=(gP a o).take k++[F (o.getD k 0)]):=hid fun k hk=>by
  have Lg:k<(gP a o).length:=by rw[nr];exact hk
  rw[zq Lg]
  congr 1
  simp only[gP,List.getElem_map];rw[hF,bJ hk]
 have Lb:Hid ((gP a o).take o.length=gP a o):=hid (List.take_of_length_le (by rw[nr];omega))
 have Ld:Hid (∀ k,((gP a o).take k).length≤k):=hid fun k=>by rw[List.length_take];omega
 have La:Hid ((gP a o).take 0=[]):=hid rfl;generalize gP a o=R at*
 obtain⟨G,hG⟩:∃ G:Nat→Nat,∀ i,G i=o.getD i 0:=⟨fun i=>o.getD i 0,fun _=>rfl⟩
 obtain⟨A,hA⟩:∃ A:Nat→Nat,∀ i,A i=a.getD i 0:=⟨fun i=>a.getD i 0,fun _=>rfl⟩
 simp only[←hF] at x8;simp only[←hA] at x6 x8;simp only[←hG] at K0 HR KS;clear hF hG hA H7 KT KY KU;generalize o.length=n at*;go_enter Tryz.func181,Tryz.ntmps181;go_wp2_with fail
 go_loopw [5,6] (fun s5 s6 wr=>∃ i:Nat,i≤n∧s6=.int .i64 i∧aI wr w.heap.size s5 (zs (R.take i))∧aa w wr) (fun _ s6 _=>n-(intOf s6).toNat)
 case atStart=>exact⟨0,qB,rfl,by rw[La.out];exact aI.empty w,(aa.refl w).alloc _⟩
 case round=>
  obtain⟨i,hi,rfl,eE,kw⟩:=hrel
  by_cases H8:i<n
  ·have H9:(i:Int)<n:=qB
   obtain⟨b1,o1,e1,h1⟩:=K0.out i H8 wr kw;have hx:=KS.out i H8;have hx':(G i:Int)<n:=qB;obtain⟨b2,o2,e2,h2⟩:=x6.out (G i) hx wr kw;have Le:=hid (x8.out (G i) wr kw);have Lc:=hid (HR.out i H8);have Ll:=Ld.out i;have Lk:=af (R.take i);subst e1 e2;generalize G i=x at*;generalize A x=ax at*;generalize F x=fx at*;have Lm:=kw.size;have kA:=(aa.refl wr).alloc (.cells #[.int .i64 (fx:Int)] 2);have KW:=hid kw;clear kw;go_wp2_with fail;refine Le.out.mono ?_;rintro e w' ⟨rfl,rfl⟩
   go_wp2_with (at_builtin;refine mw rfl _ _ rfl w.heap.size _ (zs (R.take i)) rfl (eE.keeps kA) _ [(fx:Int)] rfl (aV.lit1 wr fx) (by simp;omega) (by rw[Lk];simp;omega) ?_;intro v1 w1 Lj Lf Li)
   go_roundw
   case rel=>exact⟨i+1,qB,by go_num,by rw[Lc.out,fD];exact Lj,(KW.out.trans kA).grown Lf Li⟩
   case measure=>simp[intOf];omega
  ·have e:n=i:=qB
   subst e;have H9:¬(n:Int)<n:=qB;rw[Lb.out] at eE;go_wp2_with fail;go_ret;exact⟨_,rfl,eE,kw⟩
def jR (P:List Nat→Nat→Bool) (o:List Nat):Nat→List (List Nat)
 | 0=>[]
 | v+1=>jR P o v++(if P o v then [o++[v]] else [])
theorem Ba (P:List Nat→Nat→Bool) (o:List Nat):∀ v,jR P o v=((List.range v).filter (P o)).map fun i=>o++[i]
 | 0=>rfl
 | v+1=>by
  rw[jR,Ba P o v,List.range_succ,List.filter_append,List.map_append]
  congr 1
  cases h:P o v<;>simp[h]
theorem rK (P:List Nat→Nat→Bool) (o:List Nat):∀ v,(jR P o v).length≤v
 | 0=>by simp[jR]
 | v+1=>by
  have:=rK P o v;rw[jR,ze]
  split<;>simp<;>omega
def ub (P:List Nat→Nat→Bool) (L:List (List Nat)) (n i:Nat):List (List Nat):=(L.take i).flatMap fun o=>jR P o n
theorem Cw (P:List Nat→Nat→Bool) (L:List (List Nat)) (n:Nat):ub P L n 0=[]:=rfl
theorem uC (P:List Nat→Nat→Bool) (L:List (List Nat)) (n i:Nat) (h:i<L.length):ub P L n (i+1)=ub P L n i++jR P L[i] n:=by
 unfold ub;rw[zq h,List.flatMap_append]
 simp
theorem Ei (P:List Nat→Nat→Bool) (L:List (List Nat)) (n:Nat):ub P L n L.length=L.flatMap fun o=>jR P o n:=by unfold ub;rw[List.take_length]
theorem yu (P:List Nat→Nat→Bool) (L:List (List Nat)) (n:Nat):∀ i,i≤L.length→(ub P L n i).length≤i*n
 | 0,_=>by simp[ub]
 | i+1,h=>by
  rw[uC P L n i qB,ze];have:=yu P L n i qB;have:=rK P (L[i]'qB) n;rw[Nat.add_mul];omega
theorem Ax (n k:Nat):dq n (k+1)=(dq n k).flatMap fun o=>jR (fun o v=>!o.contains v) o n:=by
 rw[dq]
 congr 1
 funext o
 rw[Ba]
theorem uH:∀ n:Fin 5,∀ k:Fin 5,(dq n k).length≤24:=by decide +kernel
theorem uG (n:Nat):∀ k,∀ o∈dq n k,o.length=k
 | 0,o,h=>by simp[dq] at h;rw[h];rfl
 | k+1,o,h=>by
  rw[dq] at h;obtain⟨a,ha,h2⟩:=List.mem_flatMap.1 h;obtain⟨i,_,rfl⟩:=List.mem_map.1 h2;rw[ze,uG n k a ha];rfl
theorem dS.one {w:World} {B:Nat} {u:Value} {x:List Nat} (hu:aI w B u (zs x)) (hB:B≤w.heap.size):dS (w.alloc (.cells #[u] 35)) B (.slice (some ⟨w.heap.size,0,none⟩) 1 1) [x]:=
 ⟨[u],⟨qD,.inr ⟨w.heap.size,1,#[u],rfl,hB,heap_alloc_new w _,zm _,by simp[maxLen],rfl,qD⟩⟩,bT.one (hu.keeps ((aa.refl w).alloc _))⟩
theorem tT (n:Nat) (h4:n≤4) (w:World):Calls Tryz.prog 180 #[.int .i64 n] w (Jj w (dq n n)):=by
 have Lo:=hid (Ax n)
 have Lp:Hid (∀ k,k≤n→(dq n k).length≤24):=hid fun k hk=>uH ⟨n,qB⟩ ⟨k,qB⟩
 have KS:=hid (uG n);have Ln:Hid (dq n 0=[[]]):=hid rfl;go_enter Tryz.func180,Tryz.ntmps180;go_wp2_with fail
 go_loopw [3,4] (fun s3 s4 wr=>∃ k:Nat,k≤n∧s4=.int .i64 k∧dS wr w.heap.size s3 (dq n k)∧aa w wr) (fun _ s4 _=>n-(intOf s4).toNat)
 case atStart=>
  refine⟨0,qB,rfl,?_,((aa.refl w).alloc _).alloc _⟩;rw[Ln.out];have h:=dS.one (x:=[]) (aI.empty w) qD
  have hs:(w.alloc (.cells #[] 2)).heap.size=w.heap.size+1:=by simp
  rw[hs] at h;exact h
 case round=>
  obtain⟨k,hk,rfl,eE,kw⟩:=hrel
  by_cases LL:k<n
  ·have K0 : (k:Int)<n:=qB
   obtain⟨p3,q3,rfl,_,Ls⟩:=eE.shape;have LG:=Lp.out k hk
   have KT:Hid (∀ i (h:i<(dq n k).length),(dq n k)[i].length≤100):=hid fun i h=>by have:=KS.out k _ (zo h);omega
   have KV:=hid (Lo.out k);generalize dq n k=L at*;generalize Lz:wr=wo at*;clear Lz;have KU:=hid eE;clear eE;have Le:=hid kw;have k0:=(aa.refl wo).alloc (.cells #[] 35);have Ld:=hid (dS.empty wo);go_wp2_with fail
   go_loopw [5,6] (fun s5 s6 wx=>∃ i:Nat,i≤L.length∧s6=.int .i64 i∧dS wx wo.heap.size s5 (ub (fun o v=>!o.contains v) L n i)∧aa wo wx) (fun _ s6 _=>L.length-(intOf s6).toNat)
   case atStart=>exact⟨0,qB,rfl,by rw[Cw];exact Ld.out,k0⟩
   case round=>
    obtain⟨i,hi,rfl,eE,kx⟩:=hrel;clear Ld k0
    by_cases x6:i<L.length
    ·have KZ:(i:Int)<L.length:=qB
     have LM:=yu (fun o v=>!o.contains v) L n i hi;have Ll:=hid (uC (fun o v=>!o.contains v) L n i x6);have LJ:i*n≤24*4:=Nat.mul_le_mul qB h4;have Lf:=hid eE;clear eE;generalize Li:ub (fun o v=>!o.contains v) L n i=M at*;have LF:=hid Li;clear Li;generalize Ly:wr=wi at*;clear Ly;go_wp2_with fail
     go_loopw [5,7] (fun s5 s7 wx=>∃ v:Nat,v≤n∧s7=.int .i64 v∧dS wx wo.heap.size s5 (M++jR (fun o v=>!o.contains v) L[i] v)∧aa wo wx) (fun _ s7 _=>n-(intOf s7).toNat)
     case atStart=>exact⟨0,qB,rfl,by simpa [jR] using Lf.out,kx⟩
     case round=>
      obtain⟨v,hv,rfl,eE,kx⟩:=hrel;clear Lf
      by_cases LN:v<n
      ·have Lc:(v:Int)<n:=qB
       have Lr:=KU.out.keeps kx;obtain⟨b1,o1,u,rfl,LH,H9⟩:=Lr.get i x6;obtain⟨pu,qu,e,-,-,-⟩:=At.of_own H9;rw[af] at e;subst e;have LI:=rK (fun o v=>!o.contains v) L[i] v;have x9:Hid (jR (fun o v=>!o.contains v) L[i] (v+1)=jR (fun o v=>!o.contains v) L[i] v++(if !L[i].contains v then [L[i]++[v]] else [])):=hid rfl;obtain⟨p5,q5,e5,_,_⟩:=eE.shape;rw[ze] at e5;subst e5;have H7:=hid (ya L[i] v _ wr (H9.ints (by rw[af];have:=KT.out i x6;omega)));have Lm:=hid (fK (zs L[i]) _ wr (H9.ints (by rw[af];have:=KT.out i x6;omega)));have LK:=KT.out i x6;have h9:=hid eE;clear eE H9;have H8:=hid kx;clear kx;have Lb:=H8.out.size;generalize Lg:L[i]=x at*;have LD:=hid Lg;clear Lg
       have Lh:(M++jR (fun o v=>!o.contains v) x v).length≤2147483647:=by rw[ze];omega
       have Lk:=hid Lh;clear Lh;generalize jR (fun o v=>!o.contains v) x v=E at*
       cases hc:x.contains v
       ·rw[hc] at H7
        have KR:Hid (jR (fun o v=>!o.contains v) x (v+1)=E++[x++[v]]):=hid (by rw[x9.out,hc];simp);clear hc x9;go_wp2_with fail;refine H7.out.mono ?_;rintro e w' ⟨rfl,rfl⟩;go_wp2_with fail;refine Lm.out.mono ?_;rintro e w2 ⟨v39,rfl,x7,k2⟩;have ka:=(aa.refl w2).alloc (.cells #[.int .i64 (v:Int)] 2);have Lu:=(k2.trans ka).size;have LC:=af x;have KX2:=hid (k2.trans ka);obtain⟨p39,q39,e39,-,-,-⟩:=At.of_own x7;rw[af] at e39;subst e39
        have Lj:(zs (x++[v])).length=x.length+1:=by rw[af];simp
        have KP:Hid (∀ (v4:Value) (w4:World),aI w4 wr.heap.size v4 (zs x++[(v:Int)])→(w2.alloc (.cells #[.int .i64 (v:Int)] 2)).grownBy w4 (Value.slice p39 x.length q39).ownBlock→(∀ k,(Value.slice p39 x.length q39).ownBlock=some k→wr.heap.size≤k)→
          ∃ p4 q4,v4=Value.slice p4 (x.length+1) q4∧aa wr (w4.alloc (.cells #[.slice p4 (x.length+1) q4] 35))∧aI (w4.alloc (.cells #[.slice p4 (x.length+1) q4] 35)) wo.heap.size (.slice p4 (x.length+1) q4) (zs (x++[v]))):=hid fun v4 w4 x8 KY La=>by
         rw[←fD] at x8;have k4:=KX2.out.grown KY La;obtain⟨p4,q4,e4,-,-,-⟩:=At.of_own x8;rw[Lj] at e4;subst e4;exact⟨p4,q4,rfl,k4.alloc _,(x8.mono Lb).keeps ((aa.refl w4).alloc _)⟩
        clear Lj
        go_wp2_with (first | (at_builtin;refine mw rfl _ _ rfl wr.heap.size _ (zs x) rfl (x7.keeps ka) _ [(v:Int)] rfl (aV.lit1 w2 v) Lu (by rw[LC];simp;omega) ?_;intro v4 w4 x8 KY La;obtain⟨p4,q4,rfl,k5,Lw⟩:=KP.out v4 w4 x8 KY La) | (at_builtin;refine Jw rfl _ _ rfl wo.heap.size _ (M++E) rfl wr h9.out k5 _ (x++[v]) Lw (H8.out.trans k5).size _ 1 rfl (At.lit1 _ _ _) Lk.out ?_;intro v6 w6 Lx Lq Lt))
        go_roundw
        case rel=>exact⟨v+1,qB,by go_num,by rw[KR.out,←zz];exact Lx,(H8.out.trans k5).grown Lq Lt⟩
        case measure=>simp[intOf];omega
       ·rw[hc] at H7
        have KR:Hid (jR (fun o v=>!o.contains v) x (v+1)=E):=hid (by rw[x9.out,hc];simp);clear hc x9;go_wp2_with fail;refine H7.out.mono ?_;rintro e w' ⟨rfl,rfl⟩;go_wp2_with fail;go_roundw
        case rel=>exact⟨v+1,qB,by go_num,by rw[KR.out];exact h9.out,H8.out⟩
        case measure=>simp[intOf];omega
      ·have e:v=n:=qB
       subst e;have Lc:¬(v:Int)<v:=qB;rw[←Ll.out] at eE;go_wp2_with fail;go_roundw
       case rel=>exact⟨i+1,qB,by go_num,eE,kx⟩
       case measure=>simp[intOf];omega
    ·have e:i=L.length:=qB
     have KZ:¬(i:Int)<L.length:=qB;rw[e,Ei,←KV.out] at eE;go_wp2_with fail;go_roundw
     case rel=>exact⟨k+1,qB,by go_num,eE.mono Le.out.size,Le.out.trans kx⟩
     case measure=>simp[intOf];omega
  ·have e:k=n:=qB
   subst e;have K0:¬(k:Int)<k:=qB;go_wp2_with fail;go_ret;exact⟨_,rfl,eE,kw⟩
theorem Ag (a b:List Nat) (i:Nat) (ha:i<a.length) (hb:i<b.length):fQ (a.drop i) (b.drop i)=if a.getD i 0=b.getD i 0 then fQ (a.drop (i+1)) (b.drop (i+1)) else decide (a.getD i 0<b.getD i 0):=by
 rw[List.drop_eq_getElem_cons ha,List.drop_eq_getElem_cons hb,fQ,bJ ha,bJ hb]
theorem Cp (a b:List Nat) (i:Nat) (h:¬(i<a.length∧i<b.length)) (ha:i≤a.length) (hb:i≤b.length):fQ (a.drop i) (b.drop i)=decide (a.length<b.length):=by
 by_cases h1:i<a.length
 ·have h2:i=b.length:=qB
  rw[h2,List.drop_length,List.drop_eq_getElem_cons (h2▸h1),fQ]
  simp;omega
 ·have h2:i=a.length:=qB
  rw[h2,List.drop_length]
  by_cases h3:a.length<b.length
  ·rw[List.drop_eq_getElem_cons h3,fQ];simp[h3]
  ·rw[List.drop_eq_nil_of_le qB,fQ];simp;omega
theorem yb (a b:List Nat) (va vb:Value) (w:World) (KP:aV w va (zs a)) (KR:aV w vb (zs b)):
  Calls Tryz.prog 182 #[va,vb] w fun e w'=>e=.returned (.bool (fQ a b))∧aa w w':=by
 have eE:=KP;have h9:=KR;obtain⟨p,cap,rfl,_,KS,_,KT⟩:=KP;obtain⟨q,cap2,rfl,_,x8,_,KU⟩:=KR;unfold maxLen at KS x8;rw[af a] at*;rw[af b] at*;have HA:=hid (fun i (hi:i<a.length) wr (k:aa w wr)=>(eE.keeps k).zs_cell i hi);have HB:=hid (fun i (hi:i<b.length) wr (k:aa w wr)=>(h9.keeps k).zs_cell i hi);clear eE h9;have HD:=hid (Ag a b);have HE:=hid (Cp a b);have H9:fQ a b=fQ (a.drop 0) (b.drop 0):=rfl;rw[H9];clear H9
 obtain⟨D,hD⟩:∃ D:Nat→Bool,∀ i,D i=fQ (a.drop i) (b.drop i):=⟨fun i=>fQ (a.drop i) (b.drop i),fun _=>rfl⟩
 obtain⟨A,hA⟩:∃ A:Nat→Nat,∀ i,A i=a.getD i 0:=⟨fun i=>a.getD i 0,fun _=>rfl⟩
 obtain⟨B,hB⟩:∃ B:Nat→Nat,∀ i,B i=b.getD i 0:=⟨fun i=>b.getD i 0,fun _=>rfl⟩
 simp only[←hD,←hA,←hB] at*;clear hD hA hB;generalize a.length=n at*;generalize b.length=m at*;go_enter Tryz.func182,Tryz.ntmps182;go_wp2_with fail
 go_loopw [4,5] (fun s4 s5 wr=>∃ i:Nat,i≤n∧i≤m∧s4=.bool false∧s5=.int .i64 i∧Hid (D i=D 0)∧aa w wr) (fun _ s5 _=>n-(intOf s5).toNat)
 case atStart=>exact⟨0,qB,qB,rfl,rfl,hid rfl,aa.refl w⟩
 case round=>
  obtain⟨i,hi,x9,rfl,rfl,HI,kw⟩:=hrel;have KW:=hid kw
  by_cases H8:i<n
  ·have x7:(i:Int)<n:=qB
   by_cases H7:i<m
   ·have x6:(i:Int)<m:=qB
    obtain⟨b1,o1,rfl,h1⟩:=HA.out i H8 wr kw;obtain⟨b2,o2,rfl,h2⟩:=HB.out i H7 wr kw;have hd:=HD.out i H8 H7
    by_cases he:A i=B i
    ·rw[if_pos he] at hd
     have hb:(((A i:Nat):Int) != (B i:Nat))=false:=by rw[he];simp
     have HX:=hid hd;clear hd;clear he kw;generalize A i=x at*;generalize B i=y at*;go_wp2_with fail
     go_quiet (fail)
     go_wp2_with fail;go_roundw
     case rel=>exact⟨i+1,qB,qB,rfl,by go_num,hid (by rw[←HX.out];exact HI.out),KW.out.drewN _⟩
     case measure=>simp[intOf];omega
    ·rw[if_neg he] at hd
     have hb:(((A i:Nat):Int) != (B i:Nat))=true:=by simp;omega
     have HX:=hid hd;clear hd;clear he kw;generalize A i=x at*;generalize B i=y at*;go_wp2_with fail
     go_quiet (fail)
     go_wp2_with fail
     go_quiet (fail)
     go_wp2_with fail;go_ret;refine⟨ab ?_,(KW.out.drewN _).drewN _⟩;rw[←HI.out,HX.out,Bool.eq_iff_iff]
   ·have x6:¬(i:Int)<m:=qB
    have HX:=hid (HE.out i qB hi x9);clear kw;go_wp2_with fail;go_ret;refine⟨ab ?_,KW.out⟩;rw[←HI.out,HX.out,Bool.eq_iff_iff]
  ·have x7:¬(i:Int)<n:=qB
   have HX:=hid (HE.out i qB hi x9);clear kw;go_wp2_with fail;go_ret;refine⟨ab ?_,KW.out⟩;rw[←HI.out,HX.out,Bool.eq_iff_iff]
theorem vO (a b:List Nat) (va vb:Value) (w:World) (H7:aV w va (zs a)) (H8:aV w vb (zs b)):
  Calls Tryz.prog 133 #[va,vb] w fun e w'=>e=.returned (.bool (a==b))∧aa w w':=by
 have eE:=H7;have h9:=H8;obtain⟨p,cap,rfl,_,KR,_,KT⟩:=H7;obtain⟨q,cap2,rfl,_,x7,_,KU⟩:=H8;unfold maxLen at KR x7;rw[af a] at*;rw[af b] at*;have HA:=hid (fun i (hi:i<a.length) wr (k:aa w wr)=>(eE.keeps k).zs_cell i hi);have HB:=hid (fun i (hi:i<b.length) wr (k:aa w wr)=>(h9.keeps k).zs_cell i hi);clear eE h9
 have HF:Hid (∀ i,a.getD i 0≠b.getD i 0→(a==b)=false):=hid fun i h=>by
  rw[beq_eq_false_iff_ne];intro e;exact h (by rw[e])
 have HN:Hid (a.length≠b.length→(a==b)=false):=hid fun h=>by
  rw[beq_eq_false_iff_ne];intro e;exact h (by rw[e])
 have HT:Hid (a.length=b.length→(∀ j,j<a.length→a.getD j 0=b.getD j 0)→(a==b)=true):=hid fun hl h=>by
  rw[beq_iff_eq]
  refine List.ext_getElem hl fun j h1 h2=>?_
  have:=h j h1;rwa[bJ h1,bJ h2] at this
 generalize (a==b)=r at*
 obtain⟨A,hA⟩:∃ A:Nat→Nat,∀ i,A i=a.getD i 0:=⟨fun i=>a.getD i 0,fun _=>rfl⟩
 obtain⟨B,hB⟩:∃ B:Nat→Nat,∀ i,B i=b.getD i 0:=⟨fun i=>b.getD i 0,fun _=>rfl⟩
 simp only[←hA,←hB] at*;clear hA hB;generalize a.length=n at*;generalize b.length=m at*
 by_cases x8:n=m
 ·subst x8
  have KS:((n:Int) != n)=false:=by simp
  go_enter Tryz.func133,Tryz.ntmps133;go_wp2_with fail
  go_loopw [4,5] (fun s4 s5 wr=>∃ i:Nat,i≤n∧s4=.bool false∧s5=.int .i64 i∧Hid (∀ j,j<i→A j=B j)∧aa w wr) (fun _ s5 _=>n-(intOf s5).toNat)
  case atStart=>exact⟨0,qB,rfl,rfl,hid (fun j h=>by omega),aa.refl w⟩
  case round=>
   obtain⟨i,hi,rfl,rfl,HI,kw⟩:=hrel;have KW:=hid kw
   by_cases x9:i<n
   ·have x6:(i:Int)<n:=qB
    obtain⟨b1,o1,rfl,h1⟩:=HA.out i x9 wr kw;obtain⟨b2,o2,rfl,h2⟩:=HB.out i x9 wr kw
    by_cases he:A i=B i
    ·have hb:(((A i:Nat):Int) != (B i:Nat))=false:=by rw[he];simp
     have HX:=hid he;clear he kw;generalize hx:A i=x at*;generalize hy:B i=y at*;have H9:=hid hx;have KP:=hid hy;clear hx hy;go_wp2_with fail
     go_quiet (fail)
     go_wp2_with fail;go_roundw
     case rel=>exact⟨i+1,qB,rfl,by go_num,hid (fun j hj=>by
      by_cases e:j=i
      ·rw[e,H9.out,KP.out];exact HX.out
      ·exact HI.out j qB),KW.out.drewN _⟩
     case measure=>simp[intOf];omega
    ·have hb:(((A i:Nat):Int) != (B i:Nat))=true:=by simp;omega
     have HX:=hid (HF.out i he);clear he kw;generalize A i=x at*;generalize B i=y at*;go_wp2_with fail
     go_quiet (fail)
     go_wp2_with fail;go_ret;exact⟨ab HX.out.symm,KW.out.drewN _⟩
   ·have e:n=i:=qB
    subst e;have x6:¬(n:Int)<n:=qB;have HX:=hid (HT.out trivial HI.out);clear kw;go_wp2_with fail;go_ret;exact⟨ab HX.out.symm,KW.out⟩
 ·have KS:((n:Int) != m)=true:=by simp;omega
  have HX:=hid (HN.out x8);clear x8;go_enter Tryz.func133,Tryz.ntmps133;go_wp2_with fail;go_ret;exact⟨ab HX.out.symm,aa.refl _⟩
theorem vU (a:List Nat) (va:Value) (w:World) (H8:aV w va (zs a)) (x6:a.length≤4) (KR:Bnd a.length a):
  Calls Tryz.prog 134 #[va] w (BR w (zs (oz a))):=by
 have K0:=H8
 have Lc:oz a=(dq a.length a.length).foldl (j6 a) a:=by rw[yn,pS _ x6]
 rw[Lc];clear Lc
 have h9:∀ o∈dq a.length a.length,o.length=a.length∧∀ x∈o,x<a.length:=fun o ho=>Et qB (by rw[pS _ x6];exact ho)
 have Lu:(dq a.length a.length).length≤24:=uH ⟨a.length,qB⟩ ⟨a.length,qB⟩
 have Lg:Hid (∀ i,(((dq a.length a.length).take i).foldl (j6 a) a).length=a.length):=hid fun i=>
  (xP _ a (fun o ho=>(h9 o (List.mem_of_mem_take ho)).1) rfl KR).1
 have Lk:=hid (fun w2=>tT a.length x6 w2);generalize dq a.length a.length=O at*;have Ll:=hid (fun w2 (k:aa w w2)=>fK (zs a) va w2 (H8.keeps k));have Ln:=hid (fun (o:List Nat) (ho:o∈O) (vo:Value) (w2:World) (k:aa w w2) (Lt:aV w2 vo (zs o))=>qm a o va vo w2 (H8.keeps k) Lt (by have:=(h9 o ho).1;omega) (h9 o ho).1.symm (fun x hx=>by rw[(h9 o ho).1];exact(h9 o ho).2 x hx) (by rw[(h9 o ho).1];exact KR))
 have La:Hid (∀ o∈O,o.length≤4):=hid fun o ho=>by have:=(h9 o ho).1;omega
 have Lh:=hid (fun (x y:List Nat) (vx vy:Value) (w2:World) (h1:aV w2 vx (zs x)) (h2:aV w2 vy (zs y))=>yb x y vx vy w2 h1 h2)
 have Lo:Hid (∀ o∈O,(gP a o).length≤4):=hid fun o ho=>by rw[nr];exact La.out o ho
 have KS:Hid (∀ b o,j6 a b o=if fQ (gP a o) b then gP a o else b):=hid fun _ _=>rfl
 obtain⟨p,cap,rfl,_,Lx,_,_⟩:=H8;rw[af a] at*;have Li:=hid x6;clear x6;clear h9 KR K0;generalize hn:a.length=n at*;have HN:=hid hn;clear hn;go_enter Tryz.func134,Tryz.ntmps134;go_wp2_with fail;refine(Lk.out _).mono ?_;rintro e w1 ⟨v1,rfl,KZ,k1⟩;obtain⟨p1,q1,rfl,_,Lq⟩:=KZ.shape;unfold maxLen at Lq;go_wp2_with fail;refine(Ll.out _ k1).mono ?_;rintro e w2 ⟨v2,rfl,Le,k2⟩;have Lj:=hid (KZ.keeps k2);clear KZ;have Lb:=hid (Le.mono k1.size);clear Le;have H9:=hid (k1.trans k2);clear k1 k2;go_wp2_with fail
 go_loopw [4,5] (fun s4 s5 wr=>∃ i:Nat,i≤O.length∧s5=.int .i64 i∧aI wr w.heap.size s4 (zs ((O.take i).foldl (j6 a) a))∧aa w2 wr) (fun _ s5 _=>O.length-(intOf s5).toNat)
 case atStart=>exact⟨0,qB,rfl,Lb.out,aa.refl w2⟩
 case round=>
  obtain⟨i,hi,rfl,hb,kw⟩:=hrel;clear Lb
  by_cases KT:i<O.length
  ·have KU:(i:Int)<O.length:=qB
   obtain⟨b1,o1,u,rfl,Lw,KV⟩:=(Lj.out.keeps kw).get i KT;have eE:O[i]∈O:=zo KT;have Lr:=La.out _ eE;have Ls:=Lo.out _ eE;have Lm:=hid (Ln.out _ eE u wr (H9.out.trans kw) (KV.ints (by rw[af];omega)));obtain⟨pu,qu,e,-,-,-⟩:=At.of_own KV;subst e;have x9:Hid ((O.take (i+1)).foldl (j6 a) a=j6 a ((O.take i).foldl (j6 a) a) O[i]):=hid (by rw[zq KT,List.foldl_append];rfl);have x7:=hid (KS.out ((O.take i).foldl (j6 a) a) O[i]);have Ld:=Lg.out i;have Lf:=hid Ld;clear Ld;have HB:=hid hb;obtain⟨pb,qb,e,-,-,-⟩:=At.of_own hb;subst e;have KW:=hid kw;clear kw;have KP:=hid (fun (vx:Value) (w3:World) (k3:aa wr w3) (h3:aI w3 wr.heap.size vx (zs (gP a O[i])))=>Lh.out (gP a O[i]) ((O.take i).foldl (j6 a) a) vx _ w3 (h3.ints (by rw[af];omega)) ((HB.out.keeps k3).ints (by rw[af,Lf.out];have:=Li.out;omega)));have KY:=(H9.out.trans KW.out).size;clear hb KV eE Lr Ls;generalize hR:gP a O[i]=R at*;clear hR;generalize (O.take i).foldl (j6 a) a=bst at*;go_wp2_with fail;refine Lm.out.mono ?_;rintro e w3 ⟨v3,rfl,H7,k3⟩;have x8:=hid (KP.out v3 w3 k3 H7);have Lp:=hid (H7.mono KY);obtain⟨p3,q3,e,-,-,-⟩:=At.of_own H7;subst e;clear H7
   cases hl:fQ R bst
   ·rw[hl] at x8
    have HE:Hid ((O.take (i+1)).foldl (j6 a) a=bst):=hid (by rw[x9.out,x7.out,hl];simp);clear hl x9 x7;go_wp2_with fail;refine x8.out.mono ?_;rintro e w4 ⟨rfl,k4⟩;go_wp2_with fail;go_roundw
    case rel=>exact⟨i+1,qB,by go_num,by rw[HE.out];exact HB.out.keeps (k3.trans k4),KW.out.trans (k3.trans k4)⟩
    case measure=>simp[intOf];omega
   ·rw[hl] at x8
    have HE:Hid ((O.take (i+1)).foldl (j6 a) a=R):=hid (by rw[x9.out,x7.out,hl];simp);clear hl x9 x7;go_wp2_with fail;refine x8.out.mono ?_;rintro e w4 ⟨rfl,k4⟩;go_wp2_with fail;go_roundw
    case rel=>exact⟨i+1,qB,by go_num,by rw[HE.out];exact Lp.out.keeps k4,KW.out.trans (k3.trans k4)⟩
    case measure=>simp[intOf];omega
  ·have e:O.length=i:=qB
   have KU:¬(i:Int)<O.length:=qB;rw[←e,List.take_length] at hb;go_wp2_with fail;go_ret;exact⟨_,rfl,hb,H9.out.trans kw⟩
end Go.Proofs.YtagoboblkadelaaGreat
