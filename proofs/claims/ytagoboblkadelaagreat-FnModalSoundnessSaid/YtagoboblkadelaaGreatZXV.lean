import Derived.Test.YtagoboblkadelaaGreatZQE4
import Derived.Test.YtagoboblkadelaaGreatZRB
import Derived.Deep.CutBlock
import Derived.Deep.DeepCutAuto
import Derived.Deep.RegionWith
import Derived.Laws.CopyOwn
import Derived.Shelf.GgSortFunc.SW
/- own -/
namespace Go.Proofs.YtagoboblkadelaaGreat
set_option maxRecDepth 100000
set_option maxHeartbeats 1000000
section
open Go.RowKit
theorem A0 (b:List Nat) (m:Nat) (v:Value) (w:World) (hv:aV w v (zs b)) (hb:b.length≤8) (x7:Bnd b.length b) (hm:m<256):
  Calls Tryz.prog 70 #[v,.int .i64 m] w fun e w'=>e=.returned (.int .i64 (jk b m b.length))∧w=w':=by
 have eE:=qJ hb;have HW:=hid (fun i=>zB (b.getD i 0) m w (zv (x7 i) eE) hm);have HL:=hid (qP b m);have H9:=hv;obtain⟨p,cap,rfl,KP,H8,_,_⟩:=hv;unfold maxLen at H8;rw[af] at*;clear x7 eE;go_enter Tryz.func70,Tryz.ntmps70;go_wp2
 go_loop [5,10] (fun o i'=>∃ i:Nat,i≤b.length∧i'=.int .i64 i∧o=.int .i64 (jk b m i)) (fun _ i=>b.length-(intOf i).toNat)
 case atStart=>exact⟨0,qB,rfl,rfl⟩
 case round=>
  obtain⟨i,hi,rfl,rfl⟩:=hrel
  by_cases H7:i<b.length
  ·obtain⟨b1,o1,rfl,h1⟩:=H9.zs_cell i H7
   have h9:(i:Int)<b.length:=qB
   have hs:jk b m (i+1)=if inB (b.getD i 0) m then jk b m i ||| 2^i else jk b m i:=rfl
   have x8:=HL.out i;have x9:2^i<2^8:=Nat.pow_lt_pow_right qB qB;have x6:=orN (jk b m i) (2^i) qB qB;have e1:=(Eu i qB).1
   have e2:((2^i:Nat):Int)=2^i:=by push_cast;rfl
   rw[e2] at x6;have HH:=hid (HW.out i);have HS:=hid hs;clear hs;have HO:=hid x6;clear x6;clear x8 x9 e2
   cases hin:inB (b.getD i 0) m
   ·rw[hin] at HH HS
    clear hin;generalize b.getD i 0=x at*;go_wp2_with fail;refine HH.out.mono ?_;rintro e w' ⟨rfl,rfl⟩;go_wp2_with fail
    go_round
    case rel=>exact⟨i+1,qB,by go_num,by have h:=HS.out;simp only[Bool.false_eq_true,if_false] at h;rw[h]⟩
    case measure=>simp[intOf];omega
   ·rw[hin] at HH HS
    clear hin;generalize b.getD i 0=x at*;go_wp2_with fail;refine HH.out.mono ?_;rintro e w' ⟨rfl,rfl⟩;go_wp2_with fail
    go_round
    case rel=>exact⟨i+1,qB,by go_num,by have h:=HS.out;simp only[if_true] at h;rw[h,←HO.out]⟩
    case measure=>simp[intOf];omega
  ·obtain rfl:i=b.length:=qB
   have h9:¬(b.length:Int)<b.length:=qB;go_wp2;go_ret;exact⟨rfl,rfl⟩
end
def toP (n:Nat) (o:List Nat):Nat→List Nat
 | 0=>List.replicate n 0
 | k+1=>(toP n o k).set (o.getD k 0) k
def orP (t l:List Nat):Nat:=l.foldl (fun acc y=>acc ||| 2^(t.getD y 0)) 0
theorem BE:∀ n:Fin 6,∀ o∈yH n,o.length=n∧(∀ x∈o,x<n)∧∀ m:Fin (2^(n:Nat)),orP (toP o.length o o.length) (KE m)=sqz o m o.length:=by decide +kernel
theorem Et {n:Nat} (hn:n≤5) {o:List Nat} (ho:o∈yH n):o.length=n∧∀ x∈o,x<n:=
 ⟨(BE ⟨n,qB⟩ o ho).1,(BE ⟨n,qB⟩ o ho).2.1⟩
theorem AI (o:List Nat) (m:Nat):∀ k,sqz o m k<2^k
 | 0=>by simp[sqz]
 | k+1=>by
  rw[sqz];have h:=AI o m k;refine Nat.or_lt_two_pow (by rw[Nat.pow_succ];omega) ?_
  split
  ·exact Nat.pow_lt_pow_right qB qB
  ·exact Nat.two_pow_pos _
theorem nr (a o:List Nat):(gP a o).length=o.length:=by simp[gP]
theorem EF (a o:List Nat):Bnd o.length (gP a o):=mQ fun x hx=>by
 obtain⟨y,_,rfl⟩:=List.mem_map.1 hx;exact AI _ _ _
def j6 (a best o:List Nat):List Nat:=if fQ (gP a o) best then gP a o else best
theorem yn (a:List Nat):oz a=(yH a.length).foldl (j6 a) a:=rfl
theorem xP {a:List Nat} {n:Nat}:∀ (l:List (List Nat)) (best:List Nat),(∀ o∈l,o.length=n)→best.length=n→Bnd n best→(l.foldl (j6 a) best).length=n∧Bnd n (l.foldl (j6 a) best)
 | [],best,_,h1,h2=>⟨h1,h2⟩
 | o::l,best,h,h1,h2=>by
  rw[List.foldl_cons];have ho:=h o qD;refine xP l _ (fun o' ho'=>h o' (by simp[ho'])) ?_ ?_
  ·unfold j6;split
   ·rw[nr,ho]
   ·exact h1
  ·unfold j6;split
   ·have:=EF a o;rwa[ho] at this
   ·exact h2
section
open Go.RowKit
theorem aR.dr {w w':World} {r B:Nat} {T:TypeId} {cs:List Value} (h:aR w r T cs) (k:Dr B w w') (hB:B<r):aR w' r T cs:=aZ h k.1 (fun i hi e=>by
 have:r=i:=by simpa [Value.ownBlock] using hi
 omega)
theorem Dr.besideX {B g:Nat} {a b c:World} (h:Dr B a b) (k:al b c (fun i=>i=g)) (hg:B<g) (ha:a.heap.size≤g):Dr B a c:=by
 have hs:Src c B:=by
  obtain⟨v,n,x,hh,c0,c1,c2,f1,f2,ty,hx,p,cap,e,q1,q2,q3⟩:=h.2;have eE:=World.block_lt_of_cell? _ _ c0;have kc:=k.cell eE (show ¬B=g by omega);refine⟨v,n,x,hh,by rw[kc.1];exact c0,by rw[kc.1];exact c1,by rw[kc.1];exact c2,by rw[kc.2];exact f1,by rw[kc.2];exact f2,ty.touch k qB,hx,p,cap,e,q1,q2,fun j hj=>?_⟩;obtain⟨b',off,y,e2,hc,hy,hb⟩:=q3 j hj;exact⟨b',off,y,e2,by rw[(k.cell (b:=b') (World.block_lt_of_cell? _ _ hc) qB).1];exact hc,hy,hb⟩
 refine⟨⟨k.os.trans h.1.os,k.tape.trans h.1.tape,k.output.trans h.1.output,zx h.1.size k.size,fun i hi hn=>?_⟩,hs⟩;rw[k.block i (zv hi h.1.size) qB];exact h.1.block i hi hn
theorem Dr.box {a b:World} {B r i:Nat} {T:TypeId} {cs:List Value} {x:Value} (h:Dr B a b) (hb:aR b r T cs) (hB:B<r) (ha:a.heap.size≤r):Dr B a (b.setCell ⟨r,i,none⟩ x):=
 h.besideX (g:=r) ((al.grown (hb.grown i x)).mono (fun k e=>by injection e)) hB ha
theorem aR.drN {w w':World} {r B:Nat} {T:TypeId} {cs:List Value} (h:aR w r T cs) (k:Dr B w w') (hB:r≠B):aR w' r T cs:=aZ h k.1 (fun i hi e=>by
 have:r=i:=by simpa [Value.ownBlock] using hi
 omega)
def Bl (n:Int) (a:List Int):Bool:=inR n 0 8&&(decide ((a.length:Int)=n)&&a.all (isM a.length))
theorem pJ (n:Int) (a:List Int) (v:Value) (w:World) (hv:aV w v a):Calls Tryz.prog 31 #[.agg #[.int .i64 n,v]] w fun e w'=>e=.returned (.bool (Bl n a))∧aa w w':=by
 have kA:=(aa.refl w).alloc (.cells #[.int .i64 n,v] 41);have hc:=jf.made w n v 41;have HN:=hid (fun w2=>eU n 0 8 w2);have HS:=hid (fun w2 (k:aa w w2)=>iX a v w2 (hv.keeps k));have HR:=hid (fun w2 (k:aa w w2)=>rV a v w2 (hv.keeps k));have HP:Hid (Bl n a=(inR n 0 8&&(decide ((a.length:Int)=n)&&a.all (isM a.length)))):=hid rfl;obtain⟨c0,c1⟩:=hc;obtain⟨p,cap,rfl,_⟩:=hv
 cases h1:inR n 0 8
 ·rw[h1] at HN HP
  simp only[Bool.false_and] at HP;clear h1;go_enter Tryz.func31,Tryz.ntmps31;go_wp2_with fail
  go_quiet (first | (go_at_call 66;refine mi (HN.out _)))
  go_wp2_with fail;go_ret;exact⟨by rw[HP.out];rfl,kA.drewN _⟩
 ·rw[h1] at HN HP
  have h8:n≤8:=by simp[inR] at h1;omega
  clear h1
  by_cases h2:(a.length:Int)=n
  ·have hd:((a.length:Int)==n)=true:=by simp[h2]
   rw[decide_eq_true h2] at HP;have eE:a.length≤8:=qB
   replace HR:=hid (fun w2 k=>HR.out w2 k eE)
   subst h2;have kd0:=(aa.refl (w.alloc (.cells #[.int .i64 a.length,.slice p a.length cap] 41))).drew;have kD:=kA.drew;have e0:=kd0.cell c0;have e1:=kd0.cell c1;simp only[Bool.true_and] at HP;generalize a.all (isM a.length)=r at*;go_enter Tryz.func31,Tryz.ntmps31;go_wp2_with fail
   go_region_held3 (fun w'=>w'.cell? ⟨w.heap.size,0,none⟩=some (.int .i64 a.length)∧w'.cell? ⟨w.heap.size,1,none⟩=some (.slice p a.length cap)) (first | exact⟨e0,e1⟩ | exact⟨z0,z1⟩) (first | (go_at_call 66;refine(HN.out _).mono ?_;rintro e w' ⟨rfl,rfl⟩) | (go_at_call 67;refine(HS.out _ kD).mono ?_;rintro e w' ⟨rfl,rfl⟩) | (go_at_call 68;refine(HR.out _ kD).mono ?_;rintro e w2 ⟨rfl,k2⟩;have z0:=k2.cell e0;have z1:=k2.cell e1))
   go_wp2_with fail;go_ret;exact⟨by rw[HP.out];cases r<;>rfl,kD.trans k2⟩
  ·have hd:((a.length:Int)==n)=false:=by simp[h2]
   rw[decide_eq_false h2] at HP;simp only[Bool.and_false,Bool.false_and] at HP;clear h2;go_enter Tryz.func31,Tryz.ntmps31;go_wp2_with fail
   go_quiet (first | (go_at_call 66;refine mi (HN.out _)) | (go_at_call 67;refine mi (HS.out _ (kA.drewN _))))
   go_wp2_with fail;go_ret;exact⟨by rw[HP.out];rfl,kA.drewN _⟩
theorem Ca (v:Value) (w:World) (hv:∃ p m q,v=.slice p m q):Calls Tryz.prog 69 #[.agg #[.int .i64 2,v]] w fun e w'=>e=.returned (.int .i64 3)∧aa w w':=by
 obtain⟨p,m,q,rfl⟩:=hv;have kA:=(aa.refl w).alloc (.cells #[.int .i64 2,.slice p m q] 37);obtain⟨c0,c1⟩:=jf.made w 2 (.slice p m q) 37;go_enter Tryz.func69,Tryz.ntmps69;go_wp2_with fail;go_ret;exact⟨rfl,kA⟩
end
end Go.Proofs.YtagoboblkadelaaGreat
