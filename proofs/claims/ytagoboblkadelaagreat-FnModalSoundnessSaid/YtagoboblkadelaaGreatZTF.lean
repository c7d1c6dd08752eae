import Derived.Test.YtagoboblkadelaaGreatZMV
import Derived.Test.YtagoboblkadelaaGreatZOS
import Derived.Test.YtagoboblkadelaaGreatZOK
/- own -/
namespace Go.Proofs.YtagoboblkadelaaGreat
set_option maxRecDepth 20000
set_option maxHeartbeats 4000000
open Go.RowKit
theorem sf (b:List Nat) (v:Value) (w:World) (hv:aV w v (zs b)) (hb:b.length≤8) (KU:Bnd b.length b):
  Calls Tryz.prog 244 #[v] w (BR w (zs (nR b b.length b.length))):=by
 rcases Nat.eq_zero_or_pos b.length with hz | hpos
 ·obtain rfl:b=[]:=List.length_eq_zero_iff.1 hz
  have HC:=hid (fK (zs []) v w hv);obtain⟨p,cap,rfl,_⟩:=hv;simp only[zs,List.map_nil,List.length_nil] at*;go_enter Tryz.func244,Tryz.ntmps244;go_wp2_with fail;refine HC.out.mono ?_;rintro e w1 ⟨v1,rfl,eE,k1⟩;obtain⟨p1,c1,rfl,_,H9,_,_⟩:=eE.ints qD;unfold maxLen at H9;simp only[List.length_nil] at*;go_wp2
  go_loop [4] (fun j'=>j'=.int .i64 0) (fun _=>0)
  case atStart=>rfl
  case round=>
   subst hrel;go_wp2;go_ret;exact⟨_,rfl,eE,k1⟩
 ·have HC:=hid (fK (zs b) v w hv)
  have KT:=qJ hb;obtain⟨p,cap,rfl,_⟩:=hv;go_enter Tryz.func244,Tryz.ntmps244;go_wp2_with fail;refine HC.out.mono ?_;rintro e w1 ⟨v1,rfl,eE,k1⟩;obtain⟨g,c1,rfl,hg,_,_,H9⟩:=eE.shape (by rw[af];omega);unfold maxLen at H9;rw[af] at*;generalize hn:b.length=n at*;go_wp2
  go_loopw [4] (fun j' wr=>∃ j:Nat,j≤n∧j'=.int .i64 j∧aI wr w.heap.size (.slice (some ⟨g,0,none⟩) n c1) (zs (nR b n j))∧aa w wr) (fun j' _=>n-(intOf j').toNat)
  case atStart=>exact⟨0,qB,rfl,eE,k1⟩
  case round=>
   obtain⟨j,hj,rfl,h9,kw⟩:=hrel;clear eE k1
   by_cases KZ:j<n
   ·have H8:(j:Int)<n:=qB
    have HO:=hid h9;clear h9;have KW:=hid kw;clear kw;have HB:=hid (tp KU n j);have hs:nR b n (j+1)=tq (nR b n j) j n:=rfl
    have H7:(nR b n j).length=n:=by rw[zA];exact hn
    have HS:=hid hs;clear hs;generalize nR b n j=a at*;go_wp2_with fail
    go_loopw [5] (fun i' wr'=>∃ i:Nat,i≤n∧i'=.int .i64 i∧aI wr' w.heap.size (.slice (some ⟨g,0,none⟩) n c1) (zs (tq a j i))∧aa w wr') (fun i' _=>n-(intOf i').toNat)
    case atStart=>exact⟨0,qB,rfl,HO.out,KW.out⟩
    case round=>
     obtain⟨i,hi,rfl,eE,kw⟩:=hrel;clear HO KW
     by_cases KV:i<n
     ·have x9:(i:Int)<n:=qB
      have KS:=hid (tr HB.out j i)
      have KY:(tq a j i).length=n:=by rw[Fv];exact H7
      have KR:tq a j (i+1)=nS (tq a j i) j i:=rfl;unfold nS at KR;have x6:=hid KR;clear KR;generalize tq a j i=r at*;obtain⟨ci,fi⟩:=eE.cell i (by rw[af];omega);obtain⟨cj,fj⟩:=eE.cell j (by rw[af];omega);rw[gu] at ci cj;rw[←bJ] at ci cj;have bi:=KS.out i;have bj:=KS.out j;have HH:=hid (de (r.getD i 0) j wr qB qB);have x8:=aI.store (eE.keeps (aa.refl wr).drew) i (by rw[af];omega) ((r.getD i 0 ||| r.getD j 0:Nat):Int);rw[←Fz] at x8;have KP:=orN (r.getD i 0) (r.getD j 0) qB qB
      cases hbit:(r.getD i 0).testBit j
      ·rw[hbit] at HH x6
       rw[if_neg qD] at x6;clear x8 hbit cj KP;have HO:=hid eE;clear eE;generalize r.getD i 0=x at*;go_wp2_with fail;refine HH.out.mono ?_;rintro e w' ⟨rfl,rfl⟩;go_wp2_with fail;go_roundw
       case rel=>exact⟨i+1,qB,by go_num,by rw[x6.out];exact HO.out,kw⟩
       case measure=>simp[intOf];omega
      ·rw[hbit] at HH x6
       rw[if_pos rfl] at x6;clear hbit eE;have x7:=hid x8;clear x8;have KW:=hid kw;clear kw;generalize hx:r.getD i 0=x at*;generalize hy:r.getD j 0=y at*;go_wp2_with fail;refine HH.out.mono ?_;rintro e w' ⟨rfl,rfl⟩;go_wp2_with fail
       go_region
       go_wp2;go_roundw
       case rel=>exact⟨i+1,qB,by go_num,by first | (rw[x6.out,KP];exact x7.out.1) | (rw[x6.out];exact x7.out.1),by first | (rw[KP];exact(aa.drew KW.out).grown x7.out.2 (fun k hk=>by cases hk;exact hg)) | exact(aa.drew KW.out).grown x7.out.2 (fun k hk=>by cases hk;exact hg)⟩
       case measure=>simp[intOf];omega
     ·obtain rfl:i=n:=qB
      have x9:¬(i:Int)<i:=qB;go_wp2_with fail;go_roundw
      case rel=>exact⟨j+1,qB,by go_num,by rw[HS.out];exact eE,kw⟩
      case measure=>simp[intOf];omega
   ·obtain rfl:j=n:=qB
    have H8:¬(j:Int)<j:=qB;go_wp2_with fail;go_ret;exact⟨_,rfl,h9,kw⟩
def xl (b:List Nat):Bool:=(List.range b.length).all fun x=>!((nR b b.length b.length).getD x 0).testBit x
theorem vT (b:List Nat) (v:Value) (w:World) (hv:aV w v (zs b)) (hb:b.length≤8) (KP:Bnd b.length b):
  Calls Tryz.prog 213 #[.agg #[.int .i64 b.length,v],.int .i64 7] w fun e w'=>e=.returned (.bool (xl b))∧aa w w':=by
 have KR:=hv;obtain⟨p,cap,rfl,Li,Ld,KV,KY⟩:=hv;clear KV;unfold maxLen at Ld;rw[af] at*;have x6:=qJ hb;have kA:=(aa.refl w).alloc (.cells #[.int .i64 b.length,.slice p b.length cap] 41);have HB:=hid (fun i j w2 (hj:j≤8)=>de (b.getD i 0) j w2 (zv (KP i) x6) hj);have KS:=hid (fun w2 (k:aa w w2)=>sf b _ w2 (KR.keeps k) hb KP);have Lc:=hid (fun i j w2 (hj:j≤8)=>de ((nR b b.length b.length).getD i 0) j w2 (zv (tp KP b.length b.length i) x6) hj);have eE:=hid (zA b b.length b.length);have HP:Hid (xl b=(List.range b.length).all (fun x=>!((nR b b.length b.length).getD x 0).testBit x)):=hid rfl
 obtain⟨G,KU⟩:∃ G:Nat→Nat,∀ i,G i=b.getD i 0:=⟨fun i=>b.getD i 0,fun _=>rfl⟩
 simp only[←KU] at HB;generalize nR b b.length b.length=C at KS Lc eE HP;generalize hn:b.length=n at Li Ld KY hb kA KR eE KS ⊢;generalize hP:(fun x=>!(C.getD x 0).testBit x)=P at HP;have Le:=hid KU;clear KU;have Lf:=hid hP;clear hP;have Lg:=hid KR;clear KR;have HN:=hid hn;clear hn;clear x6 KP;go_enter Tryz.func213,Tryz.ntmps213;go_wp2_with fail
 go_quiet (fail)
 go_wp2
 go_loopw [4,7] (fun r x' wr=>∃ x:Nat,x≤n∧x'=.int .i64 x∧r=.bool false∧(∀ j,j<x→P j=true)∧aa w wr) (fun _ x' _=>n-(intOf x').toNat)
 case atStart=>exact⟨0,qB,rfl,rfl,fun j h=>by omega,kA.drewN _⟩
 case round=>
  obtain⟨x,hx,rfl,rfl,H7,kw⟩:=hrel;have HA:=hid H7;clear H7
  by_cases H8:x<n
  ·have KZ : (x:Int)<n:=qB
   have h9:∀ (j:Nat) (wq:World),aa w wq→j<n→∃ b1 o1,p=some ⟨b1,o1,none⟩∧wq.cell? ⟨b1,o1+j,none⟩=some (.int .i64 (G j:Nat)):=by
    intro j wq kq hj;obtain⟨_,_,e1,_,_,Lh,_⟩:=Lg.out.keeps kq;rw[af,HN.out] at e1
    cases e1
    obtain⟨b1,o1,e,h1⟩:=Lh.int j (by rw[af,HN.out];omega);rw[gu,←bJ,←Le.out] at h1;exact⟨b1,o1,e,h1⟩
   have HR:=hid h9;clear h9;obtain⟨b1,o1,rfl,h1⟩:=HR.out x wr kw H8
   have x9:P x=!(C.getD x 0).testBit x:=by rw[←Lf.out]
   have HH:=hid (KS.out wr kw);have H9:=hid (fun w2=>Lc.out x x w2 qB);have KW:=hid kw;clear kw
   cases hbit:(C.getD x 0).testBit x
   ·rw[hbit] at x9 H9
    have KT:Hid (P x=true):=hid x9;clear x9 hbit;go_wp2_with fail;refine HH.out.mono ?_;rintro e w2 ⟨v2,rfl,x8,k2⟩;obtain⟨g2,c2,e2,-,-,K0,x7⟩:=x8.shape (by rw[af,eE.out];omega);rw[show(zs C).length=n by rw[af,eE.out]] at e2 K0;subst e2;obtain⟨ci,-⟩:=x8.cell x (by rw[af,eE.out];exact H8);unfold maxLen at x7;rw[gu,←bJ] at ci;generalize C.getD x 0=cx at*;have K2:=hid (KW.out.trans k2);clear HH KW k2 x8;go_wp2_with fail;refine(H9.out _).mono ?_;rintro e w' ⟨rfl,rfl⟩;go_wp2_with fail;have KW:=K2
    go_loopw [4,8] (fun r y' wr'=>∃ y:Nat,y≤n∧y'=.int .i64 y∧r=.bool false∧aa w wr') (fun _ y' _=>n-(intOf y').toNat)
    case atStart=>exact⟨0,qB,rfl,rfl,KW.out⟩
    case round=>
     obtain⟨y,hy,rfl,rfl,kw⟩:=hrel;clear KW
     by_cases Lj:y<n
     ·have La:(y:Int)<n:=qB
      obtain⟨_,_,e,h1⟩:=HR.out x wr kw H8
      cases e
      have HH:=hid (HB.out x y wr qB);have KW:=hid kw;clear kw
      cases hbit:(G x).testBit y
      ·rw[hbit] at HH
       clear hbit;go_wp2_with fail;refine HH.out.mono ?_;rintro e w' ⟨rfl,rfl⟩;go_wp2_with fail;go_roundw
       case rel=>exact⟨y+1,qB,by go_num,rfl,KW.out⟩
       case measure=>simp[intOf];omega
      ·rw[hbit] at HH
       clear hbit;go_wp2_with fail;refine HH.out.mono ?_;rintro e w' ⟨rfl,rfl⟩;go_wp2_with fail
       go_loopw [4,9] (fun r z' wr'=>∃ z:Nat,z≤n∧z'=.int .i64 z∧r=.bool false∧aa w wr') (fun _ z' _=>n-(intOf z').toNat)
       case atStart=>exact⟨0,qB,rfl,rfl,KW.out⟩
       case round=>
        obtain⟨z,hz,rfl,rfl,kw⟩:=hrel;clear KW HH
        by_cases Lk:z<n
        ·have Lb:(z:Int)<n:=qB
         obtain⟨_,_,e,h1⟩:=HR.out x wr kw H8
         cases e
         have HH:=hid (HB.out x z wr qB);have KW:=hid kw;clear kw
         cases hbit:(G x).testBit z
         ·rw[hbit] at HH
          clear hbit;go_wp2_with fail;refine HH.out.mono ?_;rintro e w' ⟨rfl,rfl⟩;go_wp2_with fail;go_roundw
          case rel=>exact⟨z+1,qB,by go_num,rfl,KW.out⟩
          case measure=>simp[intOf];omega
         ·rw[hbit] at HH
          clear hbit;go_wp2_with fail;refine HH.out.mono ?_;rintro e w' ⟨rfl,rfl⟩;go_wp2_with fail
          go_quiet (fail)
          go_wp2_with fail;go_roundw
          case rel=>exact⟨z+1,qB,by go_num,rfl,KW.out.drewN _⟩
          case measure=>simp[intOf];omega
        ·obtain rfl:z=n:=qB
         have Lb:¬(z:Int)<z:=qB;go_wp2_with fail;go_roundw
         case rel=>exact⟨y+1,qB,by go_num,rfl,kw⟩
         case measure=>simp[intOf];omega
     ·obtain rfl:y=n:=qB
      have La:¬(y:Int)<y:=qB;go_wp2_with fail;go_roundw
      case rel=>exact⟨x+1,qB,by go_num,rfl,sI HA.out KT.out,kw⟩
      case measure=>simp[intOf];omega
   ·rw[hbit] at x9 H9
    have KT:Hid (P x=false):=hid x9;clear x9 hbit;go_wp2_with fail;refine HH.out.mono ?_;rintro e w2 ⟨v2,rfl,x8,k2⟩;obtain⟨g2,c2,e2,-,-,K0,x7⟩:=x8.shape (by rw[af,eE.out];omega);rw[show(zs C).length=n by rw[af,eE.out]] at e2 K0;subst e2;obtain⟨ci,-⟩:=x8.cell x (by rw[af,eE.out];exact H8);unfold maxLen at x7;rw[gu,←bJ] at ci;generalize C.getD x 0=cx at*;have K2:=hid (KW.out.trans k2);clear HH KW k2 x8;go_wp2_with fail;refine(H9.out _).mono ?_;rintro e w' ⟨rfl,rfl⟩;go_wp2_with fail;go_ret;refine⟨ab ?_,K2.out⟩;rw[HP.out];exact(gE (x:=x) (by have:=HN.out;omega) KT.out).symm
  ·obtain rfl:x=n:=qB
   have KZ:¬(x:Int)<x:=qB;go_wp2_with fail;go_ret;refine⟨ab ?_,kw⟩;rw[HP.out];exact(iD (fun j hj=>HA.out j (by have:=HN.out;omega))).symm
theorem ou (b:List Nat) (v:Value) (w:World) (hv:aV w v (zs b)) (hb:b.length≤8) (eE:Bnd b.length b):
  Calls Tryz.prog 183 #[.agg #[.int .i64 b.length,v],.string ⟨#[52]⟩] w fun e w'=>e=.returned (.bool (iA b))∧aa w w':=by
 have HF:=hid (fun wz (k:aa w wz)=>mM b _ wz (hv.keeps k) hb eE);obtain⟨p,cap,rfl,_⟩:=hv;rw[af b] at*;have kA:=(aa.refl w).alloc (.cells #[.int .i64 b.length,.slice p b.length cap] 41);obtain⟨c0,c1⟩:=jf.made w b.length (.slice p b.length cap) 41;generalize iA b=R at*;go_enter Tryz.func183,Tryz.ntmps183;go_wp2_with fail;refine(HF.out _ kA).mono ?_;rintro e w2 ⟨rfl,k2⟩;go_wp2_with fail;go_ret;exact⟨rfl,kA.trans k2⟩
theorem ot (b:List Nat) (v:Value) (w:World) (hv:aV w v (zs b)) (hb:b.length≤8) (eE:Bnd b.length b):
  Calls Tryz.prog 183 #[.agg #[.int .i64 b.length,v],.string ⟨#[53]⟩] w fun e w'=>e=.returned (.bool (Dw b))∧aa w w':=by
 have HF:=hid (fun wz (k:aa w wz)=>vR b _ wz (hv.keeps k) hb eE);obtain⟨p,cap,rfl,_⟩:=hv;rw[af b] at*;have kA:=(aa.refl w).alloc (.cells #[.int .i64 b.length,.slice p b.length cap] 41);obtain⟨c0,c1⟩:=jf.made w b.length (.slice p b.length cap) 41;generalize Dw b=R at*;go_enter Tryz.func183,Tryz.ntmps183;go_wp2_with fail;refine(HF.out _ kA).mono ?_;rintro e w2 ⟨rfl,k2⟩;go_wp2_with fail;go_ret;exact⟨rfl,kA.trans k2⟩
theorem qo (b:List Nat) (v:Value) (w:World) (hv:aV w v (zs b)) (hb:b.length≤8) (eE:Bnd b.length b):
  Calls Tryz.prog 183 #[.agg #[.int .i64 b.length,v],.string ⟨#[68]⟩] w fun e w'=>e=.returned (.bool (E0 b))∧aa w w':=by
 have HF:=hid (fun wz (k:aa w wz)=>vQ b _ wz (hv.keeps k) hb eE);obtain⟨p,cap,rfl,_⟩:=hv;rw[af b] at*;have kA:=(aa.refl w).alloc (.cells #[.int .i64 b.length,.slice p b.length cap] 41);obtain⟨c0,c1⟩:=jf.made w b.length (.slice p b.length cap) 41;generalize E0 b=R at*;go_enter Tryz.func183,Tryz.ntmps183;go_wp2_with fail;refine(HF.out _ kA).mono ?_;rintro e w2 ⟨rfl,k2⟩;go_wp2_with fail;go_ret;exact⟨rfl,kA.trans k2⟩
theorem qn (b:List Nat) (v:Value) (w:World) (hv:aV w v (zs b)) (hb:b.length≤8) (eE:Bnd b.length b):
  Calls Tryz.prog 183 #[.agg #[.int .i64 b.length,v],.string ⟨#[84]⟩] w fun e w'=>e=.returned (.bool (sU b))∧aa w w':=by
 have HF:=hid (fun wz (k:aa w wz)=>vP b _ wz (hv.keeps k) hb eE);obtain⟨p,cap,rfl,_⟩:=hv;rw[af b] at*;have kA:=(aa.refl w).alloc (.cells #[.int .i64 b.length,.slice p b.length cap] 41);obtain⟨c0,c1⟩:=jf.made w b.length (.slice p b.length cap) 41;generalize sU b=R at*;go_enter Tryz.func183,Tryz.ntmps183;go_wp2_with fail;refine(HF.out _ kA).mono ?_;rintro e w2 ⟨rfl,k2⟩;go_wp2_with fail;go_ret;exact⟨rfl,kA.trans k2⟩
theorem ow (b:List Nat) (v:Value) (w:World) (hv:aV w v (zs b)) (hb:b.length≤8) (eE:Bnd b.length b):
  Calls Tryz.prog 183 #[.agg #[.int .i64 b.length,v],.string ⟨#[76]⟩] w fun e w'=>e=.returned (.bool (iA b&&xl b))∧aa w w':=by
 have HF:=hid (fun wz (k:aa w wz)=>mM b _ wz (hv.keeps k) hb eE);have HG:=hid (fun wz (k:aa w wz)=>vT b _ wz (hv.keeps k) hb eE);obtain⟨p,cap,rfl,_⟩:=hv;rw[af b] at*;have kA:=(aa.refl w).alloc (.cells #[.int .i64 b.length,.slice p b.length cap] 41);obtain⟨c0,c1⟩:=jf.made w b.length (.slice p b.length cap) 41;generalize iA b=R at*;generalize xl b=T at*
 cases R
 ·go_enter Tryz.func183,Tryz.ntmps183
  go_wp2_with fail;refine(HF.out _ kA).mono ?_;rintro e w2 ⟨rfl,k2⟩;go_wp2_with fail;go_ret;exact⟨rfl,kA.trans k2⟩
 ·go_enter Tryz.func183,Tryz.ntmps183
  go_wp2_with fail;refine(HF.out _ kA).mono ?_;rintro e w2 ⟨rfl,k2⟩
  replace c0:=k2.cell c0
  replace c1:=k2.cell c1
  go_wp2_with fail;refine(HG.out _ (kA.trans k2)).mono ?_;rintro e w3 ⟨rfl,k3⟩;go_wp2_with fail;go_ret;exact⟨rfl,(kA.trans k2).trans k3⟩
end Go.Proofs.YtagoboblkadelaaGreat
