import Derived.Test.YtagoboblkadelaaGreatZTF
import Derived.Test.YtagoboblkadelaaGreatZD30
/- own -/
namespace Go.Proofs.YtagoboblkadelaaGreat
set_option maxRecDepth 20000
set_option maxHeartbeats 2000000
open Go.RowKit
def axK:Nat→List ByteArray
 | 0=>[]
 | 1=>[⟨#[68]⟩]
 | 2=>[⟨#[84]⟩]
 | 3=>[⟨#[52]⟩]
 | 4=>[⟨#[52]⟩,⟨#[84]⟩]
 | 5=>[⟨#[76]⟩]
 | _=>[⟨#[53]⟩,⟨#[84]⟩]
theorem Df {names:List ByteArray} {H:ByteArray→Bool} (h:∀ j (hj:j<names.length),H names[j]=true):names.all H=true:=
 List.all_eq_true.2 fun s hs=>by
  obtain⟨j,hj,rfl⟩:=List.getElem_of_mem hs;exact h j hj
theorem FG {names:List ByteArray} {H:ByteArray→Bool} {j:Nat} (hj:j<names.length) (h:H names[j]=false):names.all H=false:=
 List.all_eq_false.2 ⟨names[j],zo hj,by rw[h];simp⟩
theorem yi (b:List Nat) (H:ByteArray→Bool) (names:List ByteArray) (v vs:Value) (w:World) (hv:aV w v (zs b)) (hs:au w vs names)
  (hH:∀ s∈names,∀ wz,aa w wz→Calls Tryz.prog 183 #[.agg #[.int .i64 b.length,v],.string s] wz fun e w'=>e=.returned (.bool (H s))∧aa wz w'):
  Calls Tryz.prog 136 #[.agg #[.int .i64 b.length,v],vs] w fun e w'=>e=.returned (.bool (names.all H))∧aa w w':=by
 have HH:=hid (fun i (hi:i<names.length) wz (kz:aa w wz)=>hH names[i] (zo hi) wz kz);have HS:=hid (fun wz (kz:aa w wz)=>hs.keeps kz);have HY:=hid (fun (h:∀ j (hj:j<names.length),H names[j]=true)=>Df h);have HN:=hid (fun j (hj:j<names.length) (h:H names[j]=false)=>FG hj h);obtain⟨p,cap,rfl,_⟩:=hv;rw[af b] at*;obtain⟨q,cq,rfl,KS,KP,_⟩:=hs.shape;unfold maxLen at KP;have kA:=(aa.refl w).alloc (.cells #[.int .i64 b.length,.slice p b.length cap] 41);obtain⟨c0,c1⟩:=jf.made w b.length (.slice p b.length cap) 41;have HC:=hid (And.intro c0 c1);clear hs hH c0 c1;generalize names.all H=R at*;generalize b.length=n at*;go_enter Tryz.func136,Tryz.ntmps136
 go_upto_region 1 with fail
 generalize w.alloc (.cells #[.int .i64 (n:Int),.slice p n cap] 41)=w1 at*;go_wp2_with fail
 go_loopw [5] (fun i' wr=>∃ i:Nat,i≤names.length∧i'=.int .i64 i∧Hid (∀ j (hj:j<names.length),j<i→H names[j]=true)∧aa w1 wr) (fun i' _=>names.length-(intOf i').toNat)
 case atStart=>exact⟨0,qB,rfl,hid (fun j _ h=>by omega),aa.refl _⟩
 case round=>
  obtain⟨i,hi,rfl,HA,kr⟩:=hrel
  by_cases h9:i<names.length
  ·have x6:(i:Int)<names.length:=qB
   have c0:=kr.cell HC.out.1;have c1:=kr.cell HC.out.2;obtain⟨bb,off,e,hc⟩:=(HS.out _ (kA.trans kr)).get i h9
   cases e
   have H9:=(kA.trans kr).drew;have x9:=hid (HH.out i h9 _ H9);have H8:=hid (HN.out i h9)
   have eE:=hid (fun (h:H names[i]=true) j (hj:j<names.length) (KR:j<i+1)=>(show H names[j]=true by
    by_cases e:j=i
    ·subst e;exact h
    ·exact HA.out j hj qB))
   generalize H names[i]=b1 at*;generalize names[i]=s at*;have H7:=hid kr;clear kr HA;go_wp2_with fail
   go_still_tail 5,qA
   change wpList _ _ _ _ _ wr.drew;go_wp2_with fail;refine x9.out.mono ?_;rintro e w2 ⟨rfl,k2⟩;have x7:=H7.out.drew.trans k2
   cases b1
   ·have HR:=hid (H8.out rfl)
    go_wp2_with fail;go_ret;exact⟨ab HR.out.symm,kA.trans x7⟩
   ·have x8:=hid (eE.out rfl)
    go_wp2_with fail;go_roundw
    case rel=>exact⟨i+1,qB,by go_num,x8,x7⟩
    case measure=>simp[intOf];omega
  ·have x6:¬(i:Int)<names.length:=qB
   have HR:=hid (HY.out (fun j hj=>HA.out j hj qB));go_wp2_with fail;go_ret;exact⟨ab HR.out.symm,kA.trans kr⟩
theorem eh (names:List ByteArray) (s:ByteArray) (k:Nat) (hk:k<names.length) (he:names[k]=s) (x6:∀ j (hj:j<names.length),j<k→bts names[j]≠bts s) (v:Value) (w:World) (hv:au w v names):
  Calls Tryz.prog 45 #[v,.string s] w fun e w'=>e=.returned (.int .i64 k)∧w=w':=by
 obtain⟨q,cq,rfl,H8,H7,_⟩:=hv.shape;unfold maxLen at H7;have HV:=hid hv;have HE:=hid he;have x7:=hid x6;clear hv he x6;go_enter Tryz.func45,Tryz.ntmps45;go_wp2_with fail
 go_loopw [5] (fun i' wr=>∃ i:Nat,i≤k∧i'=.int .i64 i∧w=wr) (fun i' _=>names.length-(intOf i').toNat)
 case atStart=>exact⟨0,qB,rfl,rfl⟩
 case round=>
  obtain⟨i,hi,rfl,rfl⟩:=hrel;have h9:i<names.length:=qB;have x9:(i:Int)<names.length:=qB;obtain⟨bb,off,e,hc⟩:=HV.out.get i h9
  cases e
  by_cases eE:i=k
  ·subst eE
   have hq:(names[i].toList==s.toList)=true:=by rw[HE.out];simp
   generalize names[i]=y at*;go_wp2_with fail;go_ret;exact⟨rfl,rfl⟩
  ·have hq:(names[i].toList==s.toList)=false:=by rw[dT];exact decide_eq_false (x7.out i h9 qB)
   have x8:i<k:=qB;generalize names[i]=y at*;clear eE;go_wp2_with fail;go_roundw
   case rel=>exact⟨i+1,qB,by go_num,by trivial⟩
   case measure=>simp[intOf];omega
def dy:List ByteArray:=[⟨#[68]⟩,⟨#[68,52]⟩,⟨#[71,76]⟩,⟨#[71,114,122]⟩,⟨#[75]⟩,⟨#[75,52]⟩,⟨#[75,52,53]⟩,⟨#[75,66]⟩,⟨#[75,68,52,53]⟩,⟨#[83,52]⟩,⟨#[83,52,50]⟩,⟨#[83,52,51]⟩,⟨#[83,53]⟩,⟨#[84]⟩,⟨#[84,114,105,118]⟩,⟨#[86,101,114]⟩]
theorem cX (w:World):Calls Tryz.prog 46 #[] w fun e w'=>(∃ p,e=.returned (.slice p 16 16)∧au w' (.slice p 16 16) dy)∧aa w w':=by
 have HS:Hid (au (w.alloc (.cells #[.string ⟨#[68]⟩,.string ⟨#[68,52]⟩,.string ⟨#[71,76]⟩,.string ⟨#[71,114,122]⟩,.string ⟨#[75]⟩,.string ⟨#[75,52]⟩,.string ⟨#[75,52,53]⟩,.string ⟨#[75,66]⟩,.string ⟨#[75,68,52,53]⟩,.string ⟨#[83,52]⟩,.string ⟨#[83,52,50]⟩,.string ⟨#[83,52,51]⟩,.string ⟨#[83,53]⟩,.string ⟨#[84]⟩,.string ⟨#[84,114,105,118]⟩,.string ⟨#[86,101,114]⟩] 9)) (.slice (some ⟨w.heap.size,0,none⟩) 16 16) dy):=hid (au.lit (w:=w) dy qC);have kA:=(aa.refl w).alloc (.cells #[.string ⟨#[68]⟩,.string ⟨#[68,52]⟩,.string ⟨#[71,76]⟩,.string ⟨#[71,114,122]⟩,.string ⟨#[75]⟩,.string ⟨#[75,52]⟩,.string ⟨#[75,52,53]⟩,.string ⟨#[75,66]⟩,.string ⟨#[75,68,52,53]⟩,.string ⟨#[83,52]⟩,.string ⟨#[83,52,50]⟩,.string ⟨#[83,52,51]⟩,.string ⟨#[83,53]⟩,.string ⟨#[84]⟩,.string ⟨#[84,114,105,118]⟩,.string ⟨#[86,101,114]⟩] 9);go_enter Tryz.func46,Tryz.ntmps46;go_wp2_with fail;go_ret;exact⟨⟨_,rfl,HS.out⟩,kA⟩
theorem jj (w:World):∃ w1,w1=w.alloc (.cells #[.string ⟨#[68]⟩] 9)∧∃ w2,w2=w1.alloc (.cells #[.string ⟨#[52]⟩,.string ⟨#[68]⟩] 9)∧∃ w3,w3=w2.alloc (.cells #[.string ⟨#[76]⟩] 9)∧∃ w4,w4=w3.alloc (.cells #[.string ⟨#[90]⟩] 9)∧∃ w5,w5=w4.alloc (.cells #[] 9)∧∃ w6,w6=w5.alloc (.cells #[.string ⟨#[52]⟩] 9)∧∃ w7,w7=w6.alloc (.cells #[.string ⟨#[52]⟩,.string ⟨#[53]⟩] 9)∧∃ w8,w8=w7.alloc (.cells #[.string ⟨#[66]⟩] 9)∧∃ w9,w9=w8.alloc (.cells #[.string ⟨#[52]⟩,.string ⟨#[53]⟩,.string ⟨#[68]⟩] 9)∧∃ w10,w10=w9.alloc (.cells #[.string ⟨#[52]⟩,.string ⟨#[84]⟩] 9)∧∃ w11,w11=w10.alloc (.cells #[.string ⟨#[52]⟩,.string ⟨#[71]⟩,.string ⟨#[84]⟩] 9)∧∃ w12,w12=w11.alloc (.cells #[.string ⟨#[52]⟩,.string ⟨#[72]⟩,.string ⟨#[84]⟩] 9)∧∃ w13,w13=w12.alloc (.cells #[.string ⟨#[53]⟩,.string ⟨#[84]⟩] 9)∧∃ w14,w14=w13.alloc (.cells #[.string ⟨#[84]⟩] 9)∧∃ w15,w15=w14.alloc (.cells #[.string ⟨#[84]⟩,.string ⟨#[88]⟩] 9)∧∃ w16,w16=w15.alloc (.cells #[.string ⟨#[86]⟩] 9)∧∃ w17,w17=w16.alloc (.cells #[.slice (some ⟨w.heap.size,0,none⟩) 1 1,.slice (some ⟨w.heap.size+1,0,none⟩) 2 2,.slice (some ⟨w.heap.size+1+1,0,none⟩) 1 1,.slice (some ⟨w.heap.size+1+1+1,0,none⟩) 1 1,.slice (some ⟨w.heap.size+1+1+1+1,0,none⟩) 0 0,.slice (some ⟨w.heap.size+1+1+1+1+1,0,none⟩) 1 1,.slice (some ⟨w.heap.size+1+1+1+1+1+1,0,none⟩) 2 2,.slice (some ⟨w.heap.size+1+1+1+1+1+1+1,0,none⟩) 1 1,.slice (some ⟨w.heap.size+1+1+1+1+1+1+1+1,0,none⟩) 3 3,.slice (some ⟨w.heap.size+1+1+1+1+1+1+1+1+1,0,none⟩) 2 2,.slice (some ⟨w.heap.size+1+1+1+1+1+1+1+1+1+1,0,none⟩) 3 3,.slice (some ⟨w.heap.size+1+1+1+1+1+1+1+1+1+1+1,0,none⟩) 3 3,.slice (some ⟨w.heap.size+1+1+1+1+1+1+1+1+1+1+1+1,0,none⟩) 2 2,.slice (some ⟨w.heap.size+1+1+1+1+1+1+1+1+1+1+1+1+1,0,none⟩) 1 1,.slice (some ⟨w.heap.size+1+1+1+1+1+1+1+1+1+1+1+1+1+1,0,none⟩) 2 2,.slice (some ⟨w.heap.size+1+1+1+1+1+1+1+1+1+1+1+1+1+1+1,0,none⟩) 1 1] 27)∧aa w w17∧(au w17 (.slice (some ⟨w.heap.size+1+1+1+1,0,none⟩) 0 0) (axK 0)∧w17.cell? ⟨w.heap.size+1+1+1+1+1+1+1+1+1+1+1+1+1+1+1+1,4,none⟩=some (.slice (some ⟨w.heap.size+1+1+1+1,0,none⟩) 0 0))∧(au w17 (.slice (some ⟨w.heap.size,0,none⟩) 1 1) (axK 1)∧w17.cell? ⟨w.heap.size+1+1+1+1+1+1+1+1+1+1+1+1+1+1+1+1,0,none⟩=some (.slice (some ⟨w.heap.size,0,none⟩) 1 1))∧(au w17 (.slice (some ⟨w.heap.size+1+1+1+1+1+1+1+1+1+1+1+1+1,0,none⟩) 1 1) (axK 2)∧w17.cell? ⟨w.heap.size+1+1+1+1+1+1+1+1+1+1+1+1+1+1+1+1,13,none⟩=some (.slice (some ⟨w.heap.size+1+1+1+1+1+1+1+1+1+1+1+1+1,0,none⟩) 1 1))∧(au w17 (.slice (some ⟨w.heap.size+1+1+1+1+1,0,none⟩) 1 1) (axK 3)∧w17.cell? ⟨w.heap.size+1+1+1+1+1+1+1+1+1+1+1+1+1+1+1+1,5,none⟩=some (.slice (some ⟨w.heap.size+1+1+1+1+1,0,none⟩) 1 1))∧(au w17 (.slice (some ⟨w.heap.size+1+1+1+1+1+1+1+1+1,0,none⟩) 2 2) (axK 4)∧w17.cell? ⟨w.heap.size+1+1+1+1+1+1+1+1+1+1+1+1+1+1+1+1,9,none⟩=some (.slice (some ⟨w.heap.size+1+1+1+1+1+1+1+1+1,0,none⟩) 2 2))∧(au w17 (.slice (some ⟨w.heap.size+1+1,0,none⟩) 1 1) (axK 5)∧w17.cell? ⟨w.heap.size+1+1+1+1+1+1+1+1+1+1+1+1+1+1+1+1,2,none⟩=some (.slice (some ⟨w.heap.size+1+1,0,none⟩) 1 1))∧(au w17 (.slice (some ⟨w.heap.size+1+1+1+1+1+1+1+1+1+1+1+1,0,none⟩) 2 2) (axK 6)∧w17.cell? ⟨w.heap.size+1+1+1+1+1+1+1+1+1+1+1+1+1+1+1+1,12,none⟩=some (.slice (some ⟨w.heap.size+1+1+1+1+1+1+1+1+1+1+1+1,0,none⟩) 2 2)):=by
 obtain⟨w1,H9⟩:∃ x,x=w.alloc (.cells #[.string ⟨#[68]⟩] 9):=⟨_,rfl⟩
 obtain⟨w2,KT⟩:∃ x,x=w1.alloc (.cells #[.string ⟨#[52]⟩,.string ⟨#[68]⟩] 9):=⟨_,rfl⟩
 obtain⟨w3,KP⟩:∃ x,x=w2.alloc (.cells #[.string ⟨#[76]⟩] 9):=⟨_,rfl⟩
 obtain⟨w4,KU⟩:∃ x,x=w3.alloc (.cells #[.string ⟨#[90]⟩] 9):=⟨_,rfl⟩
 obtain⟨w5,KR⟩:∃ x,x=w4.alloc (.cells #[] 9):=⟨_,rfl⟩
 obtain⟨w6,KS⟩:∃ x,x=w5.alloc (.cells #[.string ⟨#[52]⟩] 9):=⟨_,rfl⟩
 obtain⟨w7,KV⟩:∃ x,x=w6.alloc (.cells #[.string ⟨#[52]⟩,.string ⟨#[53]⟩] 9):=⟨_,rfl⟩
 obtain⟨w8,KY⟩:∃ x,x=w7.alloc (.cells #[.string ⟨#[66]⟩] 9):=⟨_,rfl⟩
 obtain⟨w9,KZ⟩:∃ x,x=w8.alloc (.cells #[.string ⟨#[52]⟩,.string ⟨#[53]⟩,.string ⟨#[68]⟩] 9):=⟨_,rfl⟩
 obtain⟨w10,h9⟩:∃ x,x=w9.alloc (.cells #[.string ⟨#[52]⟩,.string ⟨#[84]⟩] 9):=⟨_,rfl⟩
 obtain⟨w11,x8⟩:∃ x,x=w10.alloc (.cells #[.string ⟨#[52]⟩,.string ⟨#[71]⟩,.string ⟨#[84]⟩] 9):=⟨_,rfl⟩
 obtain⟨w12,x9⟩:∃ x,x=w11.alloc (.cells #[.string ⟨#[52]⟩,.string ⟨#[72]⟩,.string ⟨#[84]⟩] 9):=⟨_,rfl⟩
 obtain⟨w13,x6⟩:∃ x,x=w12.alloc (.cells #[.string ⟨#[53]⟩,.string ⟨#[84]⟩] 9):=⟨_,rfl⟩
 obtain⟨w14,x7⟩:∃ x,x=w13.alloc (.cells #[.string ⟨#[84]⟩] 9):=⟨_,rfl⟩
 obtain⟨w15,H7⟩:∃ x,x=w14.alloc (.cells #[.string ⟨#[84]⟩,.string ⟨#[88]⟩] 9):=⟨_,rfl⟩
 obtain⟨w16,H8⟩:∃ x,x=w15.alloc (.cells #[.string ⟨#[86]⟩] 9):=⟨_,rfl⟩
 obtain⟨w17,eE⟩:∃ x,x=w16.alloc (.cells #[.slice (some ⟨w.heap.size,0,none⟩) 1 1,.slice (some ⟨w.heap.size+1,0,none⟩) 2 2,.slice (some ⟨w.heap.size+1+1,0,none⟩) 1 1,.slice (some ⟨w.heap.size+1+1+1,0,none⟩) 1 1,.slice (some ⟨w.heap.size+1+1+1+1,0,none⟩) 0 0,.slice (some ⟨w.heap.size+1+1+1+1+1,0,none⟩) 1 1,.slice (some ⟨w.heap.size+1+1+1+1+1+1,0,none⟩) 2 2,.slice (some ⟨w.heap.size+1+1+1+1+1+1+1,0,none⟩) 1 1,.slice (some ⟨w.heap.size+1+1+1+1+1+1+1+1,0,none⟩) 3 3,.slice (some ⟨w.heap.size+1+1+1+1+1+1+1+1+1,0,none⟩) 2 2,.slice (some ⟨w.heap.size+1+1+1+1+1+1+1+1+1+1,0,none⟩) 3 3,.slice (some ⟨w.heap.size+1+1+1+1+1+1+1+1+1+1+1,0,none⟩) 3 3,.slice (some ⟨w.heap.size+1+1+1+1+1+1+1+1+1+1+1+1,0,none⟩) 2 2,.slice (some ⟨w.heap.size+1+1+1+1+1+1+1+1+1+1+1+1+1,0,none⟩) 1 1,.slice (some ⟨w.heap.size+1+1+1+1+1+1+1+1+1+1+1+1+1+1,0,none⟩) 2 2,.slice (some ⟨w.heap.size+1+1+1+1+1+1+1+1+1+1+1+1+1+1+1,0,none⟩) 1 1] 27):=⟨_,rfl⟩
 have s1:w1.heap.size=w.heap.size+1:=by rw[H9,World.size_alloc]
 have k1:aa w w1:=by rw[H9];exact(aa.refl _).alloc _
 have s2:w2.heap.size=w.heap.size+1+1:=by rw[KT,World.size_alloc,s1]
 have k2:aa w1 w2:=by rw[KT];exact(aa.refl _).alloc _
 have s3:w3.heap.size=w.heap.size+1+1+1:=by rw[KP,World.size_alloc,s2]
 have k3:aa w2 w3:=by rw[KP];exact(aa.refl _).alloc _
 have s4:w4.heap.size=w.heap.size+1+1+1+1:=by rw[KU,World.size_alloc,s3]
 have k4:aa w3 w4:=by rw[KU];exact(aa.refl _).alloc _
 have s5:w5.heap.size=w.heap.size+1+1+1+1+1:=by rw[KR,World.size_alloc,s4]
 have k5:aa w4 w5:=by rw[KR];exact(aa.refl _).alloc _
 have s6:w6.heap.size=w.heap.size+1+1+1+1+1+1:=by rw[KS,World.size_alloc,s5]
 have k6:aa w5 w6:=by rw[KS];exact(aa.refl _).alloc _
 have s7:w7.heap.size=w.heap.size+1+1+1+1+1+1+1:=by rw[KV,World.size_alloc,s6]
 have k7:aa w6 w7:=by rw[KV];exact(aa.refl _).alloc _
 have s8:w8.heap.size=w.heap.size+1+1+1+1+1+1+1+1:=by rw[KY,World.size_alloc,s7]
 have k8:aa w7 w8:=by rw[KY];exact(aa.refl _).alloc _
 have s9:w9.heap.size=w.heap.size+1+1+1+1+1+1+1+1+1:=by rw[KZ,World.size_alloc,s8]
 have k9:aa w8 w9:=by rw[KZ];exact(aa.refl _).alloc _
 have s10:w10.heap.size=w.heap.size+1+1+1+1+1+1+1+1+1+1:=by rw[h9,World.size_alloc,s9]
 have k10:aa w9 w10:=by rw[h9];exact(aa.refl _).alloc _
 have s11:w11.heap.size=w.heap.size+1+1+1+1+1+1+1+1+1+1+1:=by rw[x8,World.size_alloc,s10]
 have k11:aa w10 w11:=by rw[x8];exact(aa.refl _).alloc _
 have s12:w12.heap.size=w.heap.size+1+1+1+1+1+1+1+1+1+1+1+1:=by rw[x9,World.size_alloc,s11]
 have k12:aa w11 w12:=by rw[x9];exact(aa.refl _).alloc _
 have s13:w13.heap.size=w.heap.size+1+1+1+1+1+1+1+1+1+1+1+1+1:=by rw[x6,World.size_alloc,s12]
 have k13:aa w12 w13:=by rw[x6];exact(aa.refl _).alloc _
 have s14:w14.heap.size=w.heap.size+1+1+1+1+1+1+1+1+1+1+1+1+1+1:=by rw[x7,World.size_alloc,s13]
 have k14:aa w13 w14:=by rw[x7];exact(aa.refl _).alloc _
 have s15:w15.heap.size=w.heap.size+1+1+1+1+1+1+1+1+1+1+1+1+1+1+1:=by rw[H7,World.size_alloc,s14]
 have k15:aa w14 w15:=by rw[H7];exact(aa.refl _).alloc _
 have s16:w16.heap.size=w.heap.size+1+1+1+1+1+1+1+1+1+1+1+1+1+1+1+1:=by rw[H8,World.size_alloc,s15]
 have k16:aa w15 w16:=by rw[H8];exact(aa.refl _).alloc _
 have s17:w17.heap.size=w.heap.size+1+1+1+1+1+1+1+1+1+1+1+1+1+1+1+1+1:=by rw[eE,World.size_alloc,s16]
 have k17:aa w16 w17:=by rw[eE];exact(aa.refl _).alloc _
 have K0:au w5 (.slice (some ⟨w.heap.size+1+1+1+1,0,none⟩) 0 0) (axK 0):=by
  have h:=au.lit (w:=w4) (axK 0) qC;rw[KR];rw[s4] at h;exact h
 have La:au w1 (.slice (some ⟨w.heap.size,0,none⟩) 1 1) (axK 1):=by
  have h:=au.lit (w:=w) (axK 1) qC;rw[H9];exact h
 have Lb:au w14 (.slice (some ⟨w.heap.size+1+1+1+1+1+1+1+1+1+1+1+1+1,0,none⟩) 1 1) (axK 2):=by
  have h:=au.lit (w:=w13) (axK 2) qC;rw[x7];rw[s13] at h;exact h
 have Lc:au w6 (.slice (some ⟨w.heap.size+1+1+1+1+1,0,none⟩) 1 1) (axK 3):=by
  have h:=au.lit (w:=w5) (axK 3) qC;rw[KS];rw[s5] at h;exact h
 have Ld:au w10 (.slice (some ⟨w.heap.size+1+1+1+1+1+1+1+1+1,0,none⟩) 2 2) (axK 4):=by
  have h:=au.lit (w:=w9) (axK 4) qC;rw[h9];rw[s9] at h;exact h
 have Le:au w3 (.slice (some ⟨w.heap.size+1+1,0,none⟩) 1 1) (axK 5):=by
  have h:=au.lit (w:=w2) (axK 5) qC;rw[KP];rw[s2] at h;exact h
 have Lf:au w13 (.slice (some ⟨w.heap.size+1+1+1+1+1+1+1+1+1+1+1+1,0,none⟩) 2 2) (axK 6):=by
  have h:=au.lit (w:=w12) (axK 6) qC;rw[x6];rw[s12] at h;exact h
 exact⟨w1,H9,w2,KT,w3,KP,w4,KU,w5,KR,w6,KS,w7,KV,w8,KY,w9,KZ,w10,h9,w11,x8,w12,x9,w13,x6,w14,x7,w15,H7,w16,H8,w17,eE,(k1.trans (k2.trans (k3.trans (k4.trans (k5.trans (k6.trans (k7.trans (k8.trans (k9.trans (k10.trans (k11.trans (k12.trans (k13.trans (k14.trans (k15.trans (k16.trans k17)))))))))))))))),⟨K0.keeps (k6.trans (k7.trans (k8.trans (k9.trans (k10.trans (k11.trans (k12.trans (k13.trans (k14.trans (k15.trans (k16.trans k17))))))))))),by rw[eE,←s16];simp⟩,⟨La.keeps (k2.trans (k3.trans (k4.trans (k5.trans (k6.trans (k7.trans (k8.trans (k9.trans (k10.trans (k11.trans (k12.trans (k13.trans (k14.trans (k15.trans (k16.trans k17))))))))))))))),by rw[eE,←s16];simp⟩,⟨Lb.keeps (k15.trans (k16.trans k17)),by rw[eE,←s16];simp⟩,⟨Lc.keeps (k7.trans (k8.trans (k9.trans (k10.trans (k11.trans (k12.trans (k13.trans (k14.trans (k15.trans (k16.trans k17)))))))))),by rw[eE,←s16];simp⟩,⟨Ld.keeps (k11.trans (k12.trans (k13.trans (k14.trans (k15.trans (k16.trans k17)))))),by rw[eE,←s16];simp⟩,⟨Le.keeps (k4.trans (k5.trans (k6.trans (k7.trans (k8.trans (k9.trans (k10.trans (k11.trans (k12.trans (k13.trans (k14.trans (k15.trans (k16.trans k17))))))))))))),by rw[eE,←s16];simp⟩,⟨Lf.keeps (k14.trans (k15.trans (k16.trans k17))),by rw[eE,←s16];simp⟩⟩
theorem sk (w:World):Calls Tryz.prog 137 #[.string ⟨#[75]⟩] w fun e w'=>(∃ v,e=.returned v∧au w' v (axK 0))∧aa w w':=by
 obtain⟨w1,KP,w2,KR,w3,KS,w4,KT,w5,KU,w6,KV,w7,KY,w8,KZ,w9,K0,w10,h9,w11,x6,w12,x7,w13,x8,w14,x9,w15,H7,w16,H8,w17,H9,kW,eE⟩:=jj w;obtain⟨hS,hc⟩:=eE.1;clear eE;have HS:=hid hS;clear hS;go_enter Tryz.func137,Tryz.ntmps137;go_wp2_with fail;rw[←KP,←KR,←KS,←KT,←KU,←KV,←KY,←KZ,←K0,←h9,←x6,←x7,←x8,←x9,←H7,←H8,←H9];clear H9 H8 H7 x9 x8 x7 x6 h9 K0 KZ KY KV KU KT KS KR KP;refine(cX w17).mono ?_;rintro e w18 ⟨⟨p,rfl,hn⟩,k18⟩;have La:=k18.cell hc;have HF:=hid (eh dy ⟨#[75]⟩ 4 qC (by rfl) qC _ w18 hn);rw[show((4:Nat):Int)=4 from rfl] at HF;have HR:=hid (show au w18 (.slice (some ⟨w.heap.size+1+1+1+1,0,none⟩) 0 0) (axK 0)∧aa w w18 from⟨HS.out.keeps k18,kW.trans k18⟩);clear HS kW k18 hn hc;go_wp2_with fail;refine HF.out.mono ?_;rintro e w' ⟨rfl,rfl⟩;go_wp2_with fail;go_ret;exact⟨⟨_,rfl,HR.out.1⟩,HR.out.2⟩
theorem sn (w:World):Calls Tryz.prog 137 #[.string ⟨#[68]⟩] w fun e w'=>(∃ v,e=.returned v∧au w' v (axK 1))∧aa w w':=by
 obtain⟨w1,KP,w2,KR,w3,KS,w4,KT,w5,KU,w6,KV,w7,KY,w8,KZ,w9,K0,w10,h9,w11,x6,w12,x7,w13,x8,w14,x9,w15,H7,w16,H8,w17,H9,kW,eE⟩:=jj w;obtain⟨hS,hc⟩:=eE.2.1;clear eE;have HS:=hid hS;clear hS;go_enter Tryz.func137,Tryz.ntmps137;go_wp2_with fail;rw[←KP,←KR,←KS,←KT,←KU,←KV,←KY,←KZ,←K0,←h9,←x6,←x7,←x8,←x9,←H7,←H8,←H9];clear H9 H8 H7 x9 x8 x7 x6 h9 K0 KZ KY KV KU KT KS KR KP;refine(cX w17).mono ?_;rintro e w18 ⟨⟨p,rfl,hn⟩,k18⟩;have La:=k18.cell hc;have HF:=hid (eh dy ⟨#[68]⟩ 0 qC (by rfl) qC _ w18 hn);rw[show((0:Nat):Int)=0 from rfl] at HF;have HR:=hid (show au w18 (.slice (some ⟨w.heap.size,0,none⟩) 1 1) (axK 1)∧aa w w18 from⟨HS.out.keeps k18,kW.trans k18⟩);clear HS kW k18 hn hc;go_wp2_with fail;refine HF.out.mono ?_;rintro e w' ⟨rfl,rfl⟩;go_wp2_with fail;go_ret;exact⟨⟨_,rfl,HR.out.1⟩,HR.out.2⟩
theorem so (w:World):Calls Tryz.prog 137 #[.string ⟨#[84]⟩] w fun e w'=>(∃ v,e=.returned v∧au w' v (axK 2))∧aa w w':=by
 obtain⟨w1,KP,w2,KR,w3,KS,w4,KT,w5,KU,w6,KV,w7,KY,w8,KZ,w9,K0,w10,h9,w11,x6,w12,x7,w13,x8,w14,x9,w15,H7,w16,H8,w17,H9,kW,eE⟩:=jj w;obtain⟨hS,hc⟩:=eE.2.2.1;clear eE;have HS:=hid hS;clear hS;go_enter Tryz.func137,Tryz.ntmps137;go_wp2_with fail;rw[←KP,←KR,←KS,←KT,←KU,←KV,←KY,←KZ,←K0,←h9,←x6,←x7,←x8,←x9,←H7,←H8,←H9];clear H9 H8 H7 x9 x8 x7 x6 h9 K0 KZ KY KV KU KT KS KR KP;refine(cX w17).mono ?_;rintro e w18 ⟨⟨p,rfl,hn⟩,k18⟩;have La:=k18.cell hc;have HF:=hid (eh dy ⟨#[84]⟩ 13 qC (by rfl) qC _ w18 hn);rw[show((13:Nat):Int)=13 from rfl] at HF;have HR:=hid (show au w18 (.slice (some ⟨w.heap.size+1+1+1+1+1+1+1+1+1+1+1+1+1,0,none⟩) 1 1) (axK 2)∧aa w w18 from⟨HS.out.keeps k18,kW.trans k18⟩);clear HS kW k18 hn hc;go_wp2_with fail;refine HF.out.mono ?_;rintro e w' ⟨rfl,rfl⟩;go_wp2_with fail;go_ret;exact⟨⟨_,rfl,HR.out.1⟩,HR.out.2⟩
theorem su (w:World):Calls Tryz.prog 137 #[.string ⟨#[75,52]⟩] w fun e w'=>(∃ v,e=.returned v∧au w' v (axK 3))∧aa w w':=by
 obtain⟨w1,KP,w2,KR,w3,KS,w4,KT,w5,KU,w6,KV,w7,KY,w8,KZ,w9,K0,w10,h9,w11,x6,w12,x7,w13,x8,w14,x9,w15,H7,w16,H8,w17,H9,kW,eE⟩:=jj w;obtain⟨hS,hc⟩:=eE.2.2.2.1;clear eE;have HS:=hid hS;clear hS;go_enter Tryz.func137,Tryz.ntmps137;go_wp2_with fail;rw[←KP,←KR,←KS,←KT,←KU,←KV,←KY,←KZ,←K0,←h9,←x6,←x7,←x8,←x9,←H7,←H8,←H9];clear H9 H8 H7 x9 x8 x7 x6 h9 K0 KZ KY KV KU KT KS KR KP;refine(cX w17).mono ?_;rintro e w18 ⟨⟨p,rfl,hn⟩,k18⟩;have La:=k18.cell hc;have HF:=hid (eh dy ⟨#[75,52]⟩ 5 qC (by rfl) qC _ w18 hn);rw[show((5:Nat):Int)=5 from rfl] at HF;have HR:=hid (show au w18 (.slice (some ⟨w.heap.size+1+1+1+1+1,0,none⟩) 1 1) (axK 3)∧aa w w18 from⟨HS.out.keeps k18,kW.trans k18⟩);clear HS kW k18 hn hc;go_wp2_with fail;refine HF.out.mono ?_;rintro e w' ⟨rfl,rfl⟩;go_wp2_with fail;go_ret;exact⟨⟨_,rfl,HR.out.1⟩,HR.out.2⟩
theorem sw (w:World):Calls Tryz.prog 137 #[.string ⟨#[83,52]⟩] w fun e w'=>(∃ v,e=.returned v∧au w' v (axK 4))∧aa w w':=by
 obtain⟨w1,KP,w2,KR,w3,KS,w4,KT,w5,KU,w6,KV,w7,KY,w8,KZ,w9,K0,w10,h9,w11,x6,w12,x7,w13,x8,w14,x9,w15,H7,w16,H8,w17,H9,kW,eE⟩:=jj w;obtain⟨hS,hc⟩:=eE.2.2.2.2.1;clear eE;have HS:=hid hS;clear hS;go_enter Tryz.func137,Tryz.ntmps137;go_wp2_with fail;rw[←KP,←KR,←KS,←KT,←KU,←KV,←KY,←KZ,←K0,←h9,←x6,←x7,←x8,←x9,←H7,←H8,←H9];clear H9 H8 H7 x9 x8 x7 x6 h9 K0 KZ KY KV KU KT KS KR KP;refine(cX w17).mono ?_;rintro e w18 ⟨⟨p,rfl,hn⟩,k18⟩;have La:=k18.cell hc;have HF:=hid (eh dy ⟨#[83,52]⟩ 9 qC (by rfl) qC _ w18 hn);rw[show((9:Nat):Int)=9 from rfl] at HF;have HR:=hid (show au w18 (.slice (some ⟨w.heap.size+1+1+1+1+1+1+1+1+1,0,none⟩) 2 2) (axK 4)∧aa w w18 from⟨HS.out.keeps k18,kW.trans k18⟩);clear HS kW k18 hn hc;go_wp2_with fail;refine HF.out.mono ?_;rintro e w' ⟨rfl,rfl⟩;go_wp2_with fail;go_ret;exact⟨⟨_,rfl,HR.out.1⟩,HR.out.2⟩
theorem sA (w:World):Calls Tryz.prog 137 #[.string ⟨#[71,76]⟩] w fun e w'=>(∃ v,e=.returned v∧au w' v (axK 5))∧aa w w':=by
 obtain⟨w1,KP,w2,KR,w3,KS,w4,KT,w5,KU,w6,KV,w7,KY,w8,KZ,w9,K0,w10,h9,w11,x6,w12,x7,w13,x8,w14,x9,w15,H7,w16,H8,w17,H9,kW,eE⟩:=jj w;obtain⟨hS,hc⟩:=eE.2.2.2.2.2.1;clear eE;have HS:=hid hS;clear hS;go_enter Tryz.func137,Tryz.ntmps137;go_wp2_with fail;rw[←KP,←KR,←KS,←KT,←KU,←KV,←KY,←KZ,←K0,←h9,←x6,←x7,←x8,←x9,←H7,←H8,←H9];clear H9 H8 H7 x9 x8 x7 x6 h9 K0 KZ KY KV KU KT KS KR KP;refine(cX w17).mono ?_;rintro e w18 ⟨⟨p,rfl,hn⟩,k18⟩;have La:=k18.cell hc;have HF:=hid (eh dy ⟨#[71,76]⟩ 2 qC (by rfl) qC _ w18 hn);rw[show((2:Nat):Int)=2 from rfl] at HF;have HR:=hid (show au w18 (.slice (some ⟨w.heap.size+1+1,0,none⟩) 1 1) (axK 5)∧aa w w18 from⟨HS.out.keeps k18,kW.trans k18⟩);clear HS kW k18 hn hc;go_wp2_with fail;refine HF.out.mono ?_;rintro e w' ⟨rfl,rfl⟩;go_wp2_with fail;go_ret;exact⟨⟨_,rfl,HR.out.1⟩,HR.out.2⟩
theorem sB (w:World):Calls Tryz.prog 137 #[.string ⟨#[83,53]⟩] w fun e w'=>(∃ v,e=.returned v∧au w' v (axK 6))∧aa w w':=by
 obtain⟨w1,KP,w2,KR,w3,KS,w4,KT,w5,KU,w6,KV,w7,KY,w8,KZ,w9,K0,w10,h9,w11,x6,w12,x7,w13,x8,w14,x9,w15,H7,w16,H8,w17,H9,kW,eE⟩:=jj w;obtain⟨hS,hc⟩:=eE.2.2.2.2.2.2;clear eE;have HS:=hid hS;clear hS;go_enter Tryz.func137,Tryz.ntmps137;go_wp2_with fail;rw[←KP,←KR,←KS,←KT,←KU,←KV,←KY,←KZ,←K0,←h9,←x6,←x7,←x8,←x9,←H7,←H8,←H9];clear H9 H8 H7 x9 x8 x7 x6 h9 K0 KZ KY KV KU KT KS KR KP;refine(cX w17).mono ?_;rintro e w18 ⟨⟨p,rfl,hn⟩,k18⟩;have La:=k18.cell hc;have HF:=hid (eh dy ⟨#[83,53]⟩ 12 qC (by rfl) qC _ w18 hn);rw[show((12:Nat):Int)=12 from rfl] at HF;have HR:=hid (show au w18 (.slice (some ⟨w.heap.size+1+1+1+1+1+1+1+1+1+1+1+1,0,none⟩) 2 2) (axK 6)∧aa w w18 from⟨HS.out.keeps k18,kW.trans k18⟩);clear HS kW k18 hn hc;go_wp2_with fail;refine HF.out.mono ?_;rintro e w' ⟨rfl,rfl⟩;go_wp2_with fail;go_ret;exact⟨⟨_,rfl,HR.out.1⟩,HR.out.2⟩
end Go.Proofs.YtagoboblkadelaaGreat
