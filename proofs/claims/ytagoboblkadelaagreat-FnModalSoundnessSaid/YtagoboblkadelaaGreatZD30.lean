import Derived.Test.YtagoboblkadelaaGreatZMV
/- own -/
namespace Go.Proofs.YtagoboblkadelaaGreat
set_option maxHeartbeats 1000000
open Go.RowKit
def iu:List ByteArray:=[lgS 0,lgS 1,lgS 2,lgS 3,lgS 4,lgS 5,lgS 6,lgS 7]
open scoped Classical in
noncomputable def ma (s:ByteArray):Bool:=decide (s∈iu)
theorem Bm {s:ByteArray} (h:ma s=true):∃ L,L<8∧s=lgS L:=by
 unfold ma at h;have h:=@of_decide_eq_true _ (Classical.propDecidable _) h;simp only[iu,List.mem_cons,List.not_mem_nil,or_false] at h
 rcases h with h | h | h | h | h | h | h | h
 ·exact⟨0,qB,h⟩
 ·exact⟨1,qB,h⟩
 ·exact⟨2,qB,h⟩
 ·exact⟨3,qB,h⟩
 ·exact⟨4,qB,h⟩
 ·exact⟨5,qB,h⟩
 ·exact⟨6,qB,h⟩
 ·exact⟨7,qB,h⟩
theorem DQ (L:Nat) (h:L<8):ma (lgS L)=true:=by
 unfold ma;apply @decide_eq_true _ (Classical.propDecidable _);have h8:L=0∨L=1∨L=2∨L=3∨L=4∨L=5∨L=6∨L=7:=qB
 rcases h8 with rfl | rfl | rfl | rfl | rfl | rfl | rfl | rfl<;>simp[iu]
theorem z7 (ss:List ByteArray) (x:ByteArray) (v:Value) (w:World) (hv:au w v ss):
  Calls Tryz.prog 152 #[v,.string x] w fun e w'=>e=.returned (.int .i64 (idxOf (fun y=>x.toList==y.toList) ss 0))∧w=w':=by
 have x9:=hv;obtain⟨p,cap,rfl,KP,H9,H8⟩:=hv.shape;unfold maxLen at H9;have HV:=hid x9;clear hv x9;have HD:=hid (fun k (h:k<ss.length)=>ea (fun y:ByteArray=>x.toList==y.toList) ss k h);have HE:=hid (eT (fun y:ByteArray=>x.toList==y.toList) ss ss.length (zm _));generalize x8:(fun y:ByteArray=>x.toList==y.toList)=pr at*;have H7:Hid (∀ y,(x.toList==y.toList)=pr y):=hid (fun y=>by rw[←x8]);clear x8;go_enter Tryz.func152,Tryz.ntmps152;go_wp2_with fail
 go_loopw [4,8] (fun o i' wr=>∃ k:Nat,k≤ss.length∧i'=.int .i64 k∧o=.int .i64 0∧idxOf pr ss 0=idxOf pr (ss.drop k) k∧w=wr) (fun _ i' _=>ss.length-(intOf i').toNat)
 case atStart=>exact⟨0,qB,rfl,rfl,qD,rfl⟩
 case round=>
  obtain⟨k,hk,rfl,rfl,hs,rfl⟩:=hrel;have Hs:=hid hs;clear hs
  by_cases x7:k<ss.length
  ·have h9:(k:Int)<ss.length:=qB
   obtain⟨b1,o1,rfl,h1⟩:=HV.out.get k x7;have x6:=hid (HD.out k x7);have HQ:=hid (H7.out ss[k]);generalize ss[k]=y at*
   cases he:pr y
   ·have eE:(x.toList==y.toList)=false:=by rw[HQ.out,he]
    have HN:Hid (idxOf pr (ss.drop k) k=idxOf pr (ss.drop (k+1)) (k+1)):=hid (by have:=x6.out;rw[eE] at this;exact this);clear he;go_wp2_with fail;go_roundw
    case rel=>exact⟨k+1,qB,by go_num,rfl,by rw[Hs.out,HN.out],by trivial⟩
    case measure=>simp[intOf];omega
   ·have eE:(x.toList==y.toList)=true:=by rw[HQ.out,he]
    have HN:Hid (idxOf pr (ss.drop k) k=(k:Int)):=hid (by have:=x6.out;rw[eE] at this;exact this);clear he;go_wp2_with fail;go_ret;exact⟨aK (by rw[Hs.out,HN.out]),rfl⟩
  ·obtain rfl:k=ss.length:=qB
   have h9:¬((ss.length:Nat):Int)<ss.length:=qB;go_wp2;go_ret;exact⟨aK (by rw[Hs.out,HE.out]),rfl⟩
open scoped Classical in
theorem tG (ss:List ByteArray) (x:ByteArray) (v:Value) (w:World) (hv:au w v ss):
  Calls Tryz.prog 104 #[v,.string x] w fun e w'=>e=.returned (.bool (decide (x∈ss)))∧w=w':=by
 have HI:=hid (z7 ss x v w hv)
 have hd:decide (x∈ss)=decide (idxOf (fun y:ByteArray=>x.toList==y.toList) ss 0≥0):=by
  rw[fI,Bool.eq_iff_iff,decide_eq_true_eq,List.any_eq_true];constructor
  ·intro h;exact⟨x,h,qD⟩
  ·rintro⟨y,hy,e⟩
   rw[dT,decide_eq_true_eq] at e;rw[da e];exact hy
 rw[hd];generalize idxOf (fun y:ByteArray=>x.toList==y.toList) ss 0=j at*;clear hv hd;go_enter Tryz.func104,Tryz.ntmps104;go_wp2_with fail;refine HI.out.mono ?_;rintro e w2 ⟨rfl,rfl⟩;go_wp2_with fail;go_ret;exact⟨ab rfl,rfl⟩
theorem oM (w:World):Calls Tryz.prog 114 #[] w fun e w'=>∃ v,e=.returned v∧aA w' w.heap.size v iu∧aa w w':=by
 have HO:Hid (aA (w.alloc (.cells #[.string ⟨#[75]⟩,.string ⟨#[68]⟩,.string ⟨#[84]⟩,.string ⟨#[75,52]⟩,.string ⟨#[83,52]⟩,.string ⟨#[71,76]⟩,.string ⟨#[83,53]⟩,.string ⟨#[75,66]⟩] 9)) w.heap.size (.slice (some ⟨w.heap.size,0,none⟩) 8 8) iu):=hid (by
  have h:=World.ownsRow_lit (base:=w.heap.size) (e:=9) (size:=1) w #[.string ⟨#[75]⟩,.string ⟨#[68]⟩,.string ⟨#[84]⟩,.string ⟨#[75,52]⟩,.string ⟨#[83,52]⟩,.string ⟨#[71,76]⟩,.string ⟨#[83,53]⟩,.string ⟨#[75,66]⟩] 8 (zm _) (by simp[maxLen]) qD
  exact h)
 go_enter Tryz.func114,Tryz.ntmps114;go_wp2;go_ret;exact⟨_,rfl,HO.out,(aa.refl w).alloc _⟩
theorem mH (s:ByteArray) (w:World):Calls Tryz.prog 71 #[.string s] w fun e w'=>e=.returned (.bool (ma s))∧aa w w':=by
 have HS:=hid (oM w);have HC:=hid (fun v wz (h:au wz v iu)=>tG iu s v wz h);have HL:Hid (ma s=@decide (s∈iu) (Classical.propDecidable _)):=hid (by unfold ma;rfl);go_enter Tryz.func71,Tryz.ntmps71;go_wp2_with fail;refine HS.out.mono ?_;rintro e w2 ⟨v2,rfl,h9,k2⟩;have eE:=hid (HC.out v2 w2 (h9.strs (by simp[iu])));go_wp2_with fail;refine eE.out.mono ?_;rintro e w3 ⟨rfl,rfl⟩;go_wp2_with fail;go_ret;exact⟨ab (by rw[HL.out]),k2⟩
open scoped Classical in
theorem fP (ss:List ByteArray) (x:ByteArray) (v:Value) (w:World) (hv:au w v ss):
  Calls Tryz.prog 98 #[v,.string x] w fun e w'=>e=.returned (.bool (decide (x∈ss)))∧w=w':=by
 have x9:=hv;obtain⟨p,cap,rfl,KP,H8,H7⟩:=hv.shape;unfold maxLen at H8;have HV:=hid x9;clear hv x9
 have HY:=hid (fun i (h:i<ss.length) (e:(ss[i].toList==x.toList)=true)=>show decide (x∈ss)=true from decide_eq_true (by
  rw[dT,decide_eq_true_eq] at e;rw[←da e]
  exact zo h))
 have HN:=hid (fun (h:∀ j (hj:j<ss.length),(ss[j].toList==x.toList)=false)=>show decide (x∈ss)=false from decide_eq_false (fun hm=>by
  obtain⟨j,hj,e⟩:=List.getElem_of_mem hm;have:=h j hj;rw[e,dT] at this
  simp at this))
 generalize decide (x∈ss)=b at*;go_enter Tryz.func98,Tryz.ntmps98;go_wp2_with fail
 go_loopw [4,5] (fun o i' wr=>∃ i:Nat,i≤ss.length∧i'=.int .i64 i∧o=.bool false∧(∀ j (hj:j<ss.length),j<i→(ss[j].toList==x.toList)=false)∧w=wr) (fun _ i' _=>ss.length-(intOf i').toNat)
 case atStart=>exact⟨0,qB,rfl,rfl,fun j hj h=>by omega,rfl⟩
 case round=>
  obtain⟨i,hi,rfl,rfl,eE,rfl⟩:=hrel;have HA:=hid eE;clear eE
  by_cases x8:i<ss.length
  ·have h9:(i:Int)<ss.length:=qB
   obtain⟨b1,o1,rfl,h1⟩:=HV.out.get i x8;have x7:=hid (HY.out i x8)
   have x6:Hid ((ss[i].toList==x.toList)=false→∀ j (hj:j<ss.length),j<i+1→(ss[j].toList==x.toList)=false):=hid (fun h j hj H9=>by
    by_cases e:j=i
    ·subst e;exact h
    ·exact HA.out j hj qB)
   generalize ss[i]=y at*
   cases he:y.toList==x.toList
   ·rw[he] at x6
    go_wp2_with fail;go_roundw
    case rel=>exact⟨i+1,qB,by go_num,rfl,x6.out (by trivial),by trivial⟩
    case measure=>simp[intOf];omega
   ·rw[he] at x7
    go_wp2_with fail;go_ret;exact⟨ab (by rw[x7.out (by trivial)]),rfl⟩
  ·have h9:¬(i:Int)<ss.length:=qB
   have HB:=hid (HN.out (fun j hj=>HA.out j hj qB));obtain rfl:i=ss.length:=qB;go_wp2_with fail;go_ret;exact⟨ab (by rw[HB.out]),rfl⟩
def aT:List ByteArray:=[lgS 0,lgS 1,lgS 2,lgS 3,lgS 4,lgS 5,lgS 6]
open scoped Classical in
theorem gI (s:ByteArray) (w:World):Calls Tryz.prog 61 #[.string s] w fun e w'=>e=.returned (.bool (decide (s∈aT)))∧aa w w':=by
 have HS:Hid (au (w.alloc (.cells #[.string ⟨#[75]⟩,.string ⟨#[68]⟩,.string ⟨#[84]⟩,.string ⟨#[75,52]⟩,.string ⟨#[83,52]⟩,.string ⟨#[71,76]⟩,.string ⟨#[83,53]⟩] 9)) (.slice (some ⟨w.heap.size,0,none⟩) 7 7) aT):=hid (au.lit (w:=w) aT (by simp[aT]));have HC:=hid (fP aT s _ _ HS.out);have kA:=(aa.refl w).alloc (.cells #[.string ⟨#[75]⟩,.string ⟨#[68]⟩,.string ⟨#[84]⟩,.string ⟨#[75,52]⟩,.string ⟨#[83,52]⟩,.string ⟨#[71,76]⟩,.string ⟨#[83,53]⟩] 9);go_enter Tryz.func61,Tryz.ntmps61;go_wp2_with fail;refine HC.out.mono ?_;rintro e w3 ⟨rfl,rfl⟩;go_wp2_with fail;go_ret;exact⟨rfl,kA⟩
def I8 (B:Nat) (w:World) (e:Ending) (w':World):Prop:=∃ s:ByteArray,e=.returned (.string s)∧s.size≤4∧Dr B w w'
def kG:List ByteArray:=[⟨#[]⟩,⟨#[107]⟩,⟨#[75,66]⟩,⟨#[83,52,32]⟩]
theorem E7:(∀ s∈kG,s.size≤4)∧∀ s∈aT,s.size≤4:=by
 constructor
 ·intro s hs
  simp only[kG,List.mem_cons,List.not_mem_nil,or_false] at hs
  rcases hs with rfl | rfl | rfl | rfl<;>decide
 ·intro s hs
  simp only[aT,List.mem_cons,List.not_mem_nil,or_false] at hs
  rcases hs with rfl | rfl | rfl | rfl | rfl | rfl | rfl<;>decide
theorem au.dr {w w':World} {B b n c:Nat} {ss:List ByteArray} (h:au w (.slice (some ⟨b,0,none⟩) n c) ss) (k:Dr B w w') (hb:b≠B) (h9:b<w.heap.size):au w' (.slice (some ⟨b,0,none⟩) n c) ss:=by
 obtain⟨p,cap,e,h1,h2,eE,h3⟩:=h.at
 cases e
 refine au.ofAt h1 h2 (fun j hj=>?_) h3;obtain⟨b',off',hp,hc⟩:=eE j hj
 cases hp
 exact⟨b,0,rfl,by rw[(k.1.cell h9 hb).1];exact hc⟩
set_option maxRecDepth 20000 in
theorem vZ (B:Nat) (w:World) (hs:Src w B):Calls Tryz.prog 57 #[.pointer (some ⟨B,0,none⟩)] w (I8 B w):=by
 have HZ:=hid E7;go_enter Tryz.func57,Tryz.ntmps57;go_wp2_with fail;refine(aE 40 B _ hs qB).mono ?_;rintro e w1 ⟨r1,rfl,x9,d1⟩;have x8:=d1.2.lt
 by_cases x7:r1=0
 ·subst x7
  have hl:au (w1.alloc (.cells #[.string ⟨#[]⟩,.string ⟨#[107]⟩,.string ⟨#[75,66]⟩,.string ⟨#[83,52,32]⟩] 9)) (.slice (some ⟨w1.heap.size,0,none⟩) 4 4) kG:=au.lit (w:=w1) kG (by simp[kG]);have d2:=d1.keeps ((aa.refl w1).alloc (.cells #[.string ⟨#[]⟩,.string ⟨#[107]⟩,.string ⟨#[75,66]⟩,.string ⟨#[83,52,32]⟩] 9));go_wp2_with fail;refine(aE 4 B _ d2.2 qB).mono ?_;rintro e w3 ⟨r3,rfl,x6,d3⟩
  have hr:r3<kG.length:=by simp[kG];omega
  have hr':(r3:Int)<4:=qB;obtain⟨b,o,e9,hc⟩:=(hl.dr d3 qB qD).get r3 hr
  cases e9
  rw[Nat.zero_add] at hc;have eE:=HZ.out.1 _ (zo hr);have h9:=hid eE;clear hl eE;generalize kG[r3]=x at*;clear hr;go_wp2_with fail;go_ret;exact⟨x,rfl,h9.out,d2.trans d3⟩
 ·have hz':((r1:Nat):Int)≠0:=qB
  have hl:au (w1.alloc (.cells #[.string ⟨#[75]⟩,.string ⟨#[68]⟩,.string ⟨#[84]⟩,.string ⟨#[75,52]⟩,.string ⟨#[83,52]⟩,.string ⟨#[71,76]⟩,.string ⟨#[83,53]⟩] 9)) (.slice (some ⟨w1.heap.size,0,none⟩) 7 7) aT:=au.lit (w:=w1) aT (by simp[aT]);have d2:=d1.keeps ((aa.refl w1).alloc (.cells #[.string ⟨#[75]⟩,.string ⟨#[68]⟩,.string ⟨#[84]⟩,.string ⟨#[75,52]⟩,.string ⟨#[83,52]⟩,.string ⟨#[71,76]⟩,.string ⟨#[83,53]⟩] 9));go_wp2_with fail;refine(aE 7 B _ d2.2 qB).mono ?_;rintro e w3 ⟨r3,rfl,x6,d3⟩
  have hr:r3<aT.length:=by simp[aT];omega
  have hr':(r3:Int)<7:=qB;obtain⟨b,o,e9,hc⟩:=(hl.dr d3 qB qD).get r3 hr
  cases e9
  rw[Nat.zero_add] at hc;have eE:=HZ.out.2 _ (zo hr);have h9:=hid eE;clear hl eE;generalize aT[r3]=x at*;clear hr;go_wp2_with fail;go_ret;exact⟨x,rfl,h9.out,d2.trans d3⟩
def jI (m:Nat) (w:World) (B0:Nat) (v:Value):Prop:=∃ b n c ss,v=.slice (some ⟨b,0,none⟩) n c∧aA w B0 (.slice (some ⟨b,0,none⟩) n c) ss∧ss.length≤m∧∀ s∈ss,s.size≤200
theorem aA.drX {w w':World} {B b:Nat} {v:Value} {a:List ByteArray} (h:aA w b v a) (k:Dr B w w') (hB:B<b):aA w' b v a:=aZ h k.1 (fun i hi e=>by have:=(h.len i hi).1;omega)
theorem jI.up {m m':Nat} {w:World} {b:Nat} {v:Value} (h:jI m w b v) (k:m≤m'):jI m' w b v:=by
 obtain⟨x,n,c,ss,e,h1,h2,h3⟩:=h;exact⟨x,n,c,ss,e,h1,qB,h3⟩
theorem jI.insert {m:Nat} {w w':World} {B:Nat} {ss:List ByteArray} {s:ByteArray} {e:Ending} (h:xi w B (ae ss s) e w') (hl:ss.length≤m) (h1:∀ s∈ss,s.size≤200) (h2:s.size≤200):∃ v,e=.returned v∧jI (m+1) w' B v∧aa w w':=by
 obtain⟨b,n,c,rfl,ho,k⟩:=h
 have eE:∃ g,b=⟨g,0,none⟩:=by
  rcases ho.2 with ⟨e,_⟩ | ⟨g,cap,cur,e,_⟩
  ·cases e
  ·cases e;exact⟨g,rfl⟩
 obtain⟨g,rfl⟩:=eE;refine⟨_,rfl,⟨g,n,c,_,rfl,ho,by have:=(aX ss s).1;omega,fun x hx=>?_⟩,k⟩;have hb:bts x∈(ae ss s).map bts:=List.mem_map_of_mem hx;rw[mG] at hb
 rcases(kh _ _ _).1 hb with h | h
 ·obtain⟨y,hy,e⟩:=List.mem_map.1 h
  rw[←da e];exact h1 y hy
 ·rw[da h];exact h2
def FC (B m:Nat) (w:World) (e:Ending) (w':World):Prop:=∃ v,e=.returned v∧jI m w' w.heap.size v∧Dr B w w'
end Go.Proofs.YtagoboblkadelaaGreat
