import Derived.Test.YtagoboblkadelaaGreatZD30
import Derived.Test.YtagoboblkadelaaGreatZTF
/- own -/
namespace Go.Proofs.YtagoboblkadelaaGreat
set_option maxHeartbeats 1000000
open Go.RowKit
theorem jO (ss:List ByteArray) (v v':Value) (w:World) (hv:au w v ss) (hv':au w v' ss):
  Calls Tryz.prog 30 #[v,v'] w fun e w'=>e=.returned (.bool true)∧aa w w':=by
 have x7:=hv;have x8:=hv';obtain⟨p,cap,rfl,H9,H8,H7⟩:=hv.shape;obtain⟨p',cap',rfl,x9,h9,_⟩:=hv'.shape;unfold maxLen at H8 h9;have HV:=hid (fun wz (k:aa w wz)=>x7.keeps k);have HW:=hid (fun wz (k:aa w wz)=>x8.keeps k);clear hv hv' x7 x8;go_enter Tryz.func30,Tryz.ntmps30;go_wp2_with fail
 go_loopw [4,5] (fun o i' wr=>∃ i:Nat,i≤ss.length∧i'=.int .i64 i∧o=.bool false∧aa w wr) (fun _ i' _=>ss.length-(intOf i').toNat)
 case atStart=>exact⟨0,qB,rfl,rfl,aa.refl w⟩
 case round=>
  obtain⟨i,hi,rfl,rfl,kw⟩:=hrel
  by_cases x6:i<ss.length
  ·have eE:(i:Int)<ss.length:=qB
   obtain⟨b1,o1,rfl,h1⟩:=(HV.out wr kw).get i x6;obtain⟨b2,o2,rfl,h2⟩:=(HW.out wr kw).get i x6;generalize ss[i]=x at*;go_wp2_with fail
   go_quiet (fail)
   go_wp2_with fail;go_roundw
   case rel=>exact⟨i+1,qB,by go_num,rfl,kw.drewN _⟩
   case measure=>simp[intOf];omega
  ·have eE:¬(i:Int)<ss.length:=qB
   obtain rfl:i=ss.length:=qB;go_wp2_with fail;go_ret;exact⟨rfl,kw⟩
theorem wj (X Y:List ByteArray) (a b c d:Value) (w:World) (ha:au w a X) (hb:au w b Y) (hc:au w c X) (hd:au w d Y):
  Calls Tryz.prog 10 #[.agg #[a,b],.agg #[c,d]] w fun e w'=>e=.returned (.bool true)∧aa w w':=by
 have kA:=(aa.refl w).alloc (.cells #[a,b] 29);obtain⟨c0,c1⟩:=BoxQ.made w a b 29;have kB:=(aa.refl (w.alloc (.cells #[a,b] 29))).alloc (.cells #[c,d] 29);obtain⟨d0,d1⟩:=BoxQ.made (w.alloc (.cells #[a,b] 29)) c d 29
 have hz:(w.alloc (.cells #[a,b] 29)).heap.size=w.heap.size+1:=by simp
 rw[hz] at d0 d1;have K:=kA.trans kB;have H1:=hid (jO X a c _ (ha.keeps K) (hc.keeps K));have H2:=hid (fun wz (kz:aa w wz)=>jO Y b d wz (hb.keeps kz) (hd.keeps kz))
 replace c0:=kB.cell c0
 replace c1:=kB.cell c1
 obtain⟨p1,m1,q1,rfl⟩:=ha.sh;obtain⟨p2,m2,q2,rfl⟩:=hb.sh;obtain⟨p3,m3,q3,rfl⟩:=hc.sh;obtain⟨p4,m4,q4,rfl⟩:=hd.sh;have HC:=hid (And.intro c1 d1);clear ha hb hc hd hz kA kB c1 d1;go_enter Tryz.func10,Tryz.ntmps10;go_wp2_with fail;refine H1.out.mono ?_;rintro e w2 ⟨rfl,k2⟩;have e1:=k2.cell HC.out.1;have e2:=k2.cell HC.out.2;have H3:=hid (H2.out _ (K.trans k2));clear H1 H2;go_wp2_with fail;refine H3.out.mono ?_;rintro e w3 ⟨rfl,k3⟩;go_wp2_with fail;go_ret;exact⟨rfl,(K.trans k2).trans k3⟩
end Go.Proofs.YtagoboblkadelaaGreat
