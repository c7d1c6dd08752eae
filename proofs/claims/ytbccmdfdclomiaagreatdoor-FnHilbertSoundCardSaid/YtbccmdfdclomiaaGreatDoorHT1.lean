import Derived.Test.YtbccmdfdclomiaaGreatDoorHM3
import Derived.Deep.AppendLies
/- own -/
namespace Go.Proofs.YtbccmdfdclomiaaGreatDoor
set_option maxRecDepth 20000
set_option maxHeartbeats 4000000
open Go.RowKit
def BtsB (w:World) (v:Value) (n B:Nat):Prop:=∃ p cap,v=.slice p n cap∧n≤cap∧cap≤maxLen∧∀ j,j<n→∃ b off,∃ x:Nat,p=some ⟨b,off,none⟩∧w.cell? ⟨b,off+j,none⟩=some (.int .u8 x)∧x<256∧b<B
def NotSq (T:TypeId):Prop:=T≠85
def SrcTy (w:World) (B:Nat):Prop:=∃ T,TyAt w B T∧T≠9∧T≠2∧NotSq T
theorem SrcTy.keeps {w w':World} {B:Nat} (h:SrcTy w B) (k:Keeps w w'):SrcTy w' B:=by
 obtain ⟨T,h1,h2⟩:=h;exact ⟨T,h1.keeps k,h2⟩
theorem SrcTy.set {w:World} {B:Nat} (h:SrcTy w B) (a:Addr) (u:Value):SrcTy (w.setCell a u) B:=by
 obtain ⟨T,h1,h2⟩:=h;exact ⟨T,h1.set a u,h2⟩
theorem SrcTy.drewN {w:World} {B:Nat} (h:SrcTy w B) (n:Nat):SrcTy (w.drewN n) B:=h
theorem SrcTy.touch {w w':World} {S:Nat→Prop} {B:Nat} (h:SrcTy w B) (k:Touch w w' S) (hB:¬S B):SrcTy w' B:=by
 obtain ⟨T,h1,h2⟩:=h;exact ⟨T,h1.touch k hB,h2⟩
def Src (w:World) (B:Nat):Prop:=∃ v n,∃ at':Nat,∃ h:Int,w.cell? ⟨B,0,none⟩=some v∧w.cell? ⟨B,1,none⟩=some (.int .i64 at')∧w.cell? ⟨B,2,none⟩=some (.int .u64 h)∧w.frozen? ⟨B,1,none⟩=false∧w.frozen? ⟨B,2,none⟩=false∧SrcTy w B∧at'≤n∧BtsB w v n B
theorem BtsB.touch {w w':World} {v:Value} {n B:Nat} (h:BtsB w v n B) (k:Touch w w' (fun i=>i=B)):BtsB w' v n B:=by
 obtain ⟨p,cap,e,h1,h2,h3⟩:=h;refine ⟨p,cap,e,h1,h2,fun j hj=>?_⟩;obtain ⟨b,off,x,e2,hc,hx,hb⟩:=h3 j hj;exact ⟨b,off,x,e2,by rw [(k.cell (b:=b) (World.block_lt_of_cell? _ _ hc) (by omega)).1];exact hc,hx,hb⟩
def Dr (B:Nat) (w w':World):Prop:=Touch w w' (fun i=>i=B)∧Src w' B
theorem Dr.trans {B:Nat} {a b c:World} (h:Dr B a b) (k:Dr B b c):Dr B a c:=⟨h.1.trans k.1,k.2⟩
theorem Src.keeps {w w':World} {B:Nat} (h:Src w B) (k:Keeps w w'):Src w' B:=by
 obtain ⟨v,n,a,h,c0,c1,c2,f1,f2,ty,ha,hb⟩:=h;have hB:=World.block_lt_of_cell? _ _ c0;refine ⟨v,n,a,h,k.cell c0,k.cell c1,k.cell c2,?_,?_,ty.keeps k,ha,hb.touch (Touch.of_keeps k _)⟩
 ·rw [(k.both).2 B 1 hB];exact f1
 ·rw [(k.both).2 B 2 hB];exact f2
theorem Dr.keeps {B:Nat} {a b c:World} (h:Dr B a b) (k:Keeps b c):Dr B a c:=⟨h.1.trans (Touch.of_keeps k _),h.2.keeps k⟩
theorem Dr.of {B:Nat} {a b:World} (h:Src a B) (k:Keeps a b):Dr B a b:=⟨Touch.of_keeps k _,h.keeps k⟩
theorem Src.lt {w:World} {B:Nat} (h:Src w B):B<w.heap.size:=by
 obtain ⟨v,n,a,h,c0,_⟩:=h;exact World.block_lt_of_cell? _ _ c0
theorem Dr.size {B:Nat} {a b:World} (h:Dr B a b):a.heap.size≤b.heap.size:=h.1.size
theorem and24 (x:Int):∃ r:Nat,bits .and .u64 x 16777215=(r:Int)∧r≤16777215:=by
 refine ⟨(BitVec.ofInt 64 x &&& BitVec.ofInt 64 16777215).toNat,?_,?_⟩
 ·show IntKind.u64.wrap ((BitVec.ofInt 64 x &&& BitVec.ofInt 64 16777215).toNat:Int)=_
  have h1:=(BitVec.ofInt 64 x &&& BitVec.ofInt 64 16777215).isLt;generalize (BitVec.ofInt 64 x &&& BitVec.ofInt 64 16777215).toNat=k at h1 ⊢;simp [IntKind.wrap,IntKind.bits,IntKind.signed];omega
 ·rw [BitVec.toNat_and]
  exact Nat.le_trans Nat.and_le_right (by decide)
theorem l01Next_any (n:Int) (B:Nat) (w:World) (hs:Src w B) (hn:n≤1000000):Calls Tryz.prog 53 #[.pointer (some ⟨B,0,none⟩),.int .i64 n] w fun e w'=>∃ r:Nat,e=.returned (.int .i64 r)∧((r:Int)<n∨r=0)∧Dr B w w':=by
 by_cases h1:n<1
 ·go_enter Tryz.func53,Tryz.ntmps53
  go_wp2;go_ret;exact ⟨0,rfl,.inr rfl,Dr.of hs (Keeps.refl w)⟩
 ·obtain ⟨v,m,a,h,c0,c1,c2,f1,f2,ty,ha,hb⟩:=hs
  obtain ⟨p,cap,rfl,hmc,hmx,hbt⟩:=hb;unfold maxLen at hmx;have HB:=hid hbt;go_enter Tryz.func53,Tryz.ntmps53;go_wp2;obtain ⟨y,hy,hyl⟩:=and24 (IntKind.u64.wrap (IntKind.u64.wrap (h*6364136223846793005)+1442695040888963407)/8589934592)
  have hwy:wrap64 (y:Int)=y:=by unfold wrap64;omega
  rw [hy,hwy];clear hy hwy;generalize IntKind.u64.wrap (IntKind.u64.wrap (h*6364136223846793005)+1442695040888963407)=h2;have t2:Touch w (w.setCell ⟨B,2,none⟩ (.int .u64 h2)) (fun i=>i=B):=(Touch.grown (grown_set B 2 _)).mono (fun k e=>by cases e;rfl)
  have d0:(w.setCell ⟨B,2,none⟩ (.int .u64 h2)).cell? ⟨B,0,none⟩=some (.slice p m cap):=by rw [World.cell?_setCell_other _ _ _ _ (by simp)];exact c0
  have d1:(w.setCell ⟨B,2,none⟩ (.int .u64 h2)).cell? ⟨B,1,none⟩=some (.int .i64 a):=by rw [World.cell?_setCell_other _ _ _ _ (by simp)];exact c1
  have d2:(w.setCell ⟨B,2,none⟩ (.int .u64 h2)).cell? ⟨B,2,none⟩=some (.int .u64 h2):=World.cell?_setCell_same _ _ _ c2
  have g1:(w.setCell ⟨B,2,none⟩ (.int .u64 h2)).frozen? ⟨B,1,none⟩=false:=by simpa using f1
  have g2:(w.setCell ⟨B,2,none⟩ (.int .u64 h2)).frozen? ⟨B,2,none⟩=false:=by simpa using f2
  have hb2:BtsB (w.setCell ⟨B,2,none⟩ (.int .u64 h2)) (.slice p m cap) m B:=BtsB.touch ⟨p,cap,rfl,hmc,hmx,HB.out⟩ t2;have ty2:=hid (ty.set ⟨B,2,none⟩ (.int .u64 h2));clear ty;have T2:=hid t2;clear t2;generalize w.setCell ⟨B,2,none⟩ (.int .u64 h2)=w2 at*;clear c0 c1 c2 f1 f2 hbt
  by_cases hlt:a<m
  ·have hlt':(a:Int)<m:=by omega
   obtain ⟨b,off,x,rfl,hx,hx8,hbB⟩:∃ b off,∃ x:Nat,p=some ⟨b,off,none⟩∧w2.cell? ⟨b,off+a,none⟩=some (.int .u8 x)∧x<256∧b<B:=by
    obtain ⟨p',cap',e,_,_,h3⟩:=hb2
    cases e
    exact h3 a hlt
   go_quiet (fail)
   go_wp2_with fail
   go_quiet (fail)
   go_wp2_with fail;go_ret;have hr0:0≤((y:Int)+x)%n:=Int.emod_nonneg _ (by omega);have hr1:((y:Int)+x)%n<n:=Int.emod_lt_of_pos _ (by omega)
   have t3:∀ z,Touch w2 ((w2.drewN z).setCell ⟨B,1,none⟩ (.int .i64 ((a:Int)+1))) (fun i=>i=B):=fun z=>(Touch.of_keeps ((Keeps.refl w2).drewN z) _).trans ((Touch.grown (grown_set B 1 _)).mono (fun k e=>by cases e;rfl))
   refine ⟨(((y:Int)+x)%n).toNat,ret_int (by omega),.inl (by omega),T2.out.trans (t3 _),_,m,a+1,h2,?_,?_,?_,?_,?_,(ty2.out.drewN _).set _ _,by omega,hb2.touch (t3 _)⟩
   ·rw [World.cell?_setCell_other _ _ _ _ (by simp)];exact d0
   ·refine (World.cell?_setCell_same _ _ _ (u:=.int .i64 a) ?_).trans ?_
    ·exact d1
    ·simp
   ·rw [World.cell?_setCell_other _ _ _ _ (by simp)];exact d2
   ·simpa using g1
   ·simpa using g2
  ·have hlt':¬(a:Int)<m:=by omega
   go_quiet (fail)
   go_wp2_with fail;go_ret;have hr0:0≤(y:Int)%n:=Int.emod_nonneg _ (by omega);have hr1:(y:Int)%n<n:=Int.emod_lt_of_pos _ (by omega);have t3:=Touch.of_keeps ((Keeps.refl w2).drewN nq) (fun i=>i=B);exact ⟨((y:Int)%n).toNat,ret_int (by omega),.inl (by omega),T2.out.trans t3,_,m,a,h2,d0,d1,d2,g1,g2,ty2.out.drewN _,ha,hb2.touch t3⟩
def Bts (w:World) (v:Value) (n:Nat):Prop:=BtsB w v n w.heap.size
theorem BtsB.low {w w':World} {v:Value} {n B:Nat} (h:BtsB w v n B) (k:Keeps w w'):BtsB w' v n B:=by
 obtain ⟨p,cap,e,h1,h2,h3⟩:=h;refine ⟨p,cap,e,h1,h2,fun j hj=>?_⟩;obtain ⟨b,off,x,e2,hc,hx,hb⟩:=h3 j hj;exact ⟨b,off,x,e2,k.cell hc,hx,hb⟩
def FromRel (w:World) (v:Value) (wr:World):Prop:=Keeps w wr∧∃ h,SrcTy wr w.heap.size∧wr.cell? ⟨w.heap.size,0,none⟩=some v∧wr.cell? ⟨w.heap.size,1,none⟩=some (.int .i64 0)∧wr.cell? ⟨w.heap.size,2,none⟩=some (.int .u64 h)∧wr.frozen? ⟨w.heap.size,1,none⟩=false∧wr.frozen? ⟨w.heap.size,2,none⟩=false
theorem FromRel.step {w wr:World} {v:Value} (hr:FromRel w v wr) (x:Int):FromRel w v (wr.setCell ⟨w.heap.size,2,none⟩ (.int .u64 x)).drew:=by
 obtain ⟨kw,h,ty,c0,c1,c2,f1,f2⟩:=hr;refine ⟨Keeps.drew (kw.setCell (by simp) _),x,(ty.set _ _).drewN 1,?_,?_,?_,?_,?_⟩
 ·show (World.setCell _ _ _).cell? _=_
  rw [World.cell?_setCell_other _ _ _ _ (by simp)];exact c0
 ·show (World.setCell _ _ _).cell? _=_
  rw [World.cell?_setCell_other _ _ _ _ (by simp)];exact c1
 ·show (World.setCell _ _ _).cell? _=_
  exact World.cell?_setCell_same _ _ _ c2
 ·show (World.setCell _ _ _).frozen? _=_
  simpa using f1
 ·show (World.setCell _ _ _).frozen? _=_
  simpa using f2
theorem l01From_any (v:Value) (n:Nat) (w:World) (hv:Bts w v n) (hn:n≤4096):Calls Tryz.prog 32 #[v] w fun e w'=>∃ B,e=.returned (.pointer (some ⟨B,0,none⟩))∧w.heap.size≤B∧Src w' B∧Keeps w w':=by
 have hv0:=hv;obtain ⟨p,cap,rfl,hmc,hmx,hbt⟩:=hv;unfold maxLen at hmx;have HB:=hid hv0;clear hv0 hbt;go_enter Tryz.func32,Tryz.ntmps32;go_wp2;have hk0:Keeps w (w.alloc (.cells #[.slice p n cap,.int .i64 0,.int .u64 (7129+(n:Int))] 113)):=(Keeps.refl w).alloc _
 go_loopw [4] (fun i' wr=>∃ k:Nat,k≤n∧i'=.int .i64 k∧FromRel w (.slice p n cap) wr) (fun i _=>n-(intOf i).toNat)
 case atStart=>exact ⟨0,by omega,rfl,hk0,(7129+(n:Int)),⟨_,TyAt.alloc _ _ _,by decide,by decide,by unfold NotSq;decide⟩,by simp,by simp,by simp,by simp,by simp⟩
 case round=>
  obtain ⟨k,hk,rfl,kw,h,ty,c0,c1,c2,f1,f2⟩:=hrel;have TY:=hid ty;clear ty;clear hk0
  by_cases hlt:k<n
  ·have hlt':(k:Int)<n:=by omega
   have hlt4:(k:Int)<4096:=by omega
   obtain ⟨b,off,x,rfl,hx,hx8,hbB⟩:∃ b off,∃ x:Nat,p=some ⟨b,off,none⟩∧wr.cell? ⟨b,off+k,none⟩=some (.int .u8 x)∧x<256∧b<w.heap.size:=by
    obtain ⟨p',cap',e,_,_,h3⟩:=HB.out.low kw
    cases e
    exact h3 k hlt
   go_wp2_with fail
   go_region
   go_wp2_with fail;go_roundw
   case rel=>exact ⟨k+1,by omega,by go_num,FromRel.step ⟨kw,h,TY.out,c0,c1,c2,f1,f2⟩ _⟩
   case measure=>simp [intOf];omega
  ·have hlt':¬(k:Int)<n:=by omega
   go_wp2_with fail;go_ret;exact ⟨_,rfl,Nat.le_refl _,⟨_,n,0,h,c0,c1,c2,f1,f2,TY.out,by omega,HB.out.low kw⟩,kw⟩
theorem OwnN.dr {w w':World} {B b:Nat} {v:Value} {a:List Nd} (h:OwnN w b v a) (k:Dr B w w') (hB:B<b):OwnN w' b v a:=h.touch k.1 (fun i hi e=>by have:=(h.len i hi).1;omega)
def DrawN (B n:Nat) (w:World) (e:Ending) (w':World):Prop:=∃ v,∃ t:Fm,e=.returned v∧OwnN w' w.heap.size v t.enc∧t.enc.length≤max n 1∧Dr B w w'
theorem OwnN.own_shape {w:World} {B:Nat} {v:Value} {a:List Nd} (h:OwnN w B v a):∃ p n c,v=.slice p n c:=by
 obtain ⟨p,c,e,_⟩:=At.of_own h;exact ⟨p,_,c,e⟩
theorem pre_tree (r:Nat) (t:Fm) (h:r<2):∃ u:Fm,(⟨5+r,0⟩:Nd)::t.enc=u.enc∧u.enc.length=t.enc.length+1:=by
 have:r=0∨r=1:=by omega
 rcases this with rfl | rfl
 ·exact ⟨.box t,rfl,by simp [Fm.enc]⟩
 ·exact ⟨.dia t,rfl,by simp [Fm.enc]⟩
theorem pair_tree (r:Nat) (t u:Fm) (h:r<3):∃ z:Fm,(⟨2+r,0⟩:Nd)::(t.enc++u.enc)=z.enc∧z.enc.length=t.enc.length+u.enc.length+1:=by
 have:r=0∨r=1∨r=2:=by omega
 rcases this with rfl | rfl | rfl
 ·exact ⟨.and t u,rfl,by simp [Fm.enc]⟩
 ·exact ⟨.or t u,rfl,by simp [Fm.enc]⟩
 ·exact ⟨.imp t u,rfl,by simp [Fm.enc]⟩
theorem l02Draw_any (B vr:Nat) (hvr:vr≤1000) (m:Bool):∀ n:Nat,n≤1000→∀ w,Src w B→Calls Tryz.prog 100 #[.pointer (some ⟨B,0,none⟩),.int .i64 n,.int .i64 vr,.bool m] w (DrawN B n w):=by
 intro n
 induction n using Nat.strongRecOn with
 | ind n ih=>
 intro hn w hs;have IH:=hid (fun k hk (hk2:k≤1000) w2 hs2=>ih k hk hk2 w2 hs2);clear ih
 by_cases h2:n≤2
 ·have h2':(n:Int)≤2:=by omega
  go_enter Tryz.func100,Tryz.ntmps100;go_wp2_with fail;refine (l01Next_any 8 B _ hs (by omega)).mono ?_;rintro e w1 ⟨r1,rfl,hr1,d1⟩;have D1:Dr B w w1:=d1
  by_cases hz1:r1=0
  ·subst hz1
   go_wp2_with fail;refine (l02False_any _).mono ?_;rintro e w9 ⟨v9,rfl,hv9,k9⟩;go_wp2_with fail;go_ret;exact ⟨_,.fls,rfl,hv9.mono D1.size,by simp [Fm.enc];omega,D1.keeps k9⟩
  ·have hz':((r1:Nat):Int)≠0:=by omega
   go_wp2_with fail;refine (l01Next_any (vr:Int) B _ D1.2 (by omega)).mono ?_;rintro e w8 ⟨r8,rfl,hr8,d8⟩;have D8:=D1.trans d8;go_wp2_with fail;refine (l02Var_any r8 _).mono ?_;rintro e w9 ⟨v9,rfl,hv9,k9⟩;go_wp2_with fail;go_ret;exact ⟨_,.var r8,rfl,hv9.mono D8.size,by simp [Fm.enc];omega,D8.keeps k9⟩
 ·have h2':¬(n:Int)≤2:=by omega
  have hn3:2<n:=by omega
  cases m with
  | false=>
   go_enter Tryz.func100,Tryz.ntmps100;go_wp2_with fail;refine (l01Next_any 9 B _ hs (by omega)).mono ?_;rintro e w1 ⟨r1,rfl,hr1,d1⟩
   by_cases hz1:r1=0
   ·subst hz1
    go_wp2_with fail;refine (l01Next_any 8 B _ d1.2 (by omega)).mono ?_;rintro e w2 ⟨r2,rfl,hr2,d2⟩;have D2:Dr B w w2:=(d1.trans d2)
    by_cases hz2:r2=0
    ·subst hz2
     go_wp2_with fail;refine (l02False_any _).mono ?_;rintro e w9 ⟨v9,rfl,hv9,k9⟩;go_wp2_with fail;go_ret;exact ⟨_,.fls,rfl,hv9.mono D2.size,by simp [Fm.enc];omega,D2.keeps k9⟩
    ·have hz':((r2:Nat):Int)≠0:=by omega
     go_wp2_with fail;refine (l01Next_any (vr:Int) B _ D2.2 (by omega)).mono ?_;rintro e w8 ⟨r8,rfl,hr8,d8⟩;have D8:=D2.trans d8;go_wp2_with fail;refine (l02Var_any r8 _).mono ?_;rintro e w9 ⟨v9,rfl,hv9,k9⟩;go_wp2_with fail;go_ret;exact ⟨_,.var r8,rfl,hv9.mono D8.size,by simp [Fm.enc];omega,D8.keeps k9⟩
   ·have hz1':((r1:Nat):Int)≠0:=by omega
    go_wp2_with fail;refine (l01Next_any 6 B _ d1.2 (by omega)).mono ?_;rintro e w3 ⟨r3,rfl,hr3,d3⟩;have D3:=d1.trans d3
    by_cases hz3:r3=0
    ·subst hz3
     have IH2:=hid (IH.out (n-2) (by omega) (by omega) w3 D3.2)
     have hc2:((n-2:Nat):Int)=(n:Int)-2:=by omega
     rw [hc2] at IH2;go_wp2_with fail;refine IH2.out.mono ?_;rintro e w4 ⟨v4,t4,rfl,hv4,hl4,d4⟩;have D4:=D3.trans d4;obtain ⟨p4,n4,q4,rfl⟩:=hv4.own_shape;have HNt:=hid (l02Not_any t4 _ w4 (hv4.nds (by omega)) (by omega));clear hv4;go_wp2_with fail;refine HNt.out.mono ?_;rintro e w5 ⟨v5,rfl,hv5,k5⟩;go_wp2_with fail;go_ret;exact ⟨_,Fm.not t4,rfl,hv5.mono D4.size,by simp [Fm.not,Fm.enc];omega,D4.keeps k5⟩
    ·have hz':((r3:Nat):Int)≠0:=by omega
     go_wp2_with fail;refine (l01Next_any ((n:Int)-2) B _ D3.2 (by omega)).mono ?_;rintro e w4 ⟨r4,rfl,hr4,d4⟩;have D4:=D3.trans d4
     have hr4':r4+2<n:=by omega
     have IH5:=hid (IH.out (1+r4) (by omega) (by omega) w4 D4.2)
     have hc5:((1+r4:Nat):Int)=1+(r4:Int):=by omega
     rw [hc5] at IH5;go_wp2_with fail;refine IH5.out.mono ?_;rintro e w5 ⟨v5,t5,rfl,hv5,hl5,d5⟩;have D5:=D4.trans d5;have hB5:B<w4.heap.size:=D4.2.lt;obtain ⟨p5,n5,q5,rfl⟩:=hv5.own_shape;go_wp2_with fail;refine (l01Next_any 3 B _ D5.2 (by omega)).mono ?_;rintro e w6 ⟨r6,rfl,hr6,d6⟩;have D6:=D5.trans d6;have hv6:=hv5.dr d6 hB5;have IH7:=hid (IH.out (n-1-(1+r4)) (by omega) (by omega) w6 D6.2)
     have hc7:((n-1-(1+r4):Nat):Int)=(n:Int)-1-(1+(r4:Int)):=by omega
     rw [hc7] at IH7;clear hv5;go_wp2_with fail;refine IH7.out.mono ?_;rintro e w7 ⟨v7,t7,rfl,hv7,hl7,d7⟩;have D7:=D6.trans d7;have hv8:=hv6.dr d7 hB5;obtain ⟨p7,n7,q7,rfl⟩:=hv7.own_shape;have HPr:=hid (l02Pair_any (2+(r6:Int)) _ _ _ _ w7 (hv8.nds (by omega)) (hv7.nds (by omega)) (by omega));obtain ⟨z,hz,hzl⟩:=pair_tree r6 t5 t7 (by omega);rw [hz] at HPr;clear hv6 hv7 hv8 hz;go_wp2_with fail;refine HPr.out.mono ?_;rintro e w8 ⟨v8,rfl,hv9,k9⟩;go_wp2_with fail;go_ret;exact ⟨_,z,rfl,hv9.mono D7.size,by omega,D7.keeps k9⟩
  | true=>
   go_enter Tryz.func100,Tryz.ntmps100;go_wp2_with fail;refine (l01Next_any 9 B _ hs (by omega)).mono ?_;rintro e w1 ⟨r1,rfl,hr1,d1⟩
   by_cases hz1:r1=0
   ·subst hz1
    go_wp2_with fail;refine (l01Next_any 8 B _ d1.2 (by omega)).mono ?_;rintro e w2 ⟨r2,rfl,hr2,d2⟩;have D2:Dr B w w2:=(d1.trans d2)
    by_cases hz2:r2=0
    ·subst hz2
     go_wp2_with fail;refine (l02False_any _).mono ?_;rintro e w9 ⟨v9,rfl,hv9,k9⟩;go_wp2_with fail;go_ret;exact ⟨_,.fls,rfl,hv9.mono D2.size,by simp [Fm.enc];omega,D2.keeps k9⟩
    ·have hz':((r2:Nat):Int)≠0:=by omega
     go_wp2_with fail;refine (l01Next_any (vr:Int) B _ D2.2 (by omega)).mono ?_;rintro e w8 ⟨r8,rfl,hr8,d8⟩;have D8:=D2.trans d8;go_wp2_with fail;refine (l02Var_any r8 _).mono ?_;rintro e w9 ⟨v9,rfl,hv9,k9⟩;go_wp2_with fail;go_ret;exact ⟨_,.var r8,rfl,hv9.mono D8.size,by simp [Fm.enc];omega,D8.keeps k9⟩
   ·have hz1':((r1:Nat):Int)≠0:=by omega
    go_wp2_with fail;refine (l01Next_any 3 B _ d1.2 (by omega)).mono ?_;rintro e w2 ⟨r2,rfl,hr2,d2⟩;have D2:=d1.trans d2
    by_cases hz2:r2=0
    ·subst hz2
     go_wp2_with fail;refine (l01Next_any 2 B _ D2.2 (by omega)).mono ?_;rintro e w3 ⟨r3,rfl,hr3,d3⟩;have D3:=D2.trans d3;have IH4:=hid (IH.out (n-1) (by omega) (by omega) w3 D3.2)
     have hc4:((n-1:Nat):Int)=(n:Int)-1:=by omega
     rw [hc4] at IH4;go_wp2_with fail;refine IH4.out.mono ?_;rintro e w4 ⟨v4,t4,rfl,hv4,hl4,d4⟩;have D4:=D3.trans d4;obtain ⟨p4,n4,q4,rfl⟩:=hv4.own_shape;have HPr:=hid (l02Pre_any (5+(r3:Int)) _ _ w4 (hv4.nds (by omega)) (by omega));obtain ⟨z,hz,hzl⟩:=pre_tree r3 t4 (by omega);rw [hz] at HPr;clear hv4 hz;go_wp2_with fail;refine HPr.out.mono ?_;rintro e w5 ⟨v5,rfl,hv5,k5⟩;go_wp2_with fail;go_ret;exact ⟨_,z,rfl,hv5.mono D4.size,by omega,D4.keeps k5⟩
    ·have hz2':((r2:Nat):Int)≠0:=by omega
     go_wp2_with fail;refine (l01Next_any 6 B _ D2.2 (by omega)).mono ?_;rintro e w3 ⟨r3,rfl,hr3,d3⟩;have D3:=D2.trans d3
     by_cases hz3:r3=0
     ·subst hz3
      have IH2:=hid (IH.out (n-2) (by omega) (by omega) w3 D3.2)
      have hc2:((n-2:Nat):Int)=(n:Int)-2:=by omega
      rw [hc2] at IH2;go_wp2_with fail;refine IH2.out.mono ?_;rintro e w4 ⟨v4,t4,rfl,hv4,hl4,d4⟩;have D4:=D3.trans d4;obtain ⟨p4,n4,q4,rfl⟩:=hv4.own_shape;have HNt:=hid (l02Not_any t4 _ w4 (hv4.nds (by omega)) (by omega));clear hv4;go_wp2_with fail;refine HNt.out.mono ?_;rintro e w5 ⟨v5,rfl,hv5,k5⟩;go_wp2_with fail;go_ret;exact ⟨_,Fm.not t4,rfl,hv5.mono D4.size,by simp [Fm.not,Fm.enc];omega,D4.keeps k5⟩
     ·have hz':((r3:Nat):Int)≠0:=by omega
      go_wp2_with fail;refine (l01Next_any ((n:Int)-2) B _ D3.2 (by omega)).mono ?_;rintro e w4 ⟨r4,rfl,hr4,d4⟩;have D4:=D3.trans d4
      have hr4':r4+2<n:=by omega
      have IH5:=hid (IH.out (1+r4) (by omega) (by omega) w4 D4.2)
      have hc5:((1+r4:Nat):Int)=1+(r4:Int):=by omega
      rw [hc5] at IH5;go_wp2_with fail;refine IH5.out.mono ?_;rintro e w5 ⟨v5,t5,rfl,hv5,hl5,d5⟩;have D5:=D4.trans d5;have hB5:B<w4.heap.size:=D4.2.lt;obtain ⟨p5,n5,q5,rfl⟩:=hv5.own_shape;go_wp2_with fail;refine (l01Next_any 3 B _ D5.2 (by omega)).mono ?_;rintro e w6 ⟨r6,rfl,hr6,d6⟩;have D6:=D5.trans d6;have hv6:=hv5.dr d6 hB5;have IH7:=hid (IH.out (n-1-(1+r4)) (by omega) (by omega) w6 D6.2)
      have hc7:((n-1-(1+r4):Nat):Int)=(n:Int)-1-(1+(r4:Int)):=by omega
      rw [hc7] at IH7;clear hv5;go_wp2_with fail;refine IH7.out.mono ?_;rintro e w7 ⟨v7,t7,rfl,hv7,hl7,d7⟩;have D7:=D6.trans d7;have hv8:=hv6.dr d7 hB5;obtain ⟨p7,n7,q7,rfl⟩:=hv7.own_shape;have HPr:=hid (l02Pair_any (2+(r6:Int)) _ _ _ _ w7 (hv8.nds (by omega)) (hv7.nds (by omega)) (by omega));obtain ⟨z,hz,hzl⟩:=pair_tree r6 t5 t7 (by omega);rw [hz] at HPr;clear hv6 hv7 hv8 hz;go_wp2_with fail;refine HPr.out.mono ?_;rintro e w8 ⟨v8,rfl,hv9,k9⟩;go_wp2_with fail;go_ret;exact ⟨_,z,rfl,hv9.mono D7.size,by omega,D7.keeps k9⟩
def LnRd (w:World) (f:Nat→Value) (x:Ln):Prop:=f 0=.int .i64 x.r∧f 1=.int .i64 x.f∧f 2=.int .i64 x.s∧Nds w (f 3) x.a
theorem LnRd.stays:Stays LnRd:=fun _ _ _ _ k h=>⟨h.1,h.2.1,h.2.2.1,h.2.2.2.keeps k⟩
def LnL (w:World) (v:Value) (xs:List Ln):Prop:=SlC 4 LnRd w v xs
theorem LnL.keeps {w w':World} {v:Value} {xs:List Ln} (h:LnL w v xs) (k:Keeps w w'):LnL w' v xs:=SlC.keeps LnRd.stays h k
theorem LnL.shape {w:World} {v:Value} {xs:List Ln} (h:LnL w v xs):∃ p cap,v=.slice p xs.length cap∧xs.length≤cap∧cap≤maxLen∧xs.length≤2147483648:=by
 obtain ⟨p,cap,hv,h1,h2,h3,_⟩:=h;exact ⟨p,cap,hv,h1,h2,h3⟩
theorem LnL.get {w:World} {p:Option Addr} {n cap:Nat} {xs:List Ln} (h:LnL w (.slice p n cap) xs) (i:Nat) (hi:i<xs.length):
  ∃ b off q m c,p=some ⟨b,off,none⟩∧(w.cell? ⟨b,off+i*4,none⟩=some (.int .i64 xs[i].r)∧w.cell? ⟨b,off+i*4+1,none⟩=some (.int .i64 xs[i].f)∧w.cell? ⟨b,off+i*4+2,none⟩=some (.int .i64 xs[i].s)∧w.cell? ⟨b,off+i*4+3,none⟩=some (.slice q m c))∧Nds w (.slice q m c) xs[i].a:=by
 obtain ⟨p',cap',hv,h1,h2,h3,h4⟩:=h
 cases hv
 obtain ⟨b,off,f,hp,hc,e0,e1,e2,hr⟩:=h4 i hi;obtain ⟨q,m,c,e3⟩:=hr.shape;have a0:=hc 0 (by omega);have a1:=hc 1 (by omega);have a2:=hc 2 (by omega);have a3:=hc 3 (by omega);rw [e0] at a0;rw [e1] at a1;rw [e2] at a2;rw [e3] at a3 hr;exact ⟨b,off,q,m,c,hp,⟨a0,a1,a2,a3⟩,hr⟩
theorem LnL.take {w:World} {p:Option Addr} {n cap:Nat} {xs:List Ln} (h:LnL w (.slice p n cap) xs) (k:Nat) (hk:k≤xs.length):LnL w (.slice p k cap) (xs.take k):=by
 obtain ⟨p',cap',hv,h1,h2,h3,h4⟩:=h
 cases hv
 refine ⟨p,cap,by simp [Nat.min_eq_left hk],by simp;omega,h2,by simp;omega,fun i hi=>?_⟩
 have hi':i<xs.length:=by simp at hi;omega
 obtain ⟨b,off,f,hp,hc,hr⟩:=h4 i hi';exact ⟨b,off,f,hp,hc,by simpa using hr⟩
def LnIn (w:World) (B:Nat) (cs:List Value) (i:Nat) (x:Ln):Prop:=∃ u,cs[i*4]? = some (.int .i64 x.r)∧cs[i*4+1]? = some (.int .i64 x.f)∧cs[i*4+2]? = some (.int .i64 x.s)∧cs[i*4+3]? = some u∧OwnN w B u x.a
def LnO (w:World) (B:Nat) (v:Value) (xs:List Ln):Prop:=∃ cs,w.ownsRow B 72 4 v xs.length cs∧∀ i (h:i<xs.length),LnIn w B cs i xs[i]
theorem LnO.sh {w:World} {B:Nat} {v:Value} {xs:List Ln} (h:LnO w B v xs):∃ p c,v=.slice p xs.length c∧xs.length≤c∧c≤maxLen:=by
 obtain ⟨cs,h1,_⟩:=h;obtain ⟨p,c,e,h2,h3,_⟩:=At.of_own h1;exact ⟨p,c,e,h2,h3⟩
theorem LnO.mono {w:World} {B B':Nat} {v:Value} {xs:List Ln} (h:LnO w B v xs) (k:B'≤B):LnO w B' v xs:=by
 obtain ⟨cs,h1,h2⟩:=h;refine ⟨cs,own_mono h1 k,fun i hi=>?_⟩;obtain ⟨u,a0,a1,a2,a3,b⟩:=h2 i hi;exact ⟨u,a0,a1,a2,a3,b.mono k⟩
theorem LnO.keeps {w w':World} {B:Nat} {v:Value} {xs:List Ln} (h:LnO w B v xs) (k:Keeps w w'):LnO w' B v xs:=by
 obtain ⟨cs,h1,h2⟩:=h;refine ⟨cs,own_keeps h1 k,fun i hi=>?_⟩;obtain ⟨u,a0,a1,a2,a3,b⟩:=h2 i hi;exact ⟨u,a0,a1,a2,a3,b.keeps k⟩
theorem LnO.touch {w w':World} {S:Nat→Prop} {B:Nat} {v:Value} {xs:List Ln} (h:LnO w B v xs) (k:Touch w w' S) (hS:∀ i,B≤i→¬S i):LnO w' B v xs:=by
 obtain ⟨cs,h1,h2⟩:=h;refine ⟨cs,own_touch h1 k (fun i hi=>hS i (h1.lt i hi).1),fun i hi=>?_⟩;obtain ⟨u,a0,a1,a2,a3,b⟩:=h2 i hi;exact ⟨u,a0,a1,a2,a3,b.touch k (fun j hj=>hS j (b.len j hj).1)⟩
theorem LnO.dr {w w':World} {B b:Nat} {v:Value} {xs:List Ln} (h:LnO w b v xs) (k:Dr B w w') (hB:B<b):LnO w' b v xs:=h.touch k.1 (fun i hi=>by omega)
theorem LnO.empty (w:World):LnO (w.alloc (.cells #[] 72)) w.heap.size (.slice (some ⟨w.heap.size,0,none⟩) 0 0) []:=
 ⟨[],World.ownsRow_made w #[] 0 (Nat.le_refl _) (by simp [maxLen]) (by simp),fun i h=>by simp at h⟩
theorem LnO.get {w:World} {B:Nat} {p:Option Addr} {n cap:Nat} {xs:List Ln} (h:LnO w B (.slice p n cap) xs) (i:Nat) (hi:i<xs.length):
  ∃ b q m c,p=some ⟨b,0,none⟩∧(B≤b∧b<w.heap.size)∧(w.cell? ⟨b,i*4,none⟩=some (.int .i64 xs[i].r)∧w.cell? ⟨b,i*4+1,none⟩=some (.int .i64 xs[i].f)∧w.cell? ⟨b,i*4+2,none⟩=some (.int .i64 xs[i].s)∧w.cell? ⟨b,i*4+3,none⟩=some (.slice q m c))∧OwnN w B (.slice q m c) xs[i].a:=by
 obtain ⟨cs,h1,h2⟩:=h;obtain ⟨u,a0,a1,a2,a3,hu⟩:=h2 i hi;obtain ⟨q,m,c,rfl⟩:=hu.own_shape;have h4:cs.length=xs.length*4:=h1.1
 rcases h1.2 with ⟨_,e⟩ | ⟨g,cap',cur,e,hb,hg,_⟩
 ·have:xs.length=0:=e
  omega
 ·cases e
  have hlt:g<w.heap.size:=(Array.getElem?_eq_some_iff.1 hg).1
  have hc:∀ (j:Nat) (x:Value),cs[j]? = some x→w.cell? ⟨g,j,none⟩=some x:=fun j x hj=>by
   have:=World.ownsRow.cells h1 (g:=g) rfl j _ hj
   have hadd:(⟨g,0,none⟩:Addr).add j=⟨g,0+j,none⟩:=by unfold Addr.add;split<;>simp_all
   rw [hadd,Nat.zero_add] at this;exact this
  exact ⟨g,q,m,c,rfl,⟨hb,hlt⟩,⟨hc _ _ a0,hc _ _ a1,hc _ _ a2,hc _ _ a3⟩,hu⟩
theorem LnO.lnl {w:World} {B:Nat} {v:Value} {xs:List Ln} (h:LnO w B v xs) (hl:xs.length≤2147483648) (hI:∀ x∈xs,x.a.length≤2147483648):LnL w v xs:=by
 obtain ⟨p,c,rfl,hc1,hc2⟩:=h.sh;refine ⟨p,c,rfl,hc1,hc2,hl,fun i hi=>?_⟩;obtain ⟨b,q,m,c',hp,-,⟨a0,a1,a2,a3⟩,hu⟩:=h.get i hi;refine ⟨b,0,fun c=>if c=0 then .int .i64 xs[i].r else if c=1 then .int .i64 xs[i].f else if c=2 then .int .i64 xs[i].s else .slice q m c',hp,fun c hc=>?_,rfl,rfl,rfl,hu.nds (hI _ (List.getElem_mem hi))⟩;rw [Nat.zero_add]
 have:c=0∨c=1∨c=2∨c=3:=by omega
 rcases this with rfl | rfl | rfl | rfl
 ·exact a0
 ·exact a1
 ·exact a2
 ·exact a3
theorem infoLn:(Tryz.prog.info? 72).map (fun i=>(i.zero,i.size,i.bytes))=some (some (.agg #[.int .i64 0,.int .i64 0,.int .i64 0,.slice none 0 0]),4,48):=by kernel_rfl
theorem tyneLn:(72:TypeId)≠74:=by decide
def LnTouch (b:Nat) (w w':World):Prop:=Touch w w' (fun i=>b≤i∧TyAt w i 72)
theorem appLnK {w:World} {o:Oper} {a:Act} {K:Act→World→Prop} {Q:Exit→Act→World→Prop} (s x:Operand)
  (ho:o.op=.call { callee:=.builtin .append,args:=#[s,x],argTypes:=#[25,25] }) (base:Nat) (v:Value) (xs:List Ln) (hs:a.eval s=v) (hown:LnO w base v xs)
  (p:Option Addr) (cc:Nat) (y:Ln) (u:Value) (hx:a.eval x=.slice p 1 cc) (hat:At w p [.int .i64 y.r,.int .i64 y.f,.int .i64 y.s,u]) (hu:OwnN w base u y.a) (hbase:base≤w.heap.size) (hlen:xs.length≤1000000)
  (h:∀ v' w',LnO w' base v' (xs++[y])→LnTouch base w w'→K (a.put o.dst v') w'):o.wp Tryz.prog a w K Q:=by
 obtain ⟨i0,hi,hz0,hz1,hz2⟩:=info_parts infoLn;obtain ⟨cs,hrow,he⟩:=hown;obtain ⟨p1,n1,c1,e1⟩:=hu.own_shape
 refine wp_append_at s x _ ho _ i0 _ 4 48 Tryz.underlying25 hi hz0 hz1 hz2 rfl (by decide) base v _ _ hs hrow p 1 cc [.int .i64 y.r,.int .i64 y.f,.int .i64 y.s,u] hx (by simp) hat (by
  intro z hz
  simp at hz
  rcases hz with rfl | rfl | rfl | rfl
  ·rfl
  ·rfl
  ·rfl
  ·rw [e1];rfl) (by unfold maxLen;omega) (by omega) hbase ?_
 intro v' w' g1 g2 g4;have T:=Touch.grown g2
 have hne:∀ i,some i=v.ownBlock→TyAt w i 72:=fun i e=>TyAt.ownB hrow e.symm
 have stay:∀ {u:Value} {l:List Nd},OwnN w base u l→OwnN w' base u l:=fun hu=>hu.touch T (fun i hi e=>type_ne hrow hu tyneLn e.symm hi)
 have h4:cs.length=xs.length*4:=hrow.1;refine h v' w' ⟨cs++[.int .i64 y.r,.int .i64 y.f,.int .i64 y.s,u],by rw [List.length_append];exact g1,fun i hi=>?_⟩ (T.mono (fun i e=>⟨g4 i e.symm,hne i e⟩))
 by_cases hi2:i<xs.length
 ·rw [List.getElem_append_left hi2]
  obtain ⟨q1,a0,a1,a2,a3,b1⟩:=he i hi2;refine ⟨q1,?_,?_,?_,?_,stay b1⟩
  all_goals rw [List.getElem?_append_left (by omega)]
  all_goals assumption
 ·have:i=xs.length:=by simp at hi;omega
  subst this;rw [List.getElem_append_right (Nat.le_refl _)];simp only [Nat.sub_self,List.getElem_cons_zero];refine ⟨u,?_,?_,?_,?_,stay hu⟩
  all_goals rw [List.getElem?_append_right (by omega),h4]
  ·rw [Nat.sub_self];rfl
  ·rw [Nat.add_sub_cancel_left];rfl
  ·rw [Nat.add_sub_cancel_left];rfl
  ·rw [Nat.add_sub_cancel_left];rfl
theorem appLn {w:World} {ops:Array Oper} {rest:List Oper} {o:Oper} {a:Act} {Q:Exit→Act→World→Prop} (hgd:o.guard=none) (s x:Operand)
  (ho:o.op=.call { callee:=.builtin .append,args:=#[s,x],argTypes:=#[25,25] }) (base:Nat) (v:Value) (xs:List Ln) (hs:a.eval s=v) (hown:LnO w base v xs)
  (p:Option Addr) (cc:Nat) (y:Ln) (u:Value) (hx:a.eval x=.slice p 1 cc) (hat:At w p [.int .i64 y.r,.int .i64 y.f,.int .i64 y.s,u]) (hu:OwnN w base u y.a) (hbase:base≤w.heap.size) (hlen:xs.length≤1000000)
  (h:∀ v' w',LnO w' base v' (xs++[y])→LnTouch base w w'→wpList Tryz.prog ops Q rest (a.put o.dst v') w'):wpList Tryz.prog ops Q (o::rest) a w:=
 wpList_plain hgd fun _ hK=>appLnK s x ho base v xs hs hown p cc y u hx hat hu hbase hlen fun v' w' a1 a2=>hK _ _ (h v' w' a1 a2)
theorem At.lit4 (w:World) (a b c d:Value) (E:TypeId):At (w.alloc (.cells #[a,b,c,d] E)) (some ⟨w.heap.size,0,none⟩) [a,b,c,d]:=by
 intro j hj
 match j,hj with
 | 0,_=>exact ⟨_,_,rfl,by simp⟩
 | 1,_=>exact ⟨_,_,rfl,by simp⟩
 | 2,_=>exact ⟨_,_,rfl,by simp⟩
 | 3,_=>exact ⟨_,_,rfl,by simp⟩
theorem plainL_enc (t:Fm):plainL t.enc=t.plain:=by
 unfold plainL
 induction t with
 | var v=>simp [Fm.enc,Fm.plain]
 | fls=>simp [Fm.enc,Fm.plain]
 | and a b iha ihb=>simp only [Fm.enc,Fm.plain,List.all_cons,List.all_append,iha,ihb];simp
 | or a b iha ihb=>simp only [Fm.enc,Fm.plain,List.all_cons,List.all_append,iha,ihb];simp
 | imp a b iha ihb=>simp only [Fm.enc,Fm.plain,List.all_cons,List.all_append,iha,ihb];simp
 | box a iha=>simp [Fm.enc,Fm.plain]
 | dia a iha=>simp [Fm.enc,Fm.plain]
theorem plainErrs_one (a:List Nd):plainErrs [a]=plainErr a:=by
 unfold plainErrs plainErr allFm allPlainL
 cases h1:isFm a<;>cases h2:plainL a<;>simp [h1,h2]
theorem plain_tree {a:List Nd} (h:plainErr a=0):∃ t:Fm,t.wf∧a=t.enc∧t.plain=true∧a.length≤40:=by
 unfold plainErr at h
 by_cases hf:isFm a=true
 ·by_cases hp:plainL a=true
  ·have hf':=hf
   simp only [isFm,Bool.and_eq_true,decide_eq_true_eq] at hf';obtain ⟨t,hw,rfl⟩:=isTree_enc hf'.2;exact ⟨t,hw,rfl,by rw [←plainL_enc];exact hp,hf'.1⟩
  ·rw [if_pos hf,if_neg hp] at h;simp at h
 ·rw [if_neg hf] at h;simp at h
end Go.Proofs.YtbccmdfdclomiaaGreatDoor
