import Derived.Test.YtagoboblkadelaaGreatZTM2
import Derived.Test.YtagoboblkadelaaGreatZTB
import Derived.Test.YtagoboblkadelaaGreatZGD
/- own -/
namespace Go.Proofs.YtagoboblkadelaaGreat
set_option maxRecDepth 100000
set_option maxHeartbeats 8000000
open Go.RowKit
def rr (x:StT):Prop:=x.pr.length≤4∧(∀ s∈x.l,s.size≤200)∧(∀ s∈x.r,s.size≤200)∧x.main.size≤200
theorem yF {xs:List StT} {y:StT} (h:∀ x∈xs,rr x) (hy:rr y):∀ x∈xs++[y],rr x:=fun x hx=>by
 rcases List.mem_append.1 hx with hx | hx
 ·exact h x hx
 ·rw[List.mem_singleton.1 hx];exact hy
theorem oN:(⟨#[112]⟩:ByteArray).size≤200:=qC
theorem bP {ss:List ByteArray} (h:aW ss):∀ s∈ss,s.size≤200:=fun s hs=>by
 obtain⟨t,ht⟩:=h.1 s hs;exact ht.small
def C7 (B b0:Nat) (X:Nat→Prop) (m:Nat) (w:World) (e:Ending) (w':World):Prop:=
 ∃ v' xs',e=.returned v'∧StO w' b0 X v' xs'∧0<xs'.length∧xs'.length<m∧(∀ x∈xs',rr x)∧aQ B b0 w w'∧Src w' B
structure GrJ (B b0:Nat) (X:Nat→Prop) (w w1:World) (v a b:Value) (xs:List StT) (ss tt:List ByteArray):Prop where
 t:aQ B b0 w w1
 src:Src w1 B
 bx:aR w1 w.heap.size 29 [a,b]
 st:StO w1 b0 X v xs
 sa:aj w1 a ss
 sb:aj w1 b tt
theorem GrJ.keeps {B b0:Nat} {X:Nat→Prop} {w w1 w2:World} {v a b:Value} {xs:List StT} {ss tt:List ByteArray} (h:GrJ B b0 X w w1 v a b xs ss tt) (k:aa w1 w2):GrJ B b0 X w w2 v a b xs ss tt:=
 ⟨h.t.keeps k,h.src.keeps k,h.bx.keeps k,h.st.keeps k,h.sa.keeps k,h.sb.keeps k⟩
theorem GrJ.dr {B b0:Nat} {X:Nat→Prop} {w w1 w2:World} {v a b:Value} {xs:List StT} {ss tt:List ByteArray} (h:GrJ B b0 X w w1 v a b xs ss tt) (k:Dr B w1 w2) (hB:B<b0) (hw:w.heap.size≠B):GrJ B b0 X w w2 v a b xs ss tt:=
 ⟨h.t.trans (.of_dr k),k.2,h.bx.drN k hw,h.st.dr k h.src hB,h.sa.drT k h.src,h.sb.drT k h.src⟩
theorem GrJ.st2 {B b0:Nat} {X Y:Nat→Prop} {w w1 w2:World} {v v' a b:Value} {xs xs':List StT} {ss tt:List ByteArray} (h:GrJ B b0 X w w1 v a b xs ss tt) (k:aQ B b0 w1 w2) (hs:Src w2 B) (hw:w.heap.size≠B) (h2:StO w2 b0 Y v' xs'):GrJ B b0 Y w w2 v' a b xs' ss tt:=
 ⟨h.t.trans k,hs,h.bx.st k hw qC,h2,h.sa.st k h.src,h.sb.st k h.src⟩
theorem GrJ.cells {B b0:Nat} {X:Nat→Prop} {w w1:World} {v a b:Value} {xs:List StT} {ss tt:List ByteArray} (h:GrJ B b0 X w w1 v a b xs ss tt):w1.cell? ⟨w.heap.size,0,none⟩=some a∧w1.cell? ⟨w.heap.size,1,none⟩=some b:=
 ⟨h.bx.cell 0 qD,h.bx.cell 1 qD⟩
theorem GrJ.fin {B b0:Nat} {X:Nat→Prop} {w wr W W':World} {v v' a b:Value} {xs:List StT} {ss tt:List ByteArray} {y:StT} {m:Nat} (h:GrJ B b0 X w wr v a b xs ss tt) (k:aa wr W) (hB:B<b0) (h9:StO W' b0 X v' (xs++[y])) (t:∀ A,aQ A b0 W W') (eE:∀ x∈xs,rr x) (hy:rr y) (hm:xs.length+1<m):C7 B b0 X m w (.returned v') W':=
 ⟨v',_,rfl,h9,qD,by simpa using hm,yF eE hy,(h.keeps k).t.trans (t B),(h.keeps k).src.stp t hB⟩
def GrL (B b0 g:Nat) (X:Nat→Prop) (w5:World) (n P m:Nat) (k' v' pv':Value) (wr:World):Prop:=
 ∃ (k:Nat) (xs':List StT) (a:List Int),k≤n∧k'=.int .i64 k∧StO wr b0 (fun j=>X j∨pv'.ownBlock=some j) v' xs'∧xs'.length+k≤m+k*P∧(∀ x∈xs',rr x)∧aI wr g pv' a∧a.length=k∧aQ B b0 w5 wr∧Src wr B
open scoped Classical in
theorem yk (B b0 : Nat) (hB:B<b0) (lg:ByteArray) (d:Nat):∀ (X:Nat→Prop) (xs:List StT) (v:Value) (ss tt:List ByteArray) (a b:Value) (w:World),d≤7→Src w B→b0≤w.heap.size→(∀ k,X k→k<w.heap.size)→StO w b0 X v xs→(∀ x∈xs,rr x)→aj w a ss→aj w b tt→aW ss→aW tt→(ss.length+2)*2^d≤768→(tt.length+2)*2^d≤768→xs.length+2*2^d≤1000→
  Calls Tryz.prog 52 #[.pointer (some ⟨B,0,none⟩),.string lg,v,.agg #[a,b],.int .i64 d] w (C7 B b0 X (xs.length+2*2^d) w):=by
 induction d using Nat.strongRecOn with
 | _ d ih=>
 intro X xs v ss tt a b w hd hs Mo hX hx Mw ha hb hS hT Mt Mu MD;have hP:0<2^d:=Nat.two_pow_pos d
 have Mh:∀ d',d=d'+1→2^d=2*2^d'∧∀ (X:Nat→Prop) (xs:List StT) (v:Value) (ss tt:List ByteArray) (a b:Value) (w:World),Src w B→b0≤w.heap.size→(∀ k,X k→k<w.heap.size)→StO w b0 X v xs→(∀ x∈xs,rr x)→aj w a ss→aj w b tt→aW ss→aW tt→(ss.length+2)*2^d'≤768→(tt.length+2)*2^d'≤768→xs.length+2*2^d'≤1000→
   Calls Tryz.prog 52 #[.pointer (some ⟨B,0,none⟩),.string lg,v,.agg #[a,b],.int .i64 ((d':Nat):Int)] w (C7 B b0 X (xs.length+2*2^d') w):=fun d' e=>by
  subst e;exact⟨by rw[Nat.pow_succ];omega,fun X xs v ss tt a b w=>ih d' qB X xs v ss tt a b w qB⟩
 have Ma:=hid Mh;clear ih Mh;generalize 2^d=P at*
 have Nh:ss.length≤766:=by have:(ss.length+2)*1≤(ss.length+2)*P:=Nat.mul_le_mul_left _ hP;omega
 have Ni:tt.length≤766:=by have:(tt.length+2)*1≤(tt.length+2)*P:=Nat.mul_le_mul_left _ hP;omega
 obtain⟨p,n,c,rfl⟩:=ha.sh;obtain⟨pc,cc,ec,Na,MV,_⟩:=ha.1.shape
 cases ec
 obtain⟨q,cq,rfl,MQ,L1,_⟩:=hb.1.shape;obtain⟨px,cx,rfl,MZ,L8⟩:=hx.sh;unfold maxLen at MV L1 L8;have kA:=(aa.refl w).alloc (.cells #[.slice p ss.length c,.slice q tt.length cq] 29)
 have hJ:GrJ B b0 X w (w.alloc (.cells #[.slice p ss.length c,.slice q tt.length cq] 29)) (.slice px xs.length cx) (.slice p ss.length c) (.slice q tt.length cq) xs ss tt:=
  ⟨.of_keeps kA,hs.keeps kA,aR.made w _ _ qD qD,hx.keeps kA,ha.keeps kA,hb.keeps kA⟩
 have HJ:=hid hJ;have HS:=hid hS;have HT:=hid hT;have MG:=hid Mt;have MH:=hid Mu;have LR:=hid MD;have Li:=hid Mw;have Lb:=hid hX;have HP:=hid hP;have Nk:B<w.heap.size:=hs.lt;have KP:=hid Mo;have KR:=hid hB;have LP:Hid (w.heap.size<(w.alloc (.cells #[.slice p ss.length c,.slice q tt.length cq] 29)).heap.size):=hid qD;have Np:xs.length≤1000:=qB;clear hs hx ha hb hS hT Mt Mu MD Mw hX hP hJ kA Mo;go_enter Tryz.func52,Tryz.ntmps52
 go_upto_region 1 with fail
 generalize w.alloc (.cells #[.slice p ss.length c,.slice q tt.length cq] 29)=w1 at*;go_wp2_with fail
 go_loopw [11] (fun i' wr=>∃ k:Nat,k≤ss.length∧i'=.int .i64 k∧aa w1 wr) (fun i' _=>ss.length-(intOf i').toNat)
 case atStart=>exact⟨0,qB,rfl,aa.refl _⟩
 case round =>
  obtain⟨k,hk,rfl,kr⟩:=hrel;obtain⟨z0,z1⟩:=(HJ.out.keeps kr).cells
  by_cases H9:k<ss.length
  ·have x8:(k:Int)<ss.length:=qB
   obtain⟨bb,off,e,hc⟩:=(HJ.out.keeps kr).sa.1.get k H9
   cases e
   go_wp2_with fail;have h9:=hid (fun wz (kz:aa w1 wz)=>fP tt ss[k] (.slice q tt.length cq) wz (HJ.out.keeps kz).sb.1);have Ld:=kr.trans (aa.refl wr).drew;have LK:Hid (decide (ss[k]∈tt)=true→True):=hid (fun _=>trivial);have LM:Hid (ss[k].size≤200):=hid (bP HS.out _ (zo H9));generalize decide (ss[k]∈tt)=b1 at*;generalize ss[k]=x at*;have LC:=hid kr;clear kr LK
   go_still_tail 7,qA
   change wpList _ _ _ _ _ wr.drew;go_wp2_with fail;refine(h9.out _ Ld).mono ?_;rintro e w2 ⟨rfl,rfl⟩;clear h9
   cases b1
   ·go_wp2_with fail
    go_roundw
    case rel=>exact⟨k+1,qB,by go_num,Ld⟩
    case measure=>simp[intOf];omega
   ·have x7:=LC.out
    have L5:w.heap.size<wr.heap.size:=zv LP.out x7.size;have M5:bb<wr.heap.size:=World.block_lt_of_cell? _ _ hc;have H8:=hid (fun W (k:aa wr W)=>(HJ.out.keeps (x7.trans k)).st);have x9:=hid (fun W (k:aa wr W)=>(HJ.out.keeps (x7.trans k)).sa);have H7:=hid (fun W (k:aa wr W)=>(HJ.out.keeps (x7.trans k)).sb);go_wp2_with fail;have HC:=hid (fun W (kW:aa wr W)=>(show W.cell? ⟨w.heap.size,0,none⟩=some (.slice (some ⟨bb,off,none⟩) ss.length c)∧W.cell? ⟨w.heap.size,1,none⟩=some (.slice q tt.length cq)∧W.cell? ⟨bb,off+k,none⟩=some (.string x) from⟨kW.cell z0,kW.cell z1,kW.cell hc⟩));have ME:=hid (fun W W2 (kW:aa wr W) (t:aQ B b0 W W2)=>(show W2.cell? ⟨w.heap.size,0,none⟩=some (.slice (some ⟨bb,off,none⟩) ss.length c)∧W2.cell? ⟨w.heap.size,1,none⟩=some (.slice q tt.length cq)∧W2.cell? ⟨bb,off+k,none⟩=some (.string x) from⟨((HJ.out.keeps (x7.trans kW)).bx.st t qB qC).cell 0 qD,((HJ.out.keeps (x7.trans kW)).bx.st t qB qC).cell 1 qD,aj.cellSt (HJ.out.keeps (x7.trans kW)).sa t (HJ.out.keeps (x7.trans kW)).src (kW.cell hc) H9⟩))
    go_region_held3 (fun W=>W.cell? ⟨w.heap.size,0,none⟩=some (.slice (some ⟨bb,off,none⟩) ss.length c)∧W.cell? ⟨w.heap.size,1,none⟩=some (.slice q tt.length cq)∧W.cell? ⟨bb,off+k,none⟩=some (.string x)) (first | (refine HC.out _ ?_;(with_reducible (repeat (first | exact aa.refl _ | refine aa.alloc ?_ _ | refine aa.drew ?_)));done) | (refine ME.out _ _ ?_ (ht' B);(with_reducible (repeat (first | exact aa.refl _ | refine aa.alloc ?_ _ | refine aa.drew ?_)));done)) (first | (refine E1 rfl (.tmp 36) (.tmp 48) rfl b0 X _ xs rfl (by exact H8.out _ (by with_reducible (repeat (first | exact aa.refl _ | refine aa.alloc ?_ _ | refine aa.drew ?_)))) _ 1 ⟨1,[],ss,tt,x⟩ (.slice (some ⟨wr.heap.size,0,none⟩) 0 0) (.slice (some ⟨bb,off,none⟩) ss.length c) (.slice q tt.length cq) rfl (by exact(At.lit5s wr _ _ _ _ _ _ _ _ rfl).keeps (by with_reducible (repeat (first | exact aa.refl _ | refine aa.alloc ?_ _ | refine aa.drew ?_)))) (by exact((aI.empty wr).keeps (by with_reducible (repeat (first | exact aa.refl _ | refine aa.alloc ?_ _ | refine aa.drew ?_)))).mono (Nat.zero_le _)) (by exact x9.out _ (by with_reducible (repeat (first | exact aa.refl _ | refine aa.alloc ?_ _ | refine aa.drew ?_)))) (by exact H7.out _ (by with_reducible (repeat (first | exact aa.refl _ | refine aa.alloc ?_ _ | refine aa.drew ?_)))) (fun j e hx=>by have:=Lb.out j hx;simp[Value.ownBlock] at e;omega) (by simp;have:=KP.out;omega) qB ?_;intro v' w' hv' ht';have hG:=(HJ.out.keeps x7).fin (m:=xs.length+2*P) (by with_reducible (repeat (first | exact aa.refl _ | refine aa.alloc ?_ _ | refine aa.drew ?_))) KR.out hv' ht' Li.out ⟨qD,bP HS.out,bP HT.out,LM.out⟩ (by have:=HP.out;omega)))
    go_wp2_with fail;go_ret;exact hG
  ·have LG : k = ss.length:=qB
   have x8:¬(k:Int)<ss.length:=qB;have Lm:=HJ.out.keeps kr;have L5:w.heap.size<wr.heap.size:=zv LP.out kr.size;clear HJ LP;generalize wr=wo at*;have HJ:=hid Lm;have h9:=hid (fP ss ⟨#[70]⟩ _ wo Lm.sa.1);have LQ:=hid (ju ss tt _ _ wo Lm.sa.1 Lm.sb.1 HS.out.2 qB);clear Lm kr hk LG;generalize decide ((⟨#[70]⟩:ByteArray)∈ss)=b1 at*;go_wp2_with fail;refine h9.out.mono ?_;rintro e w2 ⟨rfl,rfl⟩;clear h9
   cases b1
   rotate_left
   ·have H8:=hid (fun W (k:aa wo W)=>(HJ.out.keeps k).st)
    have x9:=hid (fun W (k:aa wo W)=>(HJ.out.keeps k).sa);have H7:=hid (fun W (k:aa wo W)=>(HJ.out.keeps k).sb);clear LQ
    go_wp2_with (at_builtin;refine Di rfl (.tmp 53) (.tmp 60) rfl b0 X _ xs rfl (by exact H8.out _ (by with_reducible (repeat (first | exact aa.refl _ | refine aa.alloc ?_ _ | refine aa.drew ?_)))) _ 1 ⟨2,[],ss,tt,⟨#[]⟩⟩ (.slice (some ⟨wo.heap.size,0,none⟩) 0 0) (.slice p ss.length c) (.slice q tt.length cq) rfl (by exact At.lit5s wo _ _ _ _ _ _ _ _ rfl) (by exact((aI.empty wo).keeps (by with_reducible (repeat (first | exact aa.refl _ | refine aa.alloc ?_ _ | refine aa.drew ?_)))).mono (Nat.zero_le _)) (by exact x9.out _ (by with_reducible (repeat (first | exact aa.refl _ | refine aa.alloc ?_ _ | refine aa.drew ?_)))) (by exact H7.out _ (by with_reducible (repeat (first | exact aa.refl _ | refine aa.alloc ?_ _ | refine aa.drew ?_)))) (fun j e hx=>by have:=Lb.out j hx;simp[Value.ownBlock] at e;omega) (by simp;have:=KP.out;omega) qB ?_;intro v' w' hv' ht';have hG:=HJ.out.fin (m:=xs.length+2*P) (by with_reducible (repeat (first | exact aa.refl _ | refine aa.alloc ?_ _ | refine aa.drew ?_))) KR.out hv' ht' Li.out ⟨qD,bP HS.out,bP HT.out,Nat.zero_le 200⟩ (by have:=HP.out;omega))
    go_ret;exact hG
   ·go_wp2_with fail
    refine LQ.out.mono ?_;rintro e w3 ⟨bm,nm,cm,rfl,Mx,k3⟩
    have Mm:∀ s∈bU ss tt,s∈ss∨s∈tt:=fun s hs=>jF.1 hs
    have M4:(bU ss tt).length≤2000:=by have:=jd ss tt;omega
    have LV:=Mx.strsP qB;obtain⟨pm,cm',em,MU,L0,_⟩:=LV.1.shape
    cases em
    unfold maxLen at L0;have Mi:=HJ.out.keeps k3;have Lx:w.heap.size<w3.heap.size:=zv L5 k3.size;have Lh:=hid LV;clear LQ HJ Mx k3 LV L5;have Md:Hid (∀ s∈bU ss tt,s.size≤200):=hid (fun s hs=>(Mm s hs).elim (bP HS.out s) (bP HT.out s));clear Mm;generalize bU ss tt=M at*;have Lf:=hid Mi;clear Mi z0 z1
    go_upto_if 69 with fail
    go_cut [13] (fun v wx=>∃ r:Nat,v=.int .i64 r∧(r<M.length∨r=0)∧Dr B w3 wx)
    case first=>
     by_cases h0:M.length=0
     ·have h0':¬((M.length:Nat):Int)>0:=qB
      clear h0;go_wp2_with fail
      go_meet
      exact⟨0,rfl,.inr rfl,Dr.of Lf.out.src (aa.refl _)⟩
     ·have h0':((M.length:Nat):Int)>0:=qB
      have HN:=hid (aE ((M.length:Nat):Int) B w3 Lf.out.src qB);go_wp2_with fail;refine HN.out.mono ?_;rintro e w4 ⟨r,rfl,hr,d4⟩;go_wp2_with fail
      go_meet
      exact⟨r,rfl,qB,d4⟩
    case rest =>
     obtain⟨r,rfl,hr,D⟩:=hcut;generalize wc=wk at*;have LU:w.heap.size≠B:=qB;have Mj:=Lf.out.dr D KR.out LU;have Ml:=Lh.out.drT D Lf.out.src;have Ly:w.heap.size<wk.heap.size:=zv Lx D.size;clear Lf Lh D Lx;have HJ:=hid Mj;have Mc:=hid Ml;clear Mj Ml;go_wp2_with fail
     go_loopw [14,2] (fun i' v' wr=>∃ i:Nat,i≤M.length∧i'=.int .i64 i∧v'=.slice px xs.length cx∧aa wk wr) (fun i' _ _=>M.length-(intOf i').toNat)
     case atStart=>exact⟨0,qB,rfl,rfl,aa.refl _⟩
     case round =>
      obtain⟨i,hi,rfl,rfl,kr⟩:=hrel
      by_cases H9:i<M.length∧0<d
      ·obtain⟨H9,M7⟩:=H9
       have x8:(i:Int)<M.length:=qB;have LW:(d:Int)>0:=qB
       obtain⟨j,hj,Mq⟩:∃ j:Nat,((i:Int)+(r:Int)).tmod (M.length:Int)=(j:Int)∧j<M.length:=⟨((i:Int)+(r:Int)).toNat%M.length,by
        rw[Int.tmod_eq_emod_of_nonneg qB];have:((i:Int)+(r:Int))=((((i:Int)+(r:Int)).toNat:Nat):Int):=qB;rw[this,Int.toNat_natCast]
        rfl,Nat.mod_lt _ qB⟩
       have Nl:IntKind.i64.wrap ((i:Int)+(r:Int))=(i:Int)+(r:Int):=by simp[IntKind.wrap,IntKind.bits,IntKind.signed];omega
       have M8:(0:Int)≤(j:Int):=qB;have MO:(j:Int)<M.length:=qB;have M3:¬((M.length:Nat):Int)=0:=qB;obtain⟨bm,om,em,M6⟩:=(Mc.out.keeps kr).1.get j Mq
       cases em
       have Me:Hid (M[j].size≤200):=hid (Md.out _ (zo Mq));generalize M[j]=main at*;have x6:=HJ.out.keeps kr;have KS:=hid x6;have Lz:w.heap.size<wr.heap.size:=zv Ly kr.size;have LC:=hid kr;clear kr x6
       go_upto_region 15 with fail
       generalize wr=wo at*;go_wp2_with fail
       go_loopw [16,2] (fun ru' v' wr=>∃ ru:Nat,3≤ru∧ru≤12∧ru'=.int .i64 ru∧v'=.slice px xs.length cx∧aa wo wr) (fun ru' _ _=>12-(intOf ru').toNat)
       case atStart=>exact⟨3,qB,qB,rfl,rfl,aa.refl _⟩
       case round=>
        obtain⟨ru,h3,M0,rfl,rfl,kr⟩:=hrel
        by_cases Ng:ru≤11
        ·have L3 : (ru:Int)≤11:=qB
         have Ln:=KS.out.keeps kr;obtain⟨z0,z1⟩:=Ln.cells;have Mf:=hid (jM lg (ru:Int) main ss tt HS.out HT.out _ _ wr Ln.sa Ln.sb ⟨qB,qB⟩ (by have:=Me.out;omega));have Mg:Hid (∀ ps,bM (lgN lg) (ru:Int).toNat ss tt main=some ps→ps.length≤2∧∀ p∈ps,aW p.1∧aW p.2∧p.1.length≤2*ss.length+2∧p.2.length≤2*tt.length+2):=hid (fun ps e=>⟨(yI e).1,fun p hp=>⟨(uE HS.out HT.out e p hp).1,(uE HS.out HT.out e p hp).2,(yI e).2 p hp⟩⟩);generalize bM (lgN lg) (ru:Int).toNat ss tt main=o at*;have Mb:=hid Ln;have LJ:=hid kr;clear Ln kr;go_wp2_with fail;refine Mf.out.mono ?_;rintro e w4 ⟨vd,ok,rfl,⟨pd,nd,cd,rfl⟩,-,La,k4⟩;clear Mf
         cases ok
         ·clear La z0 z1
          have Lo:=LJ.out.trans k4
          have Ld:=fun n=>Lo.trans ((aa.refl w4).drewN n)
          go_wp2_with fail
          go_quiet (fail)
          go_wp2_with fail;go_roundw
          case rel=>exact⟨ru+1,qB,qB,by go_num,rfl,Ld _⟩
          case measure=>simp[intOf];omega
         ·obtain⟨ps,My,L4⟩:=La rfl
          obtain⟨Nc,Lr⟩:=Mg.out ps My;obtain⟨pd',cd',ed,MS,L2,_⟩:=L4.shape
          cases ed
          unfold maxLen at L2;have MI:=hid Lr;have LN:=hid L4;have Lg:=hid (Mb.out.keeps k4);have LI:=hid (LJ.out.trans k4);have L6:w.heap.size<w4.heap.size:=zv Lz (LI.out).size;clear La Mg My Lr L4 Mb LJ k4 z0 z1;generalize Mz:ps.length=nn at*;have LL:=hid Mz;clear Mz
          go_upto_region 19 with fail
          go_cut [118] (fun v wx=>∃ b2:Bool,v=.bool b2∧aa w4 wx)
          case first=>
           obtain⟨z0,z1⟩:=Lg.out.cells
           by_cases h1:nn=1
           ·subst h1
            obtain⟨bd,od,p1,n1,c1,p2,n2,c2,ep,y0,y1,Ls,Lt⟩:=LN.out.get 0 (by rw[LL.out];omega)
            cases ep
            rw[Nat.zero_mul,Nat.add_zero] at y0 y1;have LM:=hid (fun W (k:aa w4 W)=>pO _ _ ss tt _ _ _ _ W (Ls.keeps k).1 (Lt.keeps k).1 (Lg.out.keeps k).sa.1 (Lg.out.keeps k).sb.1);clear Ls Lt;have HC:=hid (fun W (kW:aa w4 W)=>(show W.cell? ⟨w.heap.size,0,none⟩=some (.slice p ss.length c)∧W.cell? ⟨w.heap.size,1,none⟩=some (.slice q tt.length cq)∧W.cell? ⟨bd,od,none⟩=some (.slice p1 n1 c1)∧W.cell? ⟨bd,od+1,none⟩=some (.slice p2 n2 c2) from⟨kW.cell z0,kW.cell z1,kW.cell y0,kW.cell y1⟩))
            go_region_held3 (fun W=>W.cell? ⟨w.heap.size,0,none⟩=some (.slice p ss.length c)∧W.cell? ⟨w.heap.size,1,none⟩=some (.slice q tt.length cq)∧W.cell? ⟨bd,od,none⟩=some (.slice p1 n1 c1)∧W.cell? ⟨bd,od+1,none⟩=some (.slice p2 n2 c2)) (first | (refine HC.out _ ?_;(with_reducible (repeat (first | exact aa.refl _ | exact k7 | refine aa.alloc ?_ _ | refine aa.drew ?_)));done)) (first | (go_at_call 101;refine(LM.out _ (by with_reducible (repeat (first | exact aa.refl _ | refine aa.alloc ?_ _ | refine aa.drew ?_)))).mono ?_;rintro e w7 ⟨rfl,k7'⟩;have k7:aa w4 w7:=(aa.refl w4).drew.trans k7'))
            go_wp2_with fail
            go_meet
            exact⟨_,rfl,k7⟩
           ·have h1':(((nn:Nat):Int)==1)=false:=by simp;omega
            have Ld:=fun n=>(aa.refl w4).drewN n
            clear h1
            go_quiet (fail)
            go_wp2_with fail
            go_meet
            exact⟨_,rfl,Ld _⟩
          case rest=>
           obtain⟨b2,rfl,k7⟩:=hcut
           cases b2
           ·obtain⟨d',LX⟩:∃ d',d=d'+1:=⟨d-1,qB⟩
            obtain⟨Mn,Mp⟩:=Ma.out d' LX;have MF:=hid LX;have LD:=hid Mn;clear Mn;have HI:=hid Mp;have LF:=Lg.out.keeps k7;have LO:=hid (LN.out.keeps k7);have MX:w.heap.size<wc.heap.size:=zv L6 k7.size;generalize wc=w5 at*;have kE:=(aa.refl w5).alloc (.cells #[] 2);have hE:=aI.empty w5;have LH:=hid LF
            have Lu:StO (w5.alloc (.cells #[] 2)) b0 (fun j=>X j∨(Value.slice (some ⟨w5.heap.size,0,none⟩) 0 0).ownBlock=some j) (.slice px xs.length cx) xs:=(LF.st.off (fun i hi e=>by
             rcases e with e | e
             ·exact e
             ·simp[Value.ownBlock] at e;omega)).keeps kE
            have L9:Hid (GrL B b0 w5.heap.size X w5 nn P xs.length (.int .i64 0) (.slice px xs.length cx) (.slice (some ⟨w5.heap.size,0,none⟩) 0 0) (w5.alloc (.cells #[] 2))):=hid ⟨0,xs,[],qB,rfl,Lu,qB,Li.out,hE,rfl,.of_keeps kE,LF.src.keeps kE⟩;clear Mp LF Lu hE kE k7 LN Lg LI LC KS Mc Md Ma LX;go_wp2_with fail
            go_loopw [20,2,19] (fun k' v' pv' wr=>GrL B b0 w5.heap.size X w5 nn P xs.length k' v' pv' wr) (fun k' _ _ _=>nn-(intOf k').toNat)
            case atStart=>exact L9.out
            case round=>
             obtain⟨k2,xs2,ints,M9,rfl,eE,KY,KZ,Le,MN,t2,src2⟩:=hrel;clear L9;obtain⟨pv,cv,rfl,MY,L7⟩:=eE.sh;obtain⟨pp,np,cp,rfl⟩:=Le.sh0;unfold maxLen at L7;have MC:w5.heap.size≤wr.heap.size:=t2.size;have Mk:=LH.out.st2 t2 src2 LU eE;have KV:=LO.out.st t2 LH.out.src
             by_cases LG:k2<nn
             ·have LZ:(k2:Int)<nn:=qB
              have Mr:k2=0∨k2=1:=qB
              have No:xs2.length≤xs.length+P:=by rcases Mr with e | e<;>rw[e] at KY<;>omega
              obtain⟨bd,od,p1,n1,c1,p2,n2,c2,ep,y0,y1,Ls,Lt⟩:=KV.get k2 (by rw[LL.out];exact LG)
              cases ep
              have MP:k2<ps.length:=by rw[LL.out];exact LG
              obtain⟨g1,g2,g3,g4⟩:=MI.out _ (zo MP);generalize ps[k2]=px2 at*
              have l1:(px2.1.length+2)*2^d'≤768:=by
               have e1:=MG.out;have e2:(px2.1.length+2)*2^d'≤(2*ss.length+4)*2^d':=Nat.mul_le_mul_right _ qB
               have e3:(2*ss.length+4)*2^d'=(ss.length+2)*P:=by rw[LD.out,←Nat.mul_assoc,show(2*ss.length+4)=(ss.length+2)*2 by omega]
               omega
              have l2:(px2.2.length+2)*2^d'≤768:=by
               have e1:=MH.out;have e2:(px2.2.length+2)*2^d'≤(2*tt.length+4)*2^d':=Nat.mul_le_mul_right _ qB
               have e3:(2*tt.length+4)*2^d'=(tt.length+2)*P:=by rw[LD.out,←Nat.mul_assoc,show(2*tt.length+4)=(tt.length+2)*2 by omega]
               omega
              have KU:=HI.out (fun j=>X j∨(Value.slice pp np cp).ownBlock=some j) xs2 _ px2.1 px2.2 _ _ wr src2 (by have:=KP.out;omega) (fun k hk=>by
               rcases hk with hk | hk
               ·have:=Lb.out k hk;omega
               ·exact(Le.len k hk).2) eE KZ Ls Lt g1 g2 l1 l2 (by have:=LR.out;have:=LD.out;omega)
              rw[←LD.out,show((d':Nat):Int)=(d:Int)-1 by have:=MF.out;omega] at KU;have Lk:=hid KU;have Lj:=hid Le;have MJ:=hid t2;clear KU Ls Lt g1 g2 g3 g4 l1 l2 Mk KV eE KZ Le t2 Mr;go_wp2_with fail;refine Lk.out.mono ?_;rintro e w7 ⟨v7,xs7,rfl,K0,MA,Mv,Lp,t7,src7⟩;obtain⟨p7,q7,rfl,MK,LS⟩:=K0.sh;unfold maxLen at LS;have Lq:=Lj.out.st t7 src2
              have M1:xs7.length≤2000:=by have:=LR.out;omega
              have Nj:IntKind.i64.wrap ((xs7.length:Int)-1)=(xs7.length:Int)-1:=by simp[IntKind.wrap,IntKind.bits,IntKind.signed];omega
              have Ll:=hid K0;have MB:=t7.size;have MW:w5.heap.size≤w7.heap.size:=qB;have KT:=hid Lq;clear Lk Lj K0 Lq
              go_wp2_with (at_builtin;refine Ju rfl (.tmp 136) (.tmp 140) rfl w5.heap.size _ ints rfl (by exact KT.out.keeps (by with_reducible (repeat (first | exact aa.refl _ | refine aa.alloc ?_ _ | refine aa.drew ?_)))) _ ((xs7.length:Int)-1) rfl (by exact aV.lit1 _ _) (by simp;omega) qB ?_;intro v8 w8 h8 g8 b8 n8)
              have k78:=(aa.refl w7).alloc (.cells #[.int .i64 ((xs7.length:Int)-1)] 2)
              have HF:=hid (show GrL B b0 w5.heap.size X w5 nn P xs.length (.int .i64 ((k2+1:Nat):Int)) (.slice p7 xs7.length q7) v8 w8 from
               ⟨k2+1,xs7,ints++[(xs7.length:Int)-1],qB,rfl,(Ll.out.keeps k78).ints (KT.out.keeps k78) g8 n8,by rw[Nat.add_mul,Nat.one_mul];omega,Lp,h8,by simp[MN],
                ((MJ.out.trans t7).keeps k78).push g8 (fun k e=>b8 k e),(src7.keeps k78).above (al.grown g8) (fun i e=>by have:=b8 i e.symm;have:=KR.out;have:=KP.out;omega)⟩)
              clear h8 g8 b8 n8 k78 Ll KT Lp t7 src7;go_roundw
              case rel=>exact(by simpa using HF.out)
              case measure=>simp[intOf];omega
             ·have LZ:¬(k2:Int)<nn:=qB
              have Ms:k2=nn:=qB;have Lw:=eE.off (Y:=X) (fun i _ e=>.inl e);have Lc:=LH.out.st2 t2 src2 LU Lw;obtain⟨z0,z1⟩:=Lc.cells;generalize wr=wo at*;have H8:=hid (fun W (k:aa wo W)=>(Lc.keeps k).st);have x9:=hid (fun W (k:aa wo W)=>(Lc.keeps k).sa);have H7:=hid (fun W (k:aa wo W)=>(Lc.keeps k).sb);have KS:=hid Lc;have Lj:=hid Le
              have hm:xs2.length+1<xs.length+2*P:=by
               rw[Ms] at KY;have Nb:=HP.out;have:nn=0∨nn=1∨nn=2:=qB
               rcases this with e | e | e<;>rw[e] at KY<;>omega
              have HM:=hid hm
              have Nn:xs2.length≤2000:=by have:=LR.out;omega
              have LY:ints.length≤2:=qB;clear Mk KV eE Lw Lc Le t2 hm Ms
              go_wp2_with (at_builtin;refine Di rfl (.tmp 142) (.tmp 151) rfl b0 X _ xs2 rfl (by exact H8.out _ (by with_reducible (repeat (first | exact aa.refl _ | refine aa.alloc ?_ _ | refine aa.drew ?_)))) _ 1 ⟨(ru:Int),ints,ss,tt,main⟩ (.slice pp np cp) (.slice p ss.length c) (.slice q tt.length cq) rfl (by exact At.lit5 wo _ _ _ _ _ _) (by exact(Lj.out.keeps (by with_reducible (repeat (first | exact aa.refl _ | refine aa.alloc ?_ _ | refine aa.drew ?_)))).mono (Nat.zero_le _)) (by exact x9.out _ (by with_reducible (repeat (first | exact aa.refl _ | refine aa.alloc ?_ _ | refine aa.drew ?_)))) (by exact H7.out _ (by with_reducible (repeat (first | exact aa.refl _ | refine aa.alloc ?_ _ | refine aa.drew ?_)))) (fun j e hx=>by have:=Lb.out j hx;have:=(Lj.out.len j e).1;omega) (by simp;have:=KP.out;omega) qB ?_;intro v' w' hv' ht';have hG:=KS.out.fin (m:=xs.length+2*P) (by with_reducible (repeat (first | exact aa.refl _ | refine aa.alloc ?_ _ | refine aa.drew ?_))) KR.out hv' ht' KZ ⟨by simpa using zx LY qB,bP HS.out,bP HT.out,Me.out⟩ HM.out)
              go_ret;exact hG
           ·have Lo:=LI.out.trans k7
            go_wp2_with fail;go_roundw
            case rel=>exact⟨ru+1,qB,qB,by go_num,rfl,Lo⟩
            case measure=>simp[intOf];omega
        ·have L3:¬(ru:Int)≤11:=qB
         have Lo:=LC.out.trans kr;go_wp2_with fail;go_roundw
         case rel=>exact⟨i+1,qB,by go_num,rfl,Lo⟩
         case measure=>simp[intOf];omega
      ·have x6:=HJ.out.keeps kr
       have Lz:w.heap.size<wr.heap.size:=zv Ly kr.size;obtain⟨z0,z1⟩:=x6.cells;generalize wr=wo at*;have H8:=hid (fun W (k:aa wo W)=>(x6.keeps k).st);have x9:=hid (fun W (k:aa wo W)=>(x6.keeps k).sa);have H7:=hid (fun W (k:aa wo W)=>(x6.keeps k).sb);have KS:=hid x6;clear x6 HJ kr
       by_cases MT:i<M.length
       ·have x8:(i:Int)<M.length:=qB
        have LW:¬(d:Int)>0:=qB;clear H9
        go_wp2_with (at_builtin;refine Di rfl (.tmp 153) (.tmp 160) rfl b0 X _ xs rfl (by exact H8.out _ (by with_reducible (repeat (first | exact aa.refl _ | refine aa.alloc ?_ _ | refine aa.drew ?_)))) _ 1 ⟨1,[],ss,tt,⟨#[112]⟩⟩ (.slice (some ⟨wo.heap.size,0,none⟩) 0 0) (.slice p ss.length c) (.slice q tt.length cq) rfl (by exact At.lit5s wo _ _ _ _ _ _ _ _ rfl) (by exact((aI.empty wo).keeps (by with_reducible (repeat (first | exact aa.refl _ | refine aa.alloc ?_ _ | refine aa.drew ?_)))).mono (Nat.zero_le _)) (by exact x9.out _ (by with_reducible (repeat (first | exact aa.refl _ | refine aa.alloc ?_ _ | refine aa.drew ?_)))) (by exact H7.out _ (by with_reducible (repeat (first | exact aa.refl _ | refine aa.alloc ?_ _ | refine aa.drew ?_)))) (fun j e hx=>by have:=Lb.out j hx;simp[Value.ownBlock] at e;omega) (by simp;have:=KP.out;omega) qB ?_;intro v' w' hv' ht';have hG:=KS.out.fin (m:=xs.length+2*P) (by with_reducible (repeat (first | exact aa.refl _ | refine aa.alloc ?_ _ | refine aa.drew ?_))) KR.out hv' ht' Li.out ⟨qD,bP HS.out,bP HT.out,oN⟩ (by have:=HP.out;omega))
        go_ret;exact hG
       ·have x8:¬(i:Int)<M.length:=qB
        clear H9
        go_wp2_with (at_builtin;refine Di rfl (.tmp 153) (.tmp 160) rfl b0 X _ xs rfl (by exact H8.out _ (by with_reducible (repeat (first | exact aa.refl _ | refine aa.alloc ?_ _ | refine aa.drew ?_)))) _ 1 ⟨1,[],ss,tt,⟨#[112]⟩⟩ (.slice (some ⟨wo.heap.size,0,none⟩) 0 0) (.slice p ss.length c) (.slice q tt.length cq) rfl (by exact At.lit5s wo _ _ _ _ _ _ _ _ rfl) (by exact((aI.empty wo).keeps (by with_reducible (repeat (first | exact aa.refl _ | refine aa.alloc ?_ _ | refine aa.drew ?_)))).mono (Nat.zero_le _)) (by exact x9.out _ (by with_reducible (repeat (first | exact aa.refl _ | refine aa.alloc ?_ _ | refine aa.drew ?_)))) (by exact H7.out _ (by with_reducible (repeat (first | exact aa.refl _ | refine aa.alloc ?_ _ | refine aa.drew ?_)))) (fun j e hx=>by have:=Lb.out j hx;simp[Value.ownBlock] at e;omega) (by simp;have:=KP.out;omega) qB ?_;intro v' w' hv' ht';have hG:=KS.out.fin (m:=xs.length+2*P) (by with_reducible (repeat (first | exact aa.refl _ | refine aa.alloc ?_ _ | refine aa.drew ?_))) KR.out hv' ht' Li.out ⟨qD,bP HS.out,bP HT.out,oN⟩ (by have:=HP.out;omega))
        go_ret;exact hG
def xh (x:StT):Prop:=x.pr.length≤10∧(∀ s∈x.l,s.size≤1000)∧(∀ s∈x.r,s.size≤1000)∧x.main.size≤200
theorem rr.two {x:StT} (h:rr x):xh x:=⟨zx h.1 qB,fun s hs=>zx (h.2.1 s hs) qB,fun s hs=>zx (h.2.2.1 s hs) qB,h.2.2.2⟩
theorem mY {xs:List StT} {y:StT} (h:∀ x∈xs,xh x) (hy:xh y) (i:Nat):∀ x∈xs.set i y,xh x:=fun x hx=>by
 rcases List.mem_or_eq_of_mem_set hx with hx | rfl
 ·exact h x hx
 ·exact hy
def sJ:Nat→Prop:=fun _=>False
structure PrJ (B b0 r:Nat) (w W:World) (v x y:Value) (xs:List StT) (sx sy:List ByteArray):Prop where
 t:aQ B b0 w W
 src:Src W B
 bx:aR W r 29 [x,y]
 st:StO W b0 sJ v xs
 sa:aj W x sx
 sb:aj W y sy
theorem PrJ.keeps {B b0 r:Nat} {w w1 w2:World} {v a b:Value} {xs:List StT} {ss tt:List ByteArray} (h:PrJ B b0 r w w1 v a b xs ss tt) (k:aa w1 w2):PrJ B b0 r w w2 v a b xs ss tt:=
 ⟨h.t.keeps k,h.src.keeps k,h.bx.keeps k,h.st.keeps k,h.sa.keeps k,h.sb.keeps k⟩
theorem PrJ.dr {B b0 r:Nat} {w w1 w2:World} {v a b:Value} {xs:List StT} {ss tt:List ByteArray} (h:PrJ B b0 r w w1 v a b xs ss tt) (k:Dr B w1 w2) (hB:B<b0) (hw:r≠B):PrJ B b0 r w w2 v a b xs ss tt:=
 ⟨h.t.trans (.of_dr k),k.2,h.bx.drN k hw,h.st.dr k h.src hB,h.sa.drT k h.src,h.sb.drT k h.src⟩
theorem PrJ.st2 {B b0 r:Nat} {w w1 W w2:World} {v v' a b:Value} {xs xs':List StT} {ss tt:List ByteArray} (h:PrJ B b0 r w w1 v a b xs ss tt) (kW:aa w1 W) (k:∀ A,aQ A b0 W w2) (hB:B<b0) (hw:r≠B) (h2:StO w2 b0 sJ v' xs'):PrJ B b0 r w w2 v' a b xs' ss tt:=
 have h:=h.keeps kW
 ⟨h.t.trans (k B),h.src.stp k hB,h.bx.st (k B) hw qC,h2,h.sa.st (k B) h.src,h.sb.st (k B) h.src⟩
theorem PrJ.cells {B b0 r:Nat} {w w1:World} {v a b:Value} {xs:List StT} {ss tt:List ByteArray} (h:PrJ B b0 r w w1 v a b xs ss tt):w1.cell? ⟨r,0,none⟩=some a∧w1.cell? ⟨r,1,none⟩=some b:=
 ⟨h.bx.cell 0 qD,h.bx.cell 1 qD⟩
def PrK (B b0 r:Nat) (w:World) (x y:Value) (sx sy:List ByteArray) (v:Value) (wx:World):Prop:=∃ xs:List StT,PrJ B b0 r w wx v x y xs sx sy∧0<xs.length∧xs.length≤260∧(∀ x∈xs,xh x)∧∀ x∈xs,x.pr.length≤4
def zE (B:Nat) (w:World) (e:Ending) (w':World):Prop:=
 ∃ (s:ByteArray) (v:Value) (xs:List StT),e=.returned (.tuple #[.string s,v])∧s.size≤4∧StO w' w.heap.size sJ v xs∧xs.length≤260∧(∀ x∈xs,xh x)∧aQ B w.heap.size w w'
theorem Ch {ss:List ByteArray} {s:ByteArray} (h:∀ x∈ss,x.size≤200) (hs:s.size≤200):∀ x∈ae ss s,x.size≤1000:=fun x hx=>by
 rcases gZ.1 hx with h1 | rfl
 ·exact zx (h x h1) qB
 ·omega
theorem uD {s t:ByteArray} (h:t.size≤200) (hs:s∈[t]):s.size≤1000:=by
 rw[zu] at hs;subst hs;omega
theorem IY:(⟨#[117]⟩:ByteArray).size≤200:=qC
theorem wg (B:Nat) (w:World) (hs:Src w B):Calls Tryz.prog 20 #[.pointer (some ⟨B,0,none⟩)] w (zE B w):=by
 have HK:=hid (tW B w hs);have hB:=hs.lt;go_enter Tryz.func20,Tryz.ntmps20;go_wp2_with fail;refine HK.out.mono ?_;rintro e w1 ⟨lg,x,y,rfl,KU,⟨gx,nx,cx,sx,rfl,ox,lx,Sx⟩,⟨gy,ny,cy,sy,rfl,oy,ly,Sy⟩,d1⟩;have LN:=aR.made w1 29 [.slice (some ⟨gx,0,none⟩) nx cx,.slice (some ⟨gy,0,none⟩) ny cy] qD qD;have ka:=(aa.refl w1).alloc (.cells #[.slice (some ⟨gx,0,none⟩) nx cx,.slice (some ⟨gy,0,none⟩) ny cy] 29);have LC:=StO.empty (w1.alloc (.cells #[.slice (some ⟨gx,0,none⟩) nx cx,.slice (some ⟨gy,0,none⟩) ny cy] 29)) sJ;have kb:=ka.alloc (.cells #[] 47);rw[World.size_alloc] at LC;have Ld:=d1.size;have Lx:=ox.strsP qB;have Ly:=oy.strsP qB;have hG:=yk B w.heap.size hB lg 7 sJ [] _ sx sy _ _ _ qB (d1.2.keeps kb) (zx Ld kb.size) (fun k hk=>hk.elim) (LC.mono qB) (fun x hx=>by cases hx) (Lx.keeps kb) (Ly.keeps kb) Sx Sy qB qB qD;rw[show((7:Nat):Int)=7 from rfl] at hG;have HG:=hid hG;have LG:=hid (LN.keeps ((aa.refl _).alloc (.cells #[] 47)));have LI:=hid (Lx.keeps kb);have LJ:=hid (Ly.keeps kb);have HD:=hid ((aQ.of_dr (b0:=w.heap.size) d1).keeps kb);have Lq:=hid (d1.2.keeps kb);have HZ:=hid Ld;have LV:=hid lx;have LX:=hid (bP Sx);have LY:=hid (bP Sy);clear HK LN ka LC kb Lx Ly hG d1 ox oy lx ly Sx Sy hs;go_wp2_with fail;refine HG.out.mono ?_;rintro e w4 ⟨v4,xs4,rfl,st4,pos4,len4,ok4,t4,src4⟩
 have x7:w1.heap.size≠B:=by have:=HZ.out;omega
 have hJ:PrJ B w.heap.size w1.heap.size w w4 v4 (.slice (some ⟨gx,0,none⟩) nx cx) (.slice (some ⟨gy,0,none⟩) ny cy) xs4 sx sy:=
  ⟨HD.out.trans t4,src4,LG.out.st t4 x7 qC,st4,LI.out.st t4 Lq.out,LJ.out.st t4 Lq.out⟩
 have len4':xs4.length<256:=by simpa using len4
 generalize w1.heap.size=r0 at*;have HJ:=hid hJ;have H9:=hid (fun x (hx:x∈xs4)=>(ok4 x hx).two);have Lo:=hid (fun x (hx:x∈xs4)=>(ok4 x hx).1);have L9:=HZ.out;clear HG LG LI LJ HD Lq HZ t4 src4 st4 hJ ok4 len4;obtain⟨p4,c4,rfl,L2,Lu⟩:=HJ.out.st.sh;unfold maxLen at Lu;go_wp2_with fail;refine(aE 3 B w4 HJ.out.src qB).mono ?_;rintro e w5 ⟨r3,rfl,Ma,d5⟩;have KT:=hid (HJ.out.dr d5 hB x7);clear HJ d5;have Lm:Hid (∀ (j:Nat),sJ j→False):=hid (fun _ h=>h)
 go_upto_if 20 with fail
 go_cut [6] (fun v wx=>PrK B w.heap.size r0 w (.slice (some ⟨gx,0,none⟩) nx cx) (.slice (some ⟨gy,0,none⟩) ny cy) sx sy v wx)
 case first=>
  by_cases h0:r3=0
  ·subst h0
   have KZ:=hid (fun W (k:aa w5 W)=>(KT.out.keeps k).st);have L5:w.heap.size≤w5.heap.size:=KT.out.t.size
   go_wp2_with (at_builtin;refine Di rfl (.tmp 21) (.tmp 26) rfl w.heap.size sJ _ xs4 rfl (by exact KZ.out _ (by with_reducible (repeat (first | exact aa.refl _ | refine aa.alloc ?_ _ | refine aa.drew ?_)))) _ 1 ⟨1,[],[⟨#[112]⟩],[⟨#[112]⟩],⟨#[112]⟩⟩ (.slice (some ⟨w5.heap.size,0,none⟩) 0 0) (.slice (some ⟨w5.heap.size+1,0,none⟩) 1 1) (.slice (some ⟨w5.heap.size+1+1,0,none⟩) 1 1) rfl (by exact At.lit5n _ _ _ _ _ _ _ _ qD) (by exact((aI.empty w5).keeps (by with_reducible (repeat (first | exact aa.refl _ | refine aa.alloc ?_ _ | refine aa.drew ?_)))).mono (Nat.zero_le _)) (by exact(Ef (w5.alloc (.cells #[] 2)) ⟨#[112]⟩ _ qD).keeps (by with_reducible (repeat (first | exact aa.refl _ | refine aa.alloc ?_ _ | refine aa.drew ?_)))) (by exact(Ef ((w5.alloc (.cells #[] 2)).alloc (.cells #[.string ⟨#[112]⟩] 9)) ⟨#[112]⟩ _ qD).keeps (by with_reducible (repeat (first | exact aa.refl _ | refine aa.alloc ?_ _ | refine aa.drew ?_)))) (fun j _ hx=>Lm.out j hx) (by simp;omega) qB ?_;intro v6 w6 LS LR;have La:=KT.out.st2 (by with_reducible (repeat (first | exact aa.refl _ | refine aa.alloc ?_ _ | refine aa.drew ?_))) LR hB x7 LS)
   have ok6:∀ x∈xs4++[⟨1,[],[⟨#[112]⟩],[⟨#[112]⟩],⟨#[112]⟩⟩],xh x:=fun x hx=>by
    rcases List.mem_append.1 hx with hx | hx
    ·exact H9.out x hx
    ·rw[List.mem_singleton.1 hx]
     exact⟨qD,fun s hs=>uD oN hs,fun s hs=>uD oN hs,oN⟩
   have pr6:∀ x∈xs4++[(⟨1,[],[⟨#[112]⟩],[⟨#[112]⟩],⟨#[112]⟩⟩:StT)],x.pr.length≤4:=fun x hx=>by
    rcases List.mem_append.1 hx with hx | hx
    ·exact Lo.out x hx
    ·rw[List.mem_singleton.1 hx]
     simp
   have len6:(xs4++[(⟨1,[],[⟨#[112]⟩],[⟨#[112]⟩],⟨#[112]⟩⟩:StT)]).length=xs4.length+1:=by simp
   obtain⟨p6,c6,rfl,L3,Lw⟩:=La.st.sh;unfold maxLen at Lw;clear LS LR KZ;generalize xs4++[(⟨1,[],[⟨#[112]⟩],[⟨#[112]⟩],⟨#[112]⟩⟩:StT)]=xs6 at*;have Ln:=hid ok6;have Lp:=hid pr6;have x9:=hid La
   have Me:IntKind.i64.wrap ((xs6.length:Int)-2)=(xs6.length:Int)-2:=by simp[IntKind.wrap,IntKind.bits,IntKind.signed];omega
   obtain⟨z0,z1⟩:=La.cells;have LM:2≤xs6.length∧xs6.length≤257:=qB;have KP:=hid LM;have LQ:w.heap.size≤w6.heap.size:=La.t.size;have Md:r0<w6.heap.size:=World.block_lt_of_cell? _ _ z0;clear ok6 pr6 Lo La len6 H9 KT LM;have Li:=hid (fun W (k:aa w6 W)=>bX sx _ ⟨#[117]⟩ W (x9.out.keeps k).sa (by have:=LV.out;omega));have HC:=hid (fun W (kW:aa w6 W)=>(show W.cell? ⟨r0,0,none⟩=some (.slice (some ⟨gx,0,none⟩) nx cx)∧W.cell? ⟨r0,1,none⟩=some (.slice (some ⟨gy,0,none⟩) ny cy) from⟨kW.cell z0,kW.cell z1⟩));have LU:=hid (fun W W2 (kW:aa w6 W) (t:aQ B w.heap.size W W2)=>(show W2.cell? ⟨r0,0,none⟩=some (.slice (some ⟨gx,0,none⟩) nx cx)∧W2.cell? ⟨r0,1,none⟩=some (.slice (some ⟨gy,0,none⟩) ny cy) from⟨((x9.out.keeps kW).bx.st t x7 qC).cell 0 qD,((x9.out.keeps kW).bx.st t x7 qC).cell 1 qD⟩));have KZ:=hid (fun W (k:aa w6 W)=>(x9.out.keeps k).st);have LK:=hid (fun W (k:aa w6 W)=>(x9.out.keeps k).sb)
   go_region_held3 (fun W=>W.cell? ⟨r0,0,none⟩=some (.slice (some ⟨gx,0,none⟩) nx cx)∧W.cell? ⟨r0,1,none⟩=some (.slice (some ⟨gy,0,none⟩) ny cy)) (first | (refine HC.out _ ?_;(with_reducible (repeat (first | exact aa.refl _ | exact k7 | refine aa.alloc ?_ _ | refine aa.drew ?_)));done) | (refine LU.out _ _ ?_ (Lf B);(with_reducible (repeat (first | exact aa.refl _ | exact k7 | refine aa.alloc ?_ _ | refine aa.drew ?_)));done)) (first
    | (go_at_call 54;refine(Li.out _ (by with_reducible (repeat (first | exact aa.refl _ | refine aa.alloc ?_ _ | refine aa.drew ?_)))).mono ?_;rintro e w7 ⟨v7,rfl,LD,k7'⟩;have k8:=k7';have k7:aa w6 w7:=aa.trans (by with_reducible (repeat (first | exact aa.refl _ | refine aa.alloc ?_ _ | refine aa.drew ?_))) k7';obtain⟨p7,n7,c7,rfl⟩:=LD.sh)
    | (refine E1 rfl (.tmp 28) (.tmp 39) rfl w.heap.size sJ _ xs6 rfl ?_ _ 1 ⟨13,[(xs6.length:Int)-2],ae sx ⟨#[117]⟩,sy,⟨#[]⟩⟩ (.slice (some ⟨w6.heap.size,0,none⟩) 1 1) (.slice p7 n7 c7) (.slice (some ⟨gy,0,none⟩) ny cy) rfl ?_ ?_ ?_ ?_ ?_ ?_ ?_ ?_;(focus (refine KZ.out _ ?_;(with_reducible (repeat (first | exact aa.refl _ | exact k7 | refine aa.alloc ?_ _ | refine aa.drew ?_)))));(focus (first | exact At.lit5n _ _ _ _ _ _ _ _ rfl | exact At.lit5n _ _ _ _ _ _ _ _ (World.size_alloc _ _).symm));(focus (refine aI.keeps (Ee w6 _ _ rfl) ?_;refine aa.alloc ?_ _;first | exact k8 | exact aa.trans (aa.drew (aa.refl _)) k8));(focus (refine aj.keeps LD ?_;(with_reducible (repeat (first | exact aa.refl _ | exact k7 | refine aa.alloc ?_ _ | refine aa.drew ?_)));done));(focus (refine LK.out _ ?_;(with_reducible (repeat (first | exact aa.refl _ | exact k7 | refine aa.alloc ?_ _ | refine aa.drew ?_)))));(focus (exact fun j _ hx=>Lm.out j hx));(focus (have LZ:=k7.size;simp;omega));(focus (have L1:=KP.out;omega));intro v8 w8 Lg Lf;have Ls:=x9.out.st2 (by with_reducible (repeat (first | exact aa.refl _ | exact k7 | refine aa.alloc ?_ _ | refine aa.drew ?_))) Lf hB x7 Lg)
    | (refine E1 rfl (.tmp 28) (.tmp 39) rfl w.heap.size sJ _ xs6 rfl ?_ _ 1 ⟨13,[(xs6.length:Int)-2],ae sx ⟨#[117]⟩,sy,⟨#[]⟩⟩ (.slice (some ⟨w7.heap.size,0,none⟩) 1 1) (.slice p7 n7 c7) (.slice (some ⟨gy,0,none⟩) ny cy) rfl ?_ ?_ ?_ ?_ ?_ ?_ ?_ ?_;(focus (refine KZ.out _ ?_;(with_reducible (repeat (first | exact aa.refl _ | exact k7 | refine aa.alloc ?_ _ | refine aa.drew ?_)))));(focus (first | exact At.lit5n _ _ _ _ _ _ _ _ rfl | exact At.lit5n _ _ _ _ _ _ _ _ (World.size_alloc _ _).symm));(focus (refine aI.keeps (Ee w7 _ _ rfl) ?_;(with_reducible (repeat (first | exact aa.refl _ | exact k7 | refine aa.alloc ?_ _ | refine aa.drew ?_)));done));(focus (refine aj.keeps LD ?_;(with_reducible (repeat (first | exact aa.refl _ | exact k7 | refine aa.alloc ?_ _ | refine aa.drew ?_)));done));(focus (refine LK.out _ ?_;(with_reducible (repeat (first | exact aa.refl _ | exact k7 | refine aa.alloc ?_ _ | refine aa.drew ?_)))));(focus (exact fun j _ hx=>Lm.out j hx));(focus (have LZ:=k7.size;simp;omega));(focus (have L1:=KP.out;omega));intro v8 w8 Lg Lf;have Ls:=x9.out.st2 (by with_reducible (repeat (first | exact aa.refl _ | exact k7 | refine aa.alloc ?_ _ | refine aa.drew ?_))) Lf hB x7 Lg))
   all_goals
    have hF:=hid (show PrK B w.heap.size r0 w (.slice (some ⟨gx,0,none⟩) nx cx) (.slice (some ⟨gy,0,none⟩) ny cy) sx sy v8 w8 from⟨_,Ls,qD,by have:=KP.out;simp;omega,fun x hx=>by
     rcases List.mem_append.1 hx with hx | hx
     ·exact Ln.out x hx
     ·rw[List.mem_singleton.1 hx]
      exact⟨qD,Ch LX.out IY,fun s hs=>zx (LY.out s hs) qB,Nat.zero_le 200⟩,fun x hx=>by
     rcases List.mem_append.1 hx with hx | hx
     ·exact Lp.out x hx
     ·rw[List.mem_singleton.1 hx]
      simp⟩)
    clear Ls Lg Lf;go_wp2_with fail
    go_meet
    exact hF.out
  ·have h0':¬((r3:Nat):Int)=0:=qB
   have hF:=hid (show PrK B w.heap.size r0 w (.slice (some ⟨gx,0,none⟩) nx cx) (.slice (some ⟨gy,0,none⟩) ny cy) sx sy (.slice p4 xs4.length c4) w5 from⟨xs4,KT.out,pos4,qB,H9.out,Lo.out⟩);clear h0;go_wp2_with fail
   go_meet
   exact hF.out
 case rest=>
  obtain⟨xs,hJ,L4,H8,LO,KS⟩:=hcut;obtain⟨pv,cv,rfl,L6,LF⟩:=hJ.st.sh;unfold maxLen at LF;generalize wc=wk at*;have HJ:=hid hJ;have H9:=hid LO;have KS:=hid KS
  have Lz:∃ gv,pv=some ⟨gv,0,none⟩:=by
   obtain⟨cs,h1,_⟩:=hJ.st
   rcases h1.2 with ⟨e,e2⟩ | ⟨g,cap,cur,e,_⟩
   ·omega
   ·cases e;exact⟨g,rfl⟩
  obtain⟨gv,rfl⟩:=Lz;have L7:((xs.length:Nat):Int)>0:=qB;clear LO hJ KT;go_wp2_with fail;refine(aE 4 B wk HJ.out.src qB).mono ?_;rintro e w6 ⟨r4,rfl,Mb,d6⟩;have x9:=hid (HJ.out.dr d6 hB x7);clear HJ d6
  by_cases h4:r4=0
  rotate_left
  ·have h4':((r4:Nat):Int)≠0:=qB
   have hF:=hid (show zE B w (.returned (.tuple #[.string lg,.slice (some ⟨gv,0,none⟩) xs.length cv])) w6 from⟨lg,_,xs,rfl,KU,x9.out.st,H8,H9.out,x9.out.t⟩);clear h4;go_wp2_with fail
   go_ret2
   exact hF.out
  ·subst h4
   have HN:=hid (aE ((xs.length:Nat):Int) B w6 x9.out.src qB);go_wp2_with fail;refine HN.out.mono ?_;rintro e w7 ⟨k,rfl,hk,d7⟩;have x6:k<xs.length:=qB;have L0:(k:Int)<xs.length:=qB;have Lk:=hid (x9.out.dr d7 hB x7);clear HN x9 d7 hk;go_wp2_with fail;refine(aE 6 B w7 Lk.out.src qB).mono ?_;rintro e w8 ⟨r6,rfl,Mc,d8⟩;have eE:=hid (Lk.out.dr d8 hB x7);clear Lk d8;have Lb:=zo x6;have h9:=hid (H9.out _ Lb);have LW:=hid (KS.out _ Lb);have x8:=hid (fun (W:World) (s:ByteArray) (v:Value) (xs':List StT) (h1:s.size≤4) (h2:StO W w.heap.size sJ v xs') (h3:xs'.length≤260) (h4:∀ x∈xs',xh x) (h5:aQ B w.heap.size w W)=>(show zE B w (.returned (.tuple #[.string s,v])) W from⟨s,v,xs',rfl,h1,h2,h3,h4,h5⟩));have h6:r6=0∨r6=1∨r6=2∨r6=3∨r6=4∨r6=5:=qB
   rcases h6 with rfl | rfl | rfl | rfl | rfl | rfl
   ·go_wp2_with fail
    refine(aE 16 B w8 eE.out.src qB).mono ?_;rintro e w9 ⟨r,rfl,hr,d9⟩;have H7:=eE.out.dr d9 hB x7;obtain⟨⟨pp,pl,pq,c0,c1,c2,c3,c4,o1,o2,o3⟩,fz⟩:=H7.st.row5 k x6;have f0:=fz (k*5);obtain⟨hs,ht⟩:=H7.st.cellSet (c:=0) x6 qB (.int .i64 (r:Int)) { xs[k] with rule:=(r:Int) } (fun cs h hl=>h.rule hl x6 _);rw[Nat.add_zero] at hs ht;have HF:=hid (x8.out _ lg _ _ KU hs (by simpa using H8) (mY (y:={ xs[k] with rule:=(r:Int) }) H9.out ⟨h9.out.1,h9.out.2.1,h9.out.2.2.1,h9.out.2.2.2⟩ k) (H7.t.trans (ht B)));clear hs ht H7 d9 c1 c2 c3 c4 o1 o2 o3;generalize xs[k]=xk at*;go_wp2_with fail
    go_ret2
    exact HF.out
   ·obtain⟨⟨pp,pl,pq,c0,c1,c2,c3,c4,o1,o2,o3⟩,fz⟩:=eE.out.st.row5 k x6
    have f0:=fz (k*5+4);obtain⟨hs,ht⟩:=eE.out.st.cellSet (c:=4) x6 qB (.string ⟨#[112]⟩) { xs[k] with main:=⟨#[112]⟩ } (fun cs h hl=>h.mn hl x6 _);have HF:=hid (x8.out _ lg _ _ KU hs (by simpa using H8) (mY (y:={ xs[k] with main:=⟨#[112]⟩ }) H9.out ⟨h9.out.1,h9.out.2.1,h9.out.2.2.1,oN⟩ k) (eE.out.t.trans (ht B)));clear hs ht c0 c1 c2 c3 o1 o2 o3;generalize xs[k]=xk at*;go_wp2_with fail
    go_ret2
    exact HF.out
   ·go_wp2_with fail
    refine(tV B w8 eE.out.src).mono ?_;rintro e w9 ⟨vd,rfl,⟨gd,nd,cd,sd,rfl,od,ld,zd⟩,d9⟩;have H7:=eE.out.dr d9 hB x7;have LP:=od.strsP qB;obtain⟨⟨pp,pl,pq,c0,c1,c2,c3,c4,o1,o2,o3⟩,fz⟩:=H7.st.row5 k x6;obtain⟨q2,m2,e2,rfl⟩:=o2.sh;have f0:=fz (k*5+2);obtain⟨hs,ht⟩:=H7.st.cellSet (c:=2) x6 qB (.slice (some ⟨gd,0,none⟩) nd cd) { xs[k] with l:=sd } (fun cs h hl=>h.lf hl x6 _ _ LP);have HF:=hid (x8.out _ lg _ _ KU hs (by simpa using H8) (mY (y:={ xs[k] with l:=sd }) H9.out ⟨h9.out.1,fun s hs=>zx (zd s hs) qB,h9.out.2.2.1,h9.out.2.2.2⟩ k) (H7.t.trans (ht B)));clear hs ht H7 d9 c0 c1 c3 c4 o1 o2 o3 od LP;generalize xs[k]=xk at*;go_wp2_with fail
    go_ret2
    exact HF.out
   ·obtain⟨⟨pp,pl,pq,c0,c1,c2,c3,c4,o1,o2,o3⟩,fz⟩:=eE.out.st.row5 k x6
    obtain⟨q1,m1,e1,rfl⟩:=o1.sh0;have LH:=hid (fK xs[k].pr _ w8 (o1.ints (zx h9.out.1 qB)));clear c0 c2 c3 c4 o1 o2 o3;go_wp2_with fail;refine LH.out.mono ?_;rintro e w9 ⟨v9,rfl,o9,k9⟩;have KV:=hid (eE.out.keeps k9);obtain⟨q9,m9,e9,rfl⟩:=o9.sh0;have Lc:StO w9 w.heap.size (fun j=>(Value.slice q9 m9 e9).ownBlock=some j) (.slice (some ⟨gv,0,none⟩) xs.length cv) xs:=(eE.out.st.off (fun i hi e=>by have:=(o9.len i e).1;omega)).keeps k9;have Mf:w.heap.size≤w8.heap.size:=eE.out.t.size;have Ll:=hid o9;have LL:=hid Lc;have Mg:=k9.size;clear c1 LH eE k9 o9 fz Lc;go_wp2_with fail;refine(aE 3 B w9 KV.out.src qB).mono ?_;rintro e w10 ⟨r,rfl,hr,d10⟩;have Lj:=hid (KV.out.dr d10 hB x7);have KY:=hid ((Ll.out.mono (Nat.zero_le _)).drT d10 KV.out.src);have K0:=hid (LL.out.dr d10 KV.out.src hB);have Lh:=hid (fun j (hj:(Value.slice q9 m9 e9).ownBlock=some j)=>(Ll.out.len j hj).1);clear KV Ll LL d10;have L8:xs[k].pr.length≤10:=h9.out.1
    go_wp2_with (at_builtin;refine mw rfl (.tmp 89) (.tmp 92) rfl 0 _ xs[k].pr rfl (by exact KY.out.keeps (by with_reducible (repeat (first | exact aa.refl _ | refine aa.alloc ?_ _ | refine aa.drew ?_)))) _ [(r:Int)] rfl (by exact aV.lit1 _ _) qD (by simp;omega) ?_;intro v11 w11 Lr g11 b11;obtain⟨q11,m11,e11,rfl⟩:=Lr.sh0;have KR:=((K0.out.keeps (by with_reducible (repeat (first | exact aa.refl _ | refine aa.alloc ?_ _ | refine aa.drew ?_)))).row (al.grown g11) (fun i e=>⟨cw.ownB (KY.out.keeps (by with_reducible (repeat (first | exact aa.refl _ | refine aa.alloc ?_ _ | refine aa.drew ?_)))) e.symm,e.symm⟩)).off (Y:=sJ) (fun _ _ h=>h.elim);have Le:=(Lj.out.t.keeps (by with_reducible (repeat (first | exact aa.refl _ | refine aa.alloc ?_ _ | refine aa.drew ?_)))).push g11 (fun j e=>by have:=Lh.out j e;omega);obtain⟨⟨pp',pl',pq',c0',c1',-,-,-,o1',-,-⟩,fz'⟩:=KR.row5 k x6;obtain⟨q1',m1',e1',rfl⟩:=o1'.sh0;have f1':=fz' (k*5+1))
    obtain⟨hs,ht⟩:=KR.cellSet (c:=1) x6 qB (.slice q11 m11 e11) { xs[k] with pr:=xs[k].pr++[(r:Int)] } (fun cs h hl=>h.pr hl x6 _ _ Lr (fun _ _ h=>h));have HF:=hid (x8.out _ lg _ _ KU hs (by simpa using H8) (mY (y:={ xs[k] with pr:=xs[k].pr++[(r:Int)] }) H9.out ⟨by have:=LW.out;simp;omega,h9.out.2.1,h9.out.2.2.1,h9.out.2.2.2⟩ k) (Le.trans (ht B)));clear hs ht KR Le Lr g11 b11;go_wp2_with fail
    go_ret2
    exact HF.out
   ·go_wp2_with fail
    refine(vZ B w8 eE.out.src).mono ?_;rintro e w9 ⟨lg2,rfl,Lt,d9⟩;have H7:=eE.out.dr d9 hB x7;have HF:=hid (x8.out w9 lg2 _ xs Lt H7.st H8 H9.out H7.t);clear H7 d9;go_wp2_with fail
    go_ret2
    exact HF.out
   ·have HF:=hid (x8.out w8 lg _ (xs.take k) KU (eE.out.st.cut (Nat.le_of_lt x6)) (by rw[List.length_take];omega) (fun x hx=>H9.out x (List.mem_of_mem_take hx)) eE.out.t)
    go_wp2_with fail
    go_ret2
    exact HF.out
def C6 (w:World) (e:Ending) (w':World):Prop:=∃ (s:ByteArray) (v:Value) (xs:List StT),e=.returned (.tuple #[.string s,v])∧s.size≤4∧StL w' v xs∧xs.length≤260∧jH xs∧aa w w'
theorem iG (v:Value) (n:Nat) (w:World) (hv:Bts w v n) (hn:n≤4096):Calls Tryz.prog 5 #[v] w (C6 w):=by
 have HF:=hid (xY v n w hv hn);obtain⟨p,cap,rfl,_⟩:=hv;go_enter Tryz.func5,Tryz.ntmps5;go_wp2_with fail;refine HF.out.mono ?_;rintro e w1 ⟨B,rfl,hB,hs,k1⟩;clear HF;have hz:=k1.size;have HK:=hid k1;have x7:=hid hB;clear k1;go_wp2_with fail;refine(wg B w1 hs).mono ?_;rintro e w2 ⟨s,v2,xs,rfl,x8,x6,h9,eE,ht⟩;have hr:StL w2 v2 xs:=x6.stl qB (fun x hx=>zx (eE x hx).1 qB)
 have hm:jH xs:=fun x hx=>⟨fun s hs=>zx ((eE x hx).2.1 s hs) qB,fun s hs=>zx ((eE x hx).2.2.1 s hs) qB,zx (eE x hx).2.2.2 qB⟩
 have hk:aa w w2:=aQ.keepsOf HK.out ht x7.out hz;have HR:=hid (show C6 w (.returned (.tuple #[.string s,v2])) w2 from⟨s,v2,xs,rfl,x8,hr,h9,hm,hk⟩);obtain⟨p2,c2,rfl,_⟩:=hr.shape;clear x6 ht eE hk hm;go_wp2_with fail
 go_ret2
 exact HR.out
end Go.Proofs.YtagoboblkadelaaGreat
