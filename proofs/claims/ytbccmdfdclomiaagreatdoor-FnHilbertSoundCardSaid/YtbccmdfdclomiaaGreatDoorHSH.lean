import Derived.Test.YtbccmdfdclomiaaGreatDoorHM4
/- own -/
namespace Go.Proofs.YtbccmdfdclomiaaGreatDoor
set_option maxHeartbeats 8000000
open Go.RowKit
theorem neqNd (k i k' i':Int) (w:World):(binOp .neq 74 (.agg #[.int .i64 k,.int .i64 i]) (.agg #[.int .i64 k',.int .i64 i'])).run Tryz.prog w=.ok (.bool (!(k==k'&&i==i'))) w:=by
 by_cases h1:k=k'<;>by_cases h2:i=i'<;>simp [go_sem,h1,h2]
theorem equalN_any (a b:List Nd) (va vb:Value) (w:World) (hva:Nds w va a) (hvb:Nds w vb b):
  Calls Tryz.prog 106 #[va,vb] w fun e w'=>e=.returned (.bool (decide (a=b)))∧Keeps w w':=by
 have hva0:=hva;have hvb0:=hvb;obtain ⟨pa,ca,rfl,hlea,hmxa,_,hlena⟩:=hva;obtain ⟨pb,cb,rfl,hleb,hmxb,_,hlenb⟩:=hvb;unfold maxLen at hmxa hmxb
 by_cases hl:a.length=b.length
 ·have hl':((a.length:Int) != (b.length:Int))=false:=by simp [hl]
  have HL:=hid hl;clear hl;go_enter Tryz.func106,Tryz.ntmps106;go_wp2
  go_loopw [4,13] (fun r i' wr=>∃ k:Nat,k≤a.length∧a.take k=b.take k∧Keeps w wr∧i'=.int .i64 k∧r=.bool false) (fun _ i _=>a.length-(intOf i).toNat)
  case atStart=>exact ⟨0,by omega,rfl,Keeps.refl w,rfl,rfl⟩
  case round=>
   obtain ⟨k,hk,htk,kw,rfl,rfl⟩:=hrel;have HT:=hid htk;clear htk;clear hl'
   by_cases hlt:k<a.length
   ·have hltb:k<b.length:=by have:=HL.out;omega
    obtain ⟨_,_,e1,_,_,hata,_⟩:=hva0.keeps kw;obtain ⟨_,_,e2,_,_,hatb,_⟩:=hvb0.keeps kw
    cases e1;cases e2
    obtain ⟨b1,o1,rfl,h1,h2⟩:=hata.nd k hlt;obtain ⟨b2,o2,rfl,h3,h4⟩:=hatb.nd k hltb;clear hata hatb hva0 hvb0
    have hlt':(k:Int)<a.length:=by omega
    have hltb':(k:Int)<b.length:=by omega
    by_cases he:a[k]=b[k]
    ·have HE:=hid he
     rw [he] at h1 h2
     have hd:=fun wz=>neqNd b[k].k b[k].s b[k].k b[k].s wz
     simp only [beq_self_eq_true,Bool.and_self,Bool.not_true] at hd;go_wp2_with fail
     go_quiet (fail)
     go_wp2;go_roundw
     case rel=>exact ⟨k+1,by omega,by rw [List.take_succ_eq_append_getElem hlt,List.take_succ_eq_append_getElem hltb,HT.out,HE.out],kw.drewN _,by go_num,rfl⟩
     case measure=>simp [intOf];omega
    ·have HE:=hid he
     have hd:=fun wz=>neqNd a[k].k a[k].s b[k].k b[k].s wz
     rw [show (a[k].k==b[k].k&&a[k].s==b[k].s)=false by
      rw [Bool.eq_false_iff];intro h;rw [Bool.and_eq_true,beq_iff_eq,beq_iff_eq] at h
      exact he (by cases hx:a[k];cases hy:b[k];rw [hx,hy] at h;simp at h;rw [h.1,h.2]),Bool.not_false] at hd
     clear he;go_wp2_with fail
     go_quiet (fail)
     go_wp2;go_ret;refine ⟨ret_bool ?_,kw.drewN _⟩
     symm;rw [decide_eq_false_iff_not]
     rintro rfl;exact HE.out rfl
   ·have hlt':¬(k:Int)<a.length:=by omega
    go_wp2;go_ret;refine ⟨ret_bool ?_,kw⟩
    symm;rw [decide_eq_true_eq]
    have h1:=HL.out;have h2:=HT.out;rw [List.take_of_length_le (by omega),List.take_of_length_le (by omega)] at h2;exact h2
 ·have hl':((a.length:Int) != (b.length:Int))=true:=by simp;omega
  have HL:=hid hl;clear hl;go_enter Tryz.func106,Tryz.ntmps106;go_wp2;go_ret;refine ⟨ret_bool ?_,Keeps.refl _⟩
  symm;rw [decide_eq_false_iff_not]
  rintro rfl;exact HL.out rfl
theorem same_any (a b:List Nd) (va vb:Value) (w:World) (hva:Nds w va a) (hvb:Nds w vb b):
  Calls Tryz.prog 66 #[va,vb] w fun e w'=>e=.returned (.bool (decide (a=b)))∧Keeps w w':=by
 have H:=hid (equalN_any a b va vb w hva hvb);clear hva hvb;go_enter Tryz.func66,Tryz.ntmps66;go_wp2_with fail;refine H.out.mono ?_;rintro e w2 ⟨rfl,k2⟩;go_wp2_with fail;go_ret;exact ⟨rfl,k2⟩
theorem bind_bd {σ:Nat→Option Fm} {u:Fm} (h:∀ v f,σ v=some f→f.enc.length≤1000) (hu:u.enc.length≤1000) (v:Nat):∀ x f,bindO σ v u x=some f→f.enc.length≤1000:=fun x f e=>by
 unfold bindO at e
 split at e
 ·cases e;exact hu
 ·exact h x f e
def ImS (w:World) (B g:Nat) (σ:Nat→Option Fm):Prop:=
 ∃ vs,w.ownsRow B 34 1 (.slice (some ⟨g,0,none⟩) 6 6) 6 vs∧∀ i,i<6→∃ u,vs[i]? = some u∧((σ i=none∧u=.slice none 0 0)∨∃ f,σ i=some f∧OwnN w B u f.enc)
theorem ImS.keeps {w w':World} {B g:Nat} {σ:Nat→Option Fm} (h:ImS w B g σ) (k:Keeps w w'):ImS w' B g σ:=by
 obtain ⟨vs,h1,h2⟩:=h;refine ⟨vs,own_keeps h1 k,fun i hi=>?_⟩;obtain ⟨u,e,h⟩:=h2 i hi;exact ⟨u,e,h.imp id (fun ⟨f,h1,h2⟩=>⟨f,h1,h2.keeps k⟩)⟩
theorem ImS.get {w:World} {B g:Nat} {σ:Nat→Option Fm} (h:ImS w B g σ) (i:Nat) (hi:i<6):
  ∃ u,w.cell? ⟨g,i,none⟩=some u∧w.frozen? ⟨g,i,none⟩=false∧((σ i=none∧u=.slice none 0 0)∨∃ f,σ i=some f∧OwnN w B u f.enc):=by
 obtain ⟨vs,h1,h2⟩:=h;obtain ⟨u,e,h⟩:=h2 i hi;have hl:vs.length=6:=h1.1;refine ⟨u,?_,h1.frozenAt i,h⟩;rw [h1.cellAt i (by omega)]
 simpa [show i<vs.length by omega] using e
theorem ImS.set {w:World} {B g:Nat} {σ:Nat→Option Fm} {u:Value} {f:Fm} (h:ImS w B g σ) (i:Nat) (hi:i<6) (hu:OwnN w B u f.enc):ImS (w.setCell ⟨g,i,none⟩ u) B g (bindO σ i f)∧w.grownBy (w.setCell ⟨g,i,none⟩ u) (some g)∧B≤g∧g<w.heap.size:=by
 obtain ⟨vs,h1,h2⟩:=h;have hl:vs.length=6:=h1.1;have hst:=h1.stored i u
 have stay:∀ {y:Value} {b:List Nd},OwnN w B y b→OwnN (w.setCell ⟨g,i,none⟩ u) B y b:=fun hy=>hy.touch (Touch.grown hst.2) (fun j hj e=>type_ne h1 hy tyne (k:=j) (by cases e;rfl) hj)
 refine ⟨⟨vs.set i u,hst.1,fun j hj=>?_⟩,hst.2,(h1.lt g rfl).1,(h1.lt g rfl).2⟩;unfold bindO
 by_cases e:i=j
 ·subst e
  refine ⟨u,by rw [List.getElem?_set_self (by omega)],.inr ⟨f,by rw [if_pos rfl],stay hu⟩⟩
 ·obtain ⟨y,ey,h⟩:=h2 j hj
  refine ⟨y,by rw [List.getElem?_set_ne e];exact ey,?_⟩;rw [if_neg (fun e2=>e e2.symm)];exact h.imp id (fun ⟨f,h1,h2⟩=>⟨f,h1,stay h2⟩)
theorem run_makeL6 (w:World):∃ w',(Instr.makeSlice 24 (.int .i64 6) (.int .i64 6)).run Tryz.prog w=.ok (.slice (some ⟨w.heap.size,0,none⟩) 6 6) w'∧ImS w' w.heap.size w.heap.size (fun _=>none)∧Keeps w w':=by
 obtain ⟨i0,hi,hz0,hz1,hz2⟩:=info_parts infoL;obtain ⟨w',hr,ho,hg⟩:=run_make_full (P:=Tryz.prog) w w.heap.size 24 34 i0 _ 1 Tryz.underlying24 hi hz0 hz1 .i64 .i64 6 (by rw [hz2];omega) (by unfold maxLen;omega) (Nat.le_refl _);rw [show (Value.slice none 0 0).cells=#[Value.slice none 0 0] from rfl] at ho;refine ⟨w',hr,⟨_,ho,fun i hi=>⟨.slice none 0 0,?_,.inl ⟨rfl,rfl⟩⟩⟩,(Keeps.refl w).grown hg (by simp)⟩
 have:i=0∨i=1∨i=2∨i=3∨i=4∨i=5:=by omega
 rcases this with rfl | rfl | rfl | rfl | rfl | rfl<;>simp [madeCells]
theorem eqlNil (w:World):(binOp .eql 34 (.slice none 0 0) (.slice none 0 0)).run Tryz.prog w=.ok (.bool true) w:=by kernel_rfl
theorem eqlSome (a:Addr) (n c:Nat) (w:World):(binOp .eql 34 (.slice (some a) n c) (.slice none 0 0)).run Tryz.prog w=.ok (.bool false) w:=by kernel_rfl
set_option maxRecDepth 20000 in
theorem match_any (s t:Fm) (hs:s.wf) (_hls:s.enc.length≤1000) (hlt:t.enc.length≤1000) (va vb:Value) (w:World) (hva:Nds w va s.enc) (hvb:Nds w vb t.enc):
  Calls Tryz.prog 184 #[va,vb] w fun e w'=>(∃ u,e=.returned (.tuple #[u,.bool (mtF (s.enc.length+1) [s] [t] (fun _=>none)).isSome]))∧Keeps w w':=by
 have HST0:=hid (MtSt.start (s:=s) (t:=t));have HOK:=hid (okNd_enc hs);generalize (mtF (s.enc.length+1) [s] [t] (fun _=>none)).isSome=R at*;generalize s.enc=a at*;generalize t.enc=b at*;clear hs;have hva0:=hva;have hvb0:=hvb;obtain ⟨p,ca,rfl,hla1,hla2,_⟩:=hva;obtain ⟨q,cb,rfl,hlb1,hlb2,_⟩:=hvb;unfold maxLen at hla2 hlb2;obtain ⟨wm,hmk,him,km⟩:=run_makeL6 w;have HVA:=hid (fun wz (kz:Keeps w wz)=>hva0.keeps kz);have HVB:=hid (fun wz (kz:Keeps w wz)=>hvb0.keeps kz);clear hva0 hvb0;go_enter Tryz.func184,Tryz.ntmps184;go_wp2_with fail
 go_loopw [7,15] (fun j' i' wr=>∃ (i j:Nat) (σ:Nat→Option Fm) (ts us:List Fm),j'=.int .i64 j∧i'=.int .i64 i∧MtSt R a b i j σ ts us∧ImS wr w.heap.size w.heap.size σ∧(∀ v f,σ v=some f→f.enc.length≤1000)∧Keeps w wr) (fun _ i _=>a.length-(intOf i).toNat)
 case atStart=>exact ⟨0,0,_,_,_,rfl,rfl,HST0.out,him,(by intro v f h;cases h),km⟩
 case round=>
  obtain ⟨i,j,σ,ts,us,rfl,rfl,hst,hI,hbd,kw⟩:=hrel;have HBD:=hid hbd;clear hbd;have hia:=hst.ia;have hjb:=hst.ib;clear HST0 him hmk
  by_cases hi:i<a.length
  ·have hi':(i:Int)<a.length:=by omega
   obtain ⟨t1,ts',u1,us',rfl,rfl,hj,ea,eb,rb⟩:=hst.open hi
   have hj':(j:Int)<b.length:=by omega
   have hjn:((j:Int)≥b.length)=False:=by simp;omega
   obtain ⟨_,_,e1,_,_,hata,_⟩:=HVA.out wr kw
   cases e1
   obtain ⟨b1,o1,rfl,c1,c2⟩:=hata.nd i hi;obtain ⟨_,_,e1,_,_,hatb,_⟩:=HVB.out wr kw
   cases e1
   obtain ⟨b2,o2,rfl,d1,d2⟩:=hatb.nd j hj;clear hata hatb;rw [List.getElem?_eq_getElem hi,Option.some.injEq] at ea;rw [List.getElem?_eq_getElem hj,Option.some.injEq] at eb;rw [ea] at c1 c2;rw [eb] at d1 d2
   by_cases hk:t1.kind=0
   ·obtain ⟨v,rfl⟩:=(kind_var t1).1 hk
    have hv6:v<6:=by
     have h:=HOK.out a[i] (List.getElem_mem hi);rw [ea] at h;simp [okNd,Fm.kind,Fm.sym] at h;omega
    obtain ⟨hy,hn⟩:=hst.var hi;simp only [Fm.kind,Fm.sym] at c1 c2;obtain ⟨u0,cu,fu,hu⟩:=hI.get v hv6
    have hv0':(0:Int)≤v:=by omega
    have hv6':(v:Int)<6:=by omega
    have kA:=(Keeps.refl wr).alloc (.cells #[.int .i64 0,.int .i64 v] 74);have HB:=hid (show b=b.take j++(u1.enc++us'.flatMap Fm.enc) from by rw [←rb,List.take_append_drop]);have HP:=hid (fun wz (kz:Keeps w wz)=>part_any b (b.take j) u1 (us'.flatMap Fm.enc) _ (j:Int) wz (HVB.out wz kz) HB.out (by simp;omega))
    have hul:u1.enc.length≤1000:=by
     have:=congrArg List.length HB.out;simp only [List.length_append] at this;omega
    have hup:=Fm.enc_pos u1;have HB5:=hid (bind_bd HBD.out hul v);have hsz:=km.size
    have n0:(wr.alloc (.cells #[.int .i64 0,.int .i64 v] 74)).cell? ⟨wr.heap.size,0,none⟩=some (.int .i64 0):=by simp
    have n1:(wr.alloc (.cells #[.int .i64 0,.int .i64 v] 74)).cell? ⟨wr.heap.size,1,none⟩=some (.int .i64 v):=by simp
    have hgs:w.heap.size<wr.heap.size:=World.block_lt_of_cell? _ _ cu;have HG:=hid hgs;have HY:=hid hy;have HN:=hid hn;have HI:=hid hI;have HC:=hid (fun wz (pv:Value) (h:Nds wz pv u1.enc)=>clone_any u1.enc pv wz h hup (by omega));clear hy hn hst hI rb d1 d2 hjb hia
    go_upto_region 12 with fail
    have cuA:=kA.cell cu;have kwA:=kw.trans kA;have HKA:=hid kA;clear cu fu kA kw c1 c2;generalize wr.alloc (.cells #[.int .i64 0,.int .i64 v] 74)=wA at*;go_wp2_with fail;refine (HP.out wA kwA).mono ?_;rintro e w2 ⟨pv,rfl,hpv,rfl⟩;obtain ⟨pp,np,cp,rfl⟩:=hpv.shape
    obtain rfl:np=u1.enc.length:=by obtain ⟨_,_,e,_⟩:=hpv;cases e;rfl
    clear HP
    rcases hu with ⟨hσ,rfl⟩ | ⟨f,hσ,hf⟩
    ·have HYY:=hid (HY.out (.inl hσ))
     clear HY HN;have n1d:wA.drew.cell? ⟨wr.heap.size,1,none⟩=some (.int .i64 v):=n1;have kd:=(Keeps.refl wA).drew;go_wp2_with fail
     go_region_held3 (fun w'=>w'.cell? ⟨wr.heap.size,1,none⟩=some (.int .i64 v)) (first | exact n1d | exact nc4 | exact nc5) (first
      | (go_at_call 41;refine (HC.out _ _ (hpv.keeps kd)).mono ?_;rintro e w4 ⟨v4,rfl,hv4,k4⟩;have nc4:=k4.cell n1d;have kA4:=HKA.out.trans (kd.trans k4);obtain ⟨hI5,gr5,hBg,hgl⟩:=(HI.out.keeps kA4).set v hv6 (hv4.mono (Nat.le_trans kwA.size kd.size));obtain ⟨x4,cg4,fg4,-⟩:=(HI.out.keeps kA4).get v hv6;obtain ⟨p4,n4,q4,rfl⟩:∃ p n c,v4=.slice p n c:=(by obtain ⟨p,c,e,_⟩:=At.of_own hv4;exact ⟨p,_,c,e⟩);have nc5:=World.grownBy.cell gr5 nc4 (fun e=>absurd (Option.some.inj e) (show ¬(wr.heap.size=w.heap.size) from by have:=HG.out;omega));have kw5:=(kwA.trans (kd.trans k4)).grown gr5 (fun j hj=>by cases hj;exact hBg)))
     go_wp2_with fail;go_roundw
     case rel=>exact ⟨i+1,j+u1.enc.length,_,_,_,by go_num,by go_num,HYY.out,hI5,HB5.out,kw5⟩
     case measure=>simp [intOf];omega
    ·have hfp:=Fm.enc_pos f
     obtain ⟨pf,nf,qf,rfl⟩:∃ p n c,u0=.slice p n c:=by obtain ⟨p,c,e,_⟩:=At.of_own hf;exact ⟨p,_,c,e⟩
     have hfA:=hf.keeps HKA.out;obtain ⟨gf,cf,e1,-⟩:=hf.shape hfp
     cases e1
     have HFL:Hid (f.enc.length≤2147483648):=hid (by have:=HBD.out v f hσ;omega);have HSM:=hid (fun wz (kz:Keeps wA wz)=>same_any f.enc u1.enc _ _ wz ((hfA.keeps kz).nds HFL.out) (hpv.keeps kz))
     by_cases hfu:f=u1
     ·subst hfu
      have HYY:=hid (HY.out (.inr hσ));rw [show decide (f.enc=f.enc)=true from by simp] at HSM;clear HY HN hf hfA;go_wp2_with fail;refine (HSM.out wA (Keeps.refl _)).mono ?_;rintro e w3 ⟨rfl,k3⟩;have n1d:w3.drew.cell? ⟨wr.heap.size,1,none⟩=some (.int .i64 v):=k3.cell n1;have kd:=k3.trans (Keeps.refl w3).drew;go_wp2_with fail
      go_region_held3 (fun w'=>w'.cell? ⟨wr.heap.size,1,none⟩=some (.int .i64 v)) (first | exact n1d | exact nc4 | exact nc5) (first
       | (go_at_call 41;refine (HC.out _ _ (hpv.keeps kd)).mono ?_;rintro e w4 ⟨v4,rfl,hv4,k4⟩;have nc4:=k4.cell n1d;have kA4:=HKA.out.trans (kd.trans k4);obtain ⟨hI5,gr5,hBg,hgl⟩:=(HI.out.keeps kA4).set v hv6 (hv4.mono (Nat.le_trans kwA.size kd.size));obtain ⟨x4,cg4,fg4,-⟩:=(HI.out.keeps kA4).get v hv6;obtain ⟨p4,n4,q4,rfl⟩:∃ p n c,v4=.slice p n c:=(by obtain ⟨p,c,e,_⟩:=At.of_own hv4;exact ⟨p,_,c,e⟩);have nc5:=World.grownBy.cell gr5 nc4 (fun e=>absurd (Option.some.inj e) (show ¬(wr.heap.size=w.heap.size) from by have:=HG.out;omega));have kw5:=(kwA.trans (kd.trans k4)).grown gr5 (fun j hj=>by cases hj;exact hBg)))
      go_wp2_with fail;go_roundw
      case rel=>exact ⟨i+1,j+f.enc.length,_,_,_,by go_num,by go_num,HYY.out,hI5,HB5.out,kw5⟩
      case measure=>simp [intOf];omega
     ·have hNN:=HN.out (by rw [hσ];rintro (h | h);cases h;exact hfu (Option.some.inj h))
      subst hNN;rw [show decide (f.enc=u1.enc)=false from by rw [decide_eq_false_iff_not];exact fun e=>hfu (enc_inj e)] at HSM;clear HY HN hf hfA;go_wp2_with fail;refine (HSM.out wA (Keeps.refl _)).mono ?_;rintro e w3 ⟨rfl,k3⟩;go_wp2_with fail
      go_ret2
      exact ⟨⟨_,rfl⟩,kwA.trans k3⟩
   ·have hkb:(t1.kind != 0)=true:=by simp [hk]
    obtain ⟨hy,hn⟩:=hst.node hi hj hk;have s0:=sym_zero hk;have HY:=hid hy;have HN:=hid hn;clear hy hn hst rb hjb hia;have kA:=(Keeps.refl wr).alloc (.cells #[.int .i64 t1.kind,.int .i64 t1.sym] 74)
    by_cases hkk:u1.kind=t1.kind
    ·have hss:u1.sym=t1.sym:=by rw [s0,sym_zero (by rw [hkk];exact hk)]
     have HYY:=hid (HY.out hkk);rw [hkk] at d1;rw [hss] at d2;have HI:=hid (hI.keeps kA);have KW:=hid (kw.trans kA);have x1:=kA.drew.cell d1;have x2:=kA.drew.cell d2;clear HY HN hss hkk s0 hk hI kw kA;generalize t1.kind=kk at*;generalize t1.sym=ks at*;go_wp2_with fail
     go_region
     go_wp2_with fail;go_roundw
     case rel=>exact ⟨i+1,j+1,_,_,_,by go_num,by go_num,HYY.out,HI.out.keeps (Keeps.refl _).drew,HBD.out,KW.out.drew⟩
     case measure=>simp [intOf];omega
    ·have hR:=HN.out hkk
     subst hR;have KW:=hid (kw.trans kA);have x1:=kA.drew.cell d1;have x2:=kA.drew.cell d2;clear HY HN s0 hk hI kw kA;generalize u1.kind=uk at*;generalize u1.sym=us at*;generalize t1.kind=kk at*;generalize t1.sym=ks at*;go_wp2_with fail
     go_region
     go_wp2_with fail
     go_ret2
     exact ⟨⟨_,rfl⟩,KW.out.drew⟩
  ·obtain rfl:i=a.length:=by omega
   obtain ⟨hR,hjl⟩:=hst.done rfl
   have hi':¬(a.length:Int)<a.length:=by omega
   subst hR;have HI:=hid hI;have KW:=hid kw;clear hst hjl hia hjb hI kw;go_wp2_with fail
   go_loopw [66] (fun i' wr=>∃ (k:Nat) (σ2:Nat→Option Fm),k≤6∧i'=.int .i64 k∧ImS wr w.heap.size w.heap.size σ2∧Keeps w wr) (fun i _=>6-(intOf i).toNat)
   case atStart=>exact ⟨0,σ,by omega,rfl,HI.out,KW.out⟩
   case round=>
    obtain ⟨k,σ2,hk,rfl,hI,kw⟩:=hrel;clear HI KW
    by_cases hk6:k<6
    ·have hk6':(k:Int)<6:=by omega
     have hk0':(0:Int)≤k:=by omega
     obtain ⟨u0,cu,fu,hu⟩:=hI.get k hk6
     rcases hu with ⟨hσ,rfl⟩ | ⟨f,hσ,hf⟩
     ·have HI:=hid hI
      have HV:=hid (variable_any k wr);have hq:=eqlNil wr;clear hI;go_wp2_with fail;refine HV.out.mono ?_;rintro e w4 ⟨v4,rfl,hv4,k4⟩;obtain ⟨hI5,gr5,hBg,hgl⟩:=(HI.out.keeps k4).set k hk6 (hv4.mono kw.size);obtain ⟨x4,cg4,fg4,-⟩:=(HI.out.keeps k4).get k hk6
      obtain ⟨p4,n4,q4,rfl⟩:∃ p n c,v4=.slice p n c:=(by obtain ⟨p,c,e,_⟩:=At.of_own hv4;exact ⟨p,_,c,e⟩)
      have kw5:=(kw.trans k4).grown gr5 (fun j hj=>by cases hj;exact hBg);clear cu fu;go_wp2_with fail;go_roundw
      case rel=>exact ⟨k+1,_,by omega,by go_num,hI5,kw5⟩
      case measure=>simp [intOf];omega
     ·obtain ⟨gf,cf,e1,-⟩:=hf.shape (Fm.enc_pos f)
      subst e1;have hq:=eqlSome ⟨gf,0,none⟩ f.enc.length cf wr;have HI:=hid hI;clear hI hf;go_wp2_with fail;go_roundw
      case rel=>exact ⟨k+1,_,by omega,by go_num,HI.out,kw⟩
      case measure=>simp [intOf];omega
    ·obtain rfl:k=6:=by omega
     go_wp2_with fail
     go_ret2
     exact ⟨⟨_,rfl⟩,kw⟩
def boolCells (a:List Bool):List Value:=a.map (Value.bool)
def Bools (w:World) (v:Value) (a:List Bool):Prop:=∃ p cap,v=.slice p a.length cap∧a.length≤cap∧cap≤maxLen∧At w p (boolCells a)∧a.length≤2147483648
theorem Bools.keeps {w w':World} {v:Value} {a:List Bool} (h:Bools w v a) (k:Keeps w w'):Bools w' v a:=by
 obtain ⟨p,cap,hv,h1,h2,h3,h4⟩:=h;exact ⟨p,cap,hv,h1,h2,h3.keeps k,h4⟩
theorem At.bool {w:World} {p:Option Addr} {a:List Bool} (h:At w p (boolCells a)) (i:Nat) (hi:i<a.length):
  ∃ b off,p=some ⟨b,off,none⟩∧w.cell? ⟨b,off+i,none⟩=some (.bool a[i]):=by
 obtain ⟨b,off,hp,hc⟩:=h i (by simpa [boolCells] using hi);exact ⟨b,off,hp,by simpa [boolCells] using hc⟩
def OwnB (w:World) (B:Nat) (v:Value) (a:List Bool):Prop:=w.ownsRow B 4 1 v a.length (boolCells a)
theorem OwnB.bools {w:World} {B:Nat} {v:Value} {a:List Bool} (h:OwnB w B v a) (hl:a.length≤2147483648):Bools w v a:=by
 obtain ⟨p,cap,h1,h2,h3,h4⟩:=At.of_own h;exact ⟨p,cap,h1,h2,h3,h4,hl⟩
theorem OwnB.keeps {w w':World} {B:Nat} {v:Value} {a:List Bool} (h:OwnB w B v a) (k:Keeps w w'):OwnB w' B v a:=own_keeps h k
theorem OwnB.mono {w:World} {B B':Nat} {v:Value} {a:List Bool} (h:OwnB w B v a) (k:B'≤B):OwnB w B' v a:=own_mono h k
theorem boolCells_one (a:List Bool):∀ u∈boolCells a,u.oneCell'=true:=by
 intro u hu;unfold boolCells at hu;obtain ⟨x,_,rfl⟩:=List.mem_map.1 hu;rfl
theorem infoB:(Tryz.prog.info? 4).map (fun i=>(i.zero,i.size,i.bytes))=some (some (.bool false),1,1):=by kernel_rfl
theorem appBK {w:World} {o:Oper} {a:Act} {K:Act→World→Prop} {Q:Exit→Act→World→Prop} (s x:Operand)
  (ho:o.op=.call { callee:=.builtin .append,args:=#[s,x],argTypes:=#[93,93] }) (base:Nat) (v:Value) (xs:List Bool) (hs:a.eval s=v) (hown:OwnB w base v xs)
  (u:Value) (ys:List Bool) (hx:a.eval x=u) (hu:Bools w u ys) (hbase:base≤w.heap.size) (hlen:xs.length+ys.length≤2147483648)
  (h:∀ v' w',OwnB w' base v' (xs++ys)→w.grownBy w' v.ownBlock→(∀ k,v.ownBlock=some k→base≤k)→K (a.put o.dst v') w'):o.wp Tryz.prog a w K Q:=by
 obtain ⟨i0,hi,hz0,hz1,hz2⟩:=info_parts infoB;obtain ⟨p,cap,rfl,_,_,hat,_⟩:=hu;refine wp_append_at s x _ ho _ i0 _ 1 1 Tryz.underlying93 hi hz0 hz1 hz2 rfl (by decide) base v _ _ hs hown p _ cap _ hx (by simp [boolCells]) hat (boolCells_one _) (by unfold maxLen;omega) (by omega) hbase ?_;intro v' w' h1 h2 h3;refine h v' w' ?_ h2 h3;unfold OwnB;rw [List.length_append,show boolCells (xs++ys)=boolCells xs++boolCells ys by simp [boolCells]];exact h1
theorem stepB {w:World} {ops:Array Oper} {o:Oper} {a:Act} {K:Act→World→Prop} {Q:Exit→Act→World→Prop} {E:Prop} (hgd:o.guard=none) (s x:Operand)
  (ho:o.op=.call { callee:=.builtin .append,args:=#[s,x],argTypes:=#[93,93] }) (base:Nat) (v:Value) (xs:List Bool) (hs:a.eval s=v) (hown:OwnB w base v xs)
  (u:Value) (ys:List Bool) (hx:a.eval x=u) (hu:Bools w u ys) (hbase:base≤w.heap.size) (hlen:xs.length+ys.length≤2147483648)
  (h:∀ v' w',OwnB w' base v' (xs++ys)→w.grownBy w' v.ownBlock→(∀ k,v.ownBlock=some k→base≤k)→K (a.put o.dst v') w'):if Region.wanted o (yielded ops a.tmps)=true then Oper.wp Tryz.prog o a w K Q else E:=by
 rw [if_pos (by simp [Region.wanted,hgd])];exact appBK s x ho base v xs hs hown u ys hx hu hbase hlen h
theorem Bools.lit1 (w:World) (x:Bool):Bools (w.alloc (.cells #[.bool x] 4)) (.slice (some ⟨w.heap.size,0,none⟩) 1 1) [x]:=by
 refine ⟨_,1,rfl,by simp,by simp [maxLen],?_,by simp⟩;intro j hj;simp [boolCells] at hj;subst hj;exact ⟨_,_,rfl,by simp [boolCells]⟩
theorem OwnB.nil (w:World) (B:Nat):OwnB w B (.slice none 0 0) []:=World.ownsRow_nil w B _ 1
theorem OwnB.len {w:World} {B:Nat} {v:Value} {a:List Bool} (h:OwnB w B v a):∀ k,v.ownBlock=some k→B≤k∧k<w.heap.size:=World.ownsRow.lt h
theorem OwnB.shape {w:World} {B:Nat} {v:Value} {a:List Bool} (h:OwnB w B v a) (hp:0<a.length):∃ g cap,v=.slice (some ⟨g,0,none⟩) a.length cap∧B≤g∧g<w.heap.size∧a.length≤cap∧cap≤maxLen:=by
 rcases h.2 with ⟨_,h0⟩ | ⟨g,cap,cur,rfl,hb,hg,hn,hm,_⟩
 ·omega
 ·exact ⟨g,cap,rfl,hb,(Array.getElem?_eq_some_iff.1 hg).1,hn,hm⟩
theorem OwnB.cell {w:World} {B:Nat} {g n cap:Nat} {a:List Bool} (h:OwnB w B (.slice (some ⟨g,0,none⟩) n cap) a) (i:Nat) (hi:i<a.length):
  w.cell? ⟨g,i,none⟩=some (.bool a[i])∧w.frozen? ⟨g,i,none⟩=false:=by
 obtain ⟨g',cap',hv,_⟩:=h.shape (by omega)
 cases hv
 have h':w.ownsRow B 4 1 (.slice (some ⟨g,0,none⟩) a.length cap) a.length (boolCells a):=h;refine ⟨?_,h'.frozenAt i⟩;rw [h'.cellAt i (by omega)];simp [boolCells,hi]
theorem OwnB.store {w:World} {B:Nat} {g n cap:Nat} {a:List Bool} (h:OwnB w B (.slice (some ⟨g,0,none⟩) n cap) a) (i:Nat) (hi:i<a.length) (x:Bool):
  OwnB (w.setCell ⟨g,i,none⟩ (.bool x)) B (.slice (some ⟨g,0,none⟩) n cap) (a.set i x)∧w.grownBy (w.setCell ⟨g,i,none⟩ (.bool x)) (some g):=by
 obtain ⟨g',cap',hv,_⟩:=h.shape (by omega)
 cases hv
 have h':w.ownsRow B 4 1 (.slice (some ⟨g,0,none⟩) a.length cap) a.length (boolCells a):=h;have:=h'.stored i (.bool x);refine ⟨?_,this.2⟩;unfold OwnB;rw [List.length_set,show boolCells (a.set i x)=(boolCells a).set i (.bool x) by simp [boolCells,List.map_set]];exact this.1
theorem NdsL.shapeL {w:World} {v:Value} {xs:List (List Nd)} (h:NdsL w v xs):∃ p n c,v=.slice p n c:=by
 obtain ⟨p,c,e,_⟩:=h;exact ⟨p,_,c,e⟩
end Go.Proofs.YtbccmdfdclomiaaGreatDoor
