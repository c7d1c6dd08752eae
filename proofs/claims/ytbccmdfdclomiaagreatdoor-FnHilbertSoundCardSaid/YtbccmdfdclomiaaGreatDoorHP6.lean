import Derived.Test.YtbccmdfdclomiaaGreatDoorHSH
/- own -/
namespace Go.Proofs.YtbccmdfdclomiaaGreatDoor
set_option maxRecDepth 20000
set_option maxHeartbeats 8000000
open Go.RowKit
theorem l02Equal_any (a b:List Nd) (va vb:Value) (w:World) (hva:Nds w va a) (hvb:Nds w vb b):
  Calls Tryz.prog 71 #[va,vb] w fun e w'=>e=.returned (.bool (decide (a=b)))∧Keeps w w':=by
 have hva0:=hva;have hvb0:=hvb;obtain ⟨pa,ca,rfl,hlea,hmxa,_,hlena⟩:=hva;obtain ⟨pb,cb,rfl,hleb,hmxb,_,hlenb⟩:=hvb;unfold maxLen at hmxa hmxb
 by_cases hl:a.length=b.length
 ·have hl':((a.length:Int) != (b.length:Int))=false:=by simp [hl]
  have HL:=hid hl;clear hl;go_enter Tryz.func71,Tryz.ntmps71;go_wp2
  go_loopw [4,5] (fun r i' wr=>∃ k:Nat,k≤a.length∧a.take k=b.take k∧Keeps w wr∧i'=.int .i64 k∧r=.bool false) (fun _ i _=>a.length-(intOf i).toNat)
  case atStart=>exact ⟨0,by omega,rfl,Keeps.refl w,rfl,rfl⟩
  case round=>
   obtain ⟨k,hk,htk,kw,rfl,rfl⟩:=hrel;have HT:=hid htk;clear htk;clear hl'
   by_cases hlt:k<a.length
   ·have hltb:k<b.length:=by have:=HL.out;omega
    obtain ⟨_,_,e1,_,_,hata,_⟩:=hva0.keeps kw.drew;obtain ⟨_,_,e2,_,_,hatb,_⟩:=hvb0.keeps kw.drew
    cases e1;cases e2
    obtain ⟨b1,o1,rfl,h1,h2⟩:=hata.nd k hlt;obtain ⟨b2,o2,rfl,h3,h4⟩:=hatb.nd k hltb;clear hata hatb hva0 hvb0
    have hlt':(k:Int)<a.length:=by omega
    have hltb':(k:Int)<b.length:=by omega
    by_cases he:a[k]=b[k]
    ·have hk2:a[k].k=b[k].k:=by rw [he]
     have hs2:a[k].s=b[k].s:=by rw [he]
     rw [hk2] at h1;rw [hs2] at h2;have HE:=hid he;clear he hk2 hs2;go_wp2_with fail
     go_region
     go_wp2;go_roundw
     case rel=>exact ⟨k+1,by omega,by rw [List.take_succ_eq_append_getElem hlt,List.take_succ_eq_append_getElem hltb,HT.out,HE.out],kw.drew,by go_num,rfl⟩
     case measure=>simp [intOf];omega
    ·have hne:decide (a=b)=false:=by rw [decide_eq_false_iff_not];rintro rfl;exact he rfl
     have HN:=hid hne;clear hne
     have hks:¬(a[k].k=b[k].k∧a[k].s=b[k].s):=fun ⟨g1,g2⟩=>he (by cases hx:a[k];cases hy:b[k];simp [hx,hy] at g1 g2;simp [g1,g2])
     clear he;generalize a[k].k=x1 at*;generalize a[k].s=x2 at*;generalize b[k].k=y1 at*;generalize b[k].s=y2 at*
     by_cases hx:x1=y1
     ·have hx2:¬x2=y2:=fun e=>hks ⟨hx,e⟩
      subst hx;clear hks;go_wp2_with fail
      go_region
      go_wp2;go_ret;exact ⟨ret_bool HN.out.symm,kw.drew⟩
     ·clear hks
      go_wp2_with fail
      go_region
      go_wp2;go_ret;exact ⟨ret_bool HN.out.symm,kw.drew⟩
   ·go_wp2
    go_ret;refine ⟨ret_bool ?_,kw⟩
    symm;rw [decide_eq_true_eq]
    have h1:=HL.out;have h2:=HT.out;rw [List.take_of_length_le (by omega),List.take_of_length_le (by omega)] at h2;exact h2
 ·have hl':((a.length:Int) != (b.length:Int))=true:=by simp;omega
  have HL:=hid hl;clear hl;go_enter Tryz.func71,Tryz.ntmps71;go_wp2;go_ret;refine ⟨ret_bool ?_,Keeps.refl _⟩
  symm;rw [decide_eq_false_iff_not]
  rintro rfl;exact HL.out rfl
def ImR (w:World) (B:Nat) (v:Value) (σ:Nat→Option Fm):Prop:=
 ∃ vs,w.ownsRow B 34 1 v 6 vs∧∀ i,i<6→∃ u a,vs[i]? = some u∧OwnN w B u a∧(∀ f,σ i=some f→a=f.enc)∧a.length≤1000
def knL (σ:Nat→Option Fm):List Bool:=(List.range 6).map fun i=>(σ i).isSome
theorem knL_set (σ:Nat→Option Fm) (i:Nat) (f:Fm):(knL σ).set i true=knL (bindO σ i f):=by
 refine List.ext_getElem (by simp [knL]) fun j h1 h2=>?_
 simp only [List.getElem_set,knL,List.getElem_map,List.getElem_range,bindO]
 by_cases e:i=j
 ·rw [if_pos e,if_pos e.symm];rfl
 ·rw [if_neg e,if_neg (fun h=>e h.symm)]
theorem knL_get (σ:Nat→Option Fm) (i:Nat) (h:i<(knL σ).length):(knL σ)[i]=(σ i).isSome:=by simp [knL]
theorem knL_len (σ:Nat→Option Fm):(knL σ).length=6:=by simp [knL]
theorem ImR.keeps {w w':World} {B:Nat} {v:Value} {σ:Nat→Option Fm} (h:ImR w B v σ) (k:Keeps w w'):ImR w' B v σ:=by
 obtain ⟨vs,h1,h2⟩:=h;refine ⟨vs,own_keeps h1 k,fun i hi=>?_⟩;obtain ⟨u,a,e,h1,h2⟩:=h2 i hi;exact ⟨u,a,e,h1.keeps k,h2⟩
theorem ImR.mono {w:World} {B B':Nat} {v:Value} {σ:Nat→Option Fm} (h:ImR w B v σ) (k:B'≤B):ImR w B' v σ:=by
 obtain ⟨vs,h1,h2⟩:=h;refine ⟨vs,own_mono h1 k,fun i hi=>?_⟩;obtain ⟨u,a,e,h1,h2⟩:=h2 i hi;exact ⟨u,a,e,h1.mono k,h2⟩
theorem ImR.sh {w:World} {B:Nat} {v:Value} {σ:Nat→Option Fm} (h:ImR w B v σ):∃ g cap,v=.slice (some ⟨g,0,none⟩) 6 cap∧B≤g∧g<w.heap.size∧6≤cap∧cap≤maxLen:=by
 obtain ⟨vs,h1,h2⟩:=h
 rcases h1.2 with ⟨_,h0⟩ | ⟨g,cap,cur,e,hb,hg,hn,hm,_⟩
 ·cases h0
 ·exact ⟨g,cap,e,hb,(Array.getElem?_eq_some_iff.1 hg).1,hn,hm⟩
theorem ImR.get {w:World} {B g cap:Nat} {σ:Nat→Option Fm} (h:ImR w B (.slice (some ⟨g,0,none⟩) 6 cap) σ) (i:Nat) (hi:i<6):
  ∃ u a,w.cell? ⟨g,i,none⟩=some u∧w.frozen? ⟨g,i,none⟩=false∧OwnN w B u a∧(∀ f,σ i=some f→a=f.enc)∧a.length≤1000:=by
 obtain ⟨vs,h1,h2⟩:=h;obtain ⟨u,a,e,h⟩:=h2 i hi;have hl:vs.length=6:=h1.1;refine ⟨u,a,?_,h1.frozenAt i,h⟩;rw [h1.cellAt i (by omega)]
 simpa [show i<vs.length by omega] using e
theorem ImR.set {w:World} {B g cap:Nat} {σ:Nat→Option Fm} {u:Value} {f:Fm} (h:ImR w B (.slice (some ⟨g,0,none⟩) 6 cap) σ) (i:Nat) (hi:i<6) (hu:OwnN w B u f.enc) (hl:f.enc.length≤1000):
  ImR (w.setCell ⟨g,i,none⟩ u) B (.slice (some ⟨g,0,none⟩) 6 cap) (bindO σ i f)∧w.grownBy (w.setCell ⟨g,i,none⟩ u) (some g)∧(∀ (B':Nat) (y:Value) (ks:List Bool),OwnB w B' y ks→OwnB (w.setCell ⟨g,i,none⟩ u) B' y ks):=by
 obtain ⟨vs,h1,h2⟩:=h;have hl2:vs.length=6:=h1.1;have hst:=h1.stored i u
 have stay:∀ {y:Value} {b:List Nd},OwnN w B y b→OwnN (w.setCell ⟨g,i,none⟩ u) B y b:=fun hy=>hy.touch (Touch.grown hst.2) (fun j hj e=>type_ne h1 hy tyne (k:=j) (by cases e;rfl) hj)
 refine ⟨⟨vs.set i u,hst.1,fun j hj=>?_⟩,hst.2,fun B' y ks hy=>own_touch hy (Touch.grown hst.2) (fun j hj e=>type_ne h1 hy (by decide) (k:=j) (by cases e;rfl) hj)⟩
 by_cases e:i=j
 ·subst e
  refine ⟨u,f.enc,by rw [List.getElem?_set_self (by omega)],stay hu,fun f' h=>?_,hl⟩;simp [bindO] at h;rw [h]
 ·obtain ⟨y,a,ey,h1,h2,h3⟩:=h2 j hj
  refine ⟨y,a,by rw [List.getElem?_set_ne e];exact ey,stay h1,fun f' h=>h2 f' ?_,h3⟩;unfold bindO at h;rwa [if_neg (fun e2=>e e2.symm)] at h
theorem ImR.beside {w w':World} {B h:Nat} {v y:Value} {σ:Nat→Option Fm} {ks:List Bool} {B':Nat} (hI:ImR w B v σ) (ho:OwnB w B' y ks) (hy:y.ownBlock=some h) (k:w.grownBy w' (some h)):ImR w' B v σ:=by
 obtain ⟨vs,h1,h2⟩:=hI;refine ⟨vs,own_touch h1 (Touch.grown k) (fun j hj e=>type_ne ho h1 (by decide) (k:=j) (by cases e;exact hy) hj),fun i hi=>?_⟩;obtain ⟨u,a,e,g1,g2⟩:=h2 i hi;exact ⟨u,a,e,g1.touch (Touch.grown k) (fun j hj e=>type_ne ho g1 (by decide) (k:=j) (by cases e;exact hy) hj),g2⟩
theorem OwnL.imr {w:World} {B:Nat} {v:Value} (h:OwnL w B v (idL 6)):ImR w B v (fun _=>none):=by
 obtain ⟨vs,ho,hr,_⟩:=h;rw [idL_len] at ho;refine ⟨vs,ho,fun i hi=>?_⟩;have hl:=hr.1;rw [idL_len] at hl;have:=hr.2 i (by omega) (by rw [idL_len];exact hi);refine ⟨vs[i]'(by omega),_,List.getElem?_eq_getElem (by omega),this,?_,?_⟩
 ·intro f h;cases h
 ·simp [idL,Fm.enc]
theorem madeB6:(madeCells (Value.cells (.bool false)) (6*1)).toList=boolCells (knL fun _=>none):=by
 rw [Nat.mul_one,show Value.cells (.bool false)=#[.bool false] from rfl,toList_madeCells_one];rfl
theorem run_makeB6 (w:World):∃ w',(Instr.makeSlice 93 (.int .i64 6) (.int .i64 6)).run Tryz.prog w=.ok (.slice (some ⟨w.heap.size,0,none⟩) 6 6) w'∧OwnB w' w.heap.size (.slice (some ⟨w.heap.size,0,none⟩) 6 6) (knL fun _=>none)∧Keeps w w':=by
 obtain ⟨i0,hi,hz0,hz1,hz2⟩:=info_parts infoB;obtain ⟨w',hr,ho,hg⟩:=run_make_full (P:=Tryz.prog) w w.heap.size 93 4 i0 _ 1 Tryz.underlying93 hi hz0 hz1 .i64 .i64 6 (by rw [hz2];omega) (by unfold maxLen;omega) (Nat.le_refl _);refine ⟨w',hr,?_,(Keeps.refl w).grown hg (by simp)⟩;unfold OwnB;rw [knL_len,←madeB6];exact ho
noncomputable def mkB6 (w:World):World:=Classical.choose (run_makeB6 w)
theorem mkB6_run (w:World):(Instr.makeSlice 93 (.int .i64 6) (.int .i64 6)).run Tryz.prog w=.ok (.slice (some ⟨w.heap.size,0,none⟩) 6 6) (mkB6 w):=(Classical.choose_spec (run_makeB6 w)).1
theorem mkB6_own (w:World):OwnB (mkB6 w) w.heap.size (.slice (some ⟨w.heap.size,0,none⟩) 6 6) (knL fun _=>none):=(Classical.choose_spec (run_makeB6 w)).2.1
theorem mkB6_keeps (w:World):Keeps w (mkB6 w):=(Classical.choose_spec (run_makeB6 w)).2.2
theorem l03Match_any (s t:Fm) (hs:s.wf) (_hls:s.enc.length≤1000) (hlt:t.enc.length≤1000) (va vb:Value) (w:World) (hva:Nds w va s.enc) (hvb:Nds w vb t.enc):
  Calls Tryz.prog 156 #[va,vb] w fun e w'=>(∃ u,e=.returned (.tuple #[u,.bool (mtF (s.enc.length+1) [s] [t] (fun _=>none)).isSome]))∧Keeps w w':=by
 have HST0:=hid (MtSt.start (s:=s) (t:=t));have HOK:=hid (okNd_enc hs);generalize (mtF (s.enc.length+1) [s] [t] (fun _=>none)).isSome=R at*;generalize s.enc=a at*;generalize t.enc=b at*;clear hs;have hva0:=hva;have hvb0:=hvb;obtain ⟨p,ca,rfl,hla1,hla2,_⟩:=hva;obtain ⟨q,cb,rfl,hlb1,hlb2,_⟩:=hvb;have HMX:=hid hlb2;unfold maxLen at hla2 hlb2;have HVA:=hid (fun wz (kz:Keeps w wz)=>hva0.keeps kz);have HVB:=hid (fun wz (kz:Keeps w wz)=>hvb0.keeps kz);clear hva0 hvb0;go_enter Tryz.func156,Tryz.ntmps156
 go_upto_region 1 with fail
 go_cut [6,7] (fun im kn wx=>ImR wx w.heap.size im (fun _=>none)∧(∃ h,kn=.slice (some ⟨h,0,none⟩) 6 6∧OwnB wx w.heap.size kn (knL fun _=>none))∧Keeps w wx)
 case first=>
  have hmk:=fun wz=>mkB6_run wz
  have kd:=(Keeps.refl w).drew
  go_region_with (first | (go_at_call 81;refine (l03Self_any _).mono ?_;rintro e w1 ⟨vI,rfl,hI,kI⟩))
  all_goals go_wp2_with fail
  all_goals go_meet
  all_goals first
   | exact ⟨hI.imr.keeps (mkB6_keeps w1),⟨w1.heap.size,rfl,(mkB6_own w1).mono kI.size⟩,(kd.trans kI).trans (mkB6_keeps w1)⟩
   | exact ⟨hI.imr.mono (mkB6_keeps w.drew).size,⟨w.drew.heap.size,rfl,(mkB6_own w.drew).keeps kI⟩,(kd.trans (mkB6_keeps w.drew)).trans kI⟩
 case rest=>
  obtain ⟨hI0,⟨h,rfl,hK0⟩,kc⟩:=hcut;obtain ⟨g,cap,rfl,hg1,hg2,hc6,hcm⟩:=hI0.sh;unfold maxLen at hcm;have hhb:=(hK0.len h rfl).1;go_wp2_with fail
  go_loopw [8,9] (fun j' i' wr=>∃ (i j:Nat) (σ:Nat→Option Fm) (ts us:List Fm),j'=.int .i64 j∧i'=.int .i64 i∧MtSt R a b i j σ ts us∧ImR wr w.heap.size (.slice (some ⟨g,0,none⟩) 6 cap) σ∧OwnB wr w.heap.size (.slice (some ⟨h,0,none⟩) 6 6) (knL σ)∧Keeps w wr) (fun _ i _=>a.length-(intOf i).toNat)
  case atStart=>exact ⟨0,0,_,_,_,rfl,rfl,HST0.out,hI0,hK0,kc⟩
  case round=>
   obtain ⟨i,j,σ,ts,us,rfl,rfl,hst,hI,hK,kw⟩:=hrel;have hia:=hst.ia;have hjb:=hst.ib;clear HST0 hI0 hK0
   by_cases hi:i<a.length
   ·have hi':(i:Int)<a.length:=by omega
    obtain ⟨t1,ts',u1,us',rfl,rfl,hj,ea,eb,rb⟩:=hst.open hi
    have hj':(j:Int)<b.length:=by omega
    obtain ⟨_,_,e1,_,_,hata,_⟩:=HVA.out wr kw
    cases e1
    obtain ⟨b1,o1,rfl,c1,c2⟩:=hata.nd i hi;obtain ⟨_,_,e1,_,_,hatb,_⟩:=HVB.out wr kw
    cases e1
    obtain ⟨b2,o2,rfl,d1,d2⟩:=hatb.nd j hj;rw [List.getElem?_eq_getElem hi,Option.some.injEq] at ea;rw [List.getElem?_eq_getElem hj,Option.some.injEq] at eb;rw [ea] at c1 c2;rw [eb] at d1 d2;clear hata
    by_cases hk:t1.kind=0
    ·obtain ⟨v,rfl⟩:=(kind_var t1).1 hk
     have hv6:v<6:=by
      have h:=HOK.out a[i] (List.getElem_mem hi);rw [ea] at h;simp [okNd,Fm.kind,Fm.sym] at h;omega
     obtain ⟨hy,hn⟩:=hst.var hi;simp only [Fm.kind,Fm.sym] at c1 c2
     have hv0':(0:Int)≤v:=by omega
     have hv6':(v:Int)<6:=by omega
     have hB:b=b.take j++(u1.enc++us'.flatMap Fm.enc):=by rw [←rb,List.take_append_drop]
     have hul:j+u1.enc.length≤b.length:=by
      have:=congrArg List.length hB;simp only [List.length_append,List.length_take] at this;omega
     have hup:=Fm.enc_pos u1
     have HS:=hid (show skipInt 1 b j=((j+u1.enc.length:Nat):Int) from by
      have h:=skipInt_enc (b.take j) u1 (us'.flatMap Fm.enc);rw [←hB,List.length_take,Nat.min_eq_left (by omega)] at h
      rw [h];push_cast;rfl)
     have HP:=hid (fun wz (kz:Keeps w wz)=>(show Nds wz (.slice (some ⟨b2,o2+j*2,none⟩) u1.enc.length (cb-j)) u1.enc from by
      obtain ⟨_,_,e1,_,_,hat,_⟩:=HVB.out wz kz
      cases e1
      rw [hB] at hat
      exact Nds.sub (l:=b.take j) (m:=u1.enc) (r:=us'.flatMap Fm.enc) hat (by omega) (by simp;omega) rfl (by omega) (by have:=HMX.out;omega)))
     have HL2:=hid (fun q=>(l02Part_any b _ (j:Int) (wr.drewN q) (HVB.out _ (kw.drewN q)) (by omega) (by omega)).mono (fun e w' (he:e=.returned (.int .i64 (skipInt 1 b (j:Int).toNat))∧wr.drewN q=w')=>(⟨by rw [he.1,Int.toNat_natCast,HS.out],he.2⟩:e=.returned (.int .i64 ((j+u1.enc.length:Nat):Int))∧wr.drewN q=w')))
     have hcj:¬cb=j:=by omega
     obtain ⟨u0,a0,cu,fu,hu0,hσa,hal⟩:=hI.get v hv6;obtain ⟨ck,fk⟩:=hK.cell v (by rw [knL_len];exact hv6);rw [knL_get] at ck
     obtain ⟨pu,nu,qu,rfl⟩:∃ p n c,u0=.slice p n c:=by obtain ⟨p,c,e,_⟩:=At.of_own hu0;exact ⟨p,_,c,e⟩
     have HEQ:=hid (fun wz (kz:Keeps wr wz)=>l02Equal_any a0 u1.enc _ _ wz ((hu0.keeps kz).nds (by omega)) (HP.out wz (kw.trans kz)));have HOW:=hid (fun wz (kz:Keeps w wz)=>l02Own_any u1.enc _ wz (HP.out wz kz) (by omega));have HY:=hid hy;have HN:=hid hn;have HI:=hid hI;have HK:=hid hK;have HW:=hid kw;have HSA:=hid hσa;clear hy hn hst hI hK rb d1 d2 hia hB hatb hu0 HVA HVB hσa kw
     go_upto_region 12 with fail
     go_quiet (first | (go_at_call 109;refine quietS (HL2.out _)))
     clear HL2 HS;have kd:=(Keeps.refl wr).drewN nq
     go_upto_region 13 with fail
     have KD:=hid kd;have KW:=hid (HW.out.trans kd);have cu2:=kd.cell cu;have ck2:=kd.cell ck;have HI2:=hid (HI.out.keeps kd);have HK2:=hid (HK.out.keeps kd);obtain ⟨-,fk2⟩:=HK2.out.cell v (by rw [knL_len];exact hv6)
     have hul2:u1.enc.length≤1000:=by omega
     clear cu ck c1 c2 kd fu fk HI HK;have HEQ2:=hid (HEQ.out (wr.drewN nq) KD.out);generalize wr.drewN nq=wA at*
     -- what is done where the image fits
     have FIN:∀ w3,Keeps wA w3→∀ w5,w5=w3.setCell ⟨h,v,none⟩ (.bool true)→w3.frozen? ⟨h,v,none⟩=false∧OwnB w5 w.heap.size (.slice (some ⟨h,0,none⟩) 6 6) (knL (bindO σ v u1))∧ImR w5 w.heap.size (.slice (some ⟨g,0,none⟩) 6 cap) σ∧Keeps w w5:=fun w3 k3 w5 e5=>by
      subst e5;have hk3:=HK2.out.keeps k3;obtain ⟨h1,h2⟩:=hk3.store v (by rw [knL_len];exact hv6) true;rw [knL_set σ v u1] at h1;exact ⟨(hk3.cell v (by rw [knL_len];exact hv6)).2,h1,(HI2.out.keeps k3).beside hk3 rfl h2,(KW.out.trans k3).grown h2 (fun j hj=>by cases hj;exact hhb)⟩
     have HF:=hid FIN;clear FIN
     rcases hσ:σ v with _ | f
     ·rw [hσ] at ck2
      simp only [Option.isSome_none] at ck2;have HYY:=hid (HY.out (.inl hσ));clear HY HN HEQ HEQ2 HSA;obtain ⟨fz,hK5,hI5,kw5⟩:=HF.out wA (Keeps.refl _) _ rfl;have HK5:=hid hK5;have HI5:=hid hI5;have HKW:=hid kw5;clear hK5 hI5 kw5 HF fz;go_wp2_with fail;generalize wA.setCell ⟨h,v,none⟩ (.bool true)=w5 at*;clear fk2 ck2 cu2;refine (HOW.out w5 HKW.out).mono ?_;rintro e w6 ⟨v4,rfl,hv4,k4⟩;obtain ⟨hI7,gr7,hst7⟩:=(HI5.out.keeps k4).set v hv6 (hv4.mono HKW.out.size) hul2;obtain ⟨x4,a4,cg4,fg4,-⟩:=(HI5.out.keeps k4).get v hv6
      obtain ⟨p4,n4,q4,rfl⟩:∃ p n c,v4=.slice p n c:=by obtain ⟨p,c,e,_⟩:=At.of_own hv4;exact ⟨p,_,c,e⟩
      have hK7:=hst7 _ _ _ (HK5.out.keeps k4);have kw7:=(HKW.out.trans k4).grown gr7 (fun j hj=>by cases hj;exact hg1);go_wp2_with fail;go_roundw
      case rel=>exact ⟨i+1,j+u1.enc.length,_,_,_,by go_num,by go_num,HYY.out,hI7,hK7,kw7⟩
      case measure=>simp [intOf];omega
     ·rw [hσ] at ck2
      simp only [Option.isSome_some] at ck2;have ha0:=HSA.out f hσ;subst ha0
      by_cases hfu:f=u1
      ·subst hfu
       have HYY:=hid (HY.out (.inr hσ));rw [show decide (f.enc=f.enc)=true from by simp] at HEQ2;clear HY HN HEQ HSA;go_wp2_with fail;refine HEQ2.out.mono ?_;rintro e w3 ⟨rfl,k3⟩;obtain ⟨fz,hK5,hI5,kw5⟩:=HF.out w3 k3 _ rfl;have HK5:=hid hK5;have HI5:=hid hI5;have HKW:=hid kw5;have ck3:=k3.cell ck2;clear hK5 hI5 kw5 HF HEQ2 fk2 ck2 cu2;go_wp2_with fail;generalize w3.setCell ⟨h,v,none⟩ (.bool true)=w5 at*;clear fz ck3;refine (HOW.out w5 HKW.out).mono ?_;rintro e w6 ⟨v4,rfl,hv4,k4⟩;obtain ⟨hI7,gr7,hst7⟩:=(HI5.out.keeps k4).set v hv6 (hv4.mono HKW.out.size) hul2;obtain ⟨x4,a4,cg4,fg4,-⟩:=(HI5.out.keeps k4).get v hv6
       obtain ⟨p4,n4,q4,rfl⟩:∃ p n c,v4=.slice p n c:=by obtain ⟨p,c,e,_⟩:=At.of_own hv4;exact ⟨p,_,c,e⟩
       have hK7:=hst7 _ _ _ (HK5.out.keeps k4);have kw7:=(HKW.out.trans k4).grown gr7 (fun j hj=>by cases hj;exact hg1);go_wp2_with fail;go_roundw
       case rel=>exact ⟨i+1,j+f.enc.length,_,_,_,by go_num,by go_num,HYY.out,hI7,hK7,kw7⟩
       case measure=>simp [intOf];omega
      ·have hNN:=HN.out (by rw [hσ];rintro (h | h);cases h;exact hfu (Option.some.inj h))
       subst hNN;rw [show decide (f.enc=u1.enc)=false from by rw [decide_eq_false_iff_not];exact fun e=>hfu (enc_inj e)] at HEQ2;clear HY HN HEQ HSA HF HOW;go_wp2_with fail;refine HEQ2.out.mono ?_;rintro e w3 ⟨rfl,k3⟩;go_wp2_with fail
       go_ret2
       exact ⟨⟨_,rfl⟩,KW.out.trans k3⟩
    ·have hkb:(t1.kind != 0)=true:=by simp [hk]
     obtain ⟨hy,hn⟩:=hst.node hi hj hk;have s0:=sym_zero hk;have HY:=hid hy;have HN:=hid hn;clear hy hn hst rb hjb hia hatb
     by_cases hkk:u1.kind=t1.kind
     ·have hss:u1.sym=t1.sym:=by rw [s0,sym_zero (by rw [hkk];exact hk)]
      have HYY:=hid (HY.out hkk);rw [hkk] at d1;rw [hss] at d2;have HI:=hid hI;have HK:=hid hK;have KW:=hid kw;have kA:=(Keeps.refl wr).drew;have x1:=kA.cell d1;have x2:=kA.cell d2;have x3:=kA.cell c1;have x4:=kA.cell c2;clear HY HN hss hkk s0 hk hI hK kw kA;generalize t1.kind=kk at*;generalize t1.sym=ks at*;go_wp2_with fail
      go_region
      go_wp2_with fail;go_roundw
      case rel=>exact ⟨i+1,j+1,_,_,_,by go_num,by go_num,HYY.out,HI.out.keeps (Keeps.refl _).drew,HK.out.keeps (Keeps.refl _).drew,KW.out.drew⟩
      case measure=>simp [intOf];omega
     ·have hR:=HN.out hkk
      subst hR;have KW:=hid kw;have kA:=(Keeps.refl wr).drew;have x1:=kA.cell d1;have x2:=kA.cell d2;have x3:=kA.cell c1;have x4:=kA.cell c2;clear HY HN s0 hk hI hK kw kA;generalize u1.kind=uk at*;generalize u1.sym=us at*;generalize t1.kind=kk at*;generalize t1.sym=ks at*;go_wp2_with fail
      go_region
      go_wp2_with fail
      go_ret2
      exact ⟨⟨_,rfl⟩,KW.out.drew⟩
   ·obtain rfl:i=a.length:=by omega
    obtain ⟨hR,hjl⟩:=hst.done rfl
    have hi':¬(a.length:Int)<a.length:=by omega
    subst hR;subst hjl;clear hst hia hjb;go_wp2_with fail
    go_ret2
    exact ⟨⟨_,rfl⟩,kw⟩
theorem bts_append (s t:ByteArray):bts (s++t)=bts s++bts t:=by simp [bts]
theorem isNeg_imp (a b:Fm):(Fm.imp a b).isNeg=b.isFls:=by cases b<;>rfl
theorem lev_imp (a b:Fm):(Fm.imp a b).lev=if b.isFls then 3 else 0:=rfl
theorem levelOf_any (t:Fm) (v:Value) (w:World) (hv:Nds w v t.enc):
  Calls Tryz.prog 160 #[v] w fun e w'=>e=.returned (.int .i64 t.lev)∧w=w':=by
 have hv0:=hv;obtain ⟨b,off,n,cap,rfl,h0,h1,h2,h3,hc,_⟩:=hv.root
 cases t with
 | imp x y=>
  replace hc:w.cell? ⟨b,off,none⟩=some (.int .i64 4):=hc
  have hn:=isNegation_any (.imp x y) _ _ hv0;rw [isNeg_imp] at hn;rw [lev_imp]
  cases hf:y.isFls
  ·rw [hf] at hn
   have HN:=hid hn;clear hn;go_enter Tryz.func160,Tryz.ntmps160
   go_wp2_with (go_at_call 161;refine HN.out.mono ?_;rintro e w' ⟨rfl,rfl⟩)
   go_ret;exact ⟨rfl,rfl⟩
  ·rw [hf] at hn
   have HN:=hid hn;clear hn;go_enter Tryz.func160,Tryz.ntmps160
   go_wp2_with (go_at_call 161;refine HN.out.mono ?_;rintro e w' ⟨rfl,rfl⟩)
   go_ret;exact ⟨rfl,rfl⟩
 | var _=>
  replace hc:w.cell? ⟨b,off,none⟩=some (.int .i64 0):=hc
  go_enter Tryz.func160,Tryz.ntmps160;go_wp2;go_ret;exact ⟨rfl,rfl⟩
 | fls=>
  replace hc:w.cell? ⟨b,off,none⟩=some (.int .i64 1):=hc
  go_enter Tryz.func160,Tryz.ntmps160;go_wp2;go_ret;exact ⟨rfl,rfl⟩
 | and _ _=>
  replace hc:w.cell? ⟨b,off,none⟩=some (.int .i64 2):=hc
  go_enter Tryz.func160,Tryz.ntmps160;go_wp2;go_ret;exact ⟨rfl,rfl⟩
 | or _ _=>
  replace hc:w.cell? ⟨b,off,none⟩=some (.int .i64 3):=hc
  go_enter Tryz.func160,Tryz.ntmps160;go_wp2;go_ret;exact ⟨rfl,rfl⟩
 | box _=>
  replace hc:w.cell? ⟨b,off,none⟩=some (.int .i64 5):=hc
  go_enter Tryz.func160,Tryz.ntmps160;go_wp2;go_ret;exact ⟨rfl,rfl⟩
 | dia _=>
  replace hc:w.cell? ⟨b,off,none⟩=some (.int .i64 6):=hc
  go_enter Tryz.func160,Tryz.ntmps160;go_wp2;go_ret;exact ⟨rfl,rfl⟩
theorem isFls_eq {b:Fm} (h:b.isFls=true):b=.fls:=by cases b<;>simp [Fm.isFls] at h<;>rfl
theorem lev3_cases {P:Fm→List UInt8→Prop} (t:Fm) (hw:t.wf) (hl:t.lev=3)
  (hv:∀ v,v<6→P (.var v) [UInt8.ofNat (112+v)]) (hf:P .fls [70]) (ht:P (.imp .fls .fls) [84])
  (hn:∀ a,a.wf→a.enc.length<(Fm.imp a .fls).enc.length→P (.imp a .fls) (126::a.txt 3))
  (hb:∀ a,a.wf→a.enc.length<(Fm.box a).enc.length→P (.box a) (91::93::a.txt 3))
  (hd:∀ a,a.wf→a.enc.length<(Fm.dia a).enc.length→P (.dia a) (60::62::a.txt 3))
  : (∀ x:Fm,x.wf→x.enc.length<t.enc.length→True)→P t t.body:=by
 intro _
 cases t with
 | var v=>exact hv v hw
 | fls=>exact hf
 | and a b=>simp [Fm.lev] at hl
 | or a b=>simp [Fm.lev] at hl
 | imp a b=>
  have hbf:b.isFls=true:=by
   simp only [Fm.lev] at hl;split at hl
   ·assumption
   ·omega
  obtain rfl:=isFls_eq hbf
  by_cases ha:a.isFls=true
  ·obtain rfl:=isFls_eq ha
   exact ht
  ·have:=hn a hw.1 (by simp only [Fm.enc,List.length_cons,List.length_append];omega)
   have hb2:(Fm.imp a .fls).body=126::a.txt 3:=by
    show (if Fm.fls.isFls=true then (if a.isFls=true then [84] else _) else _)=_
    rw [if_pos (show Fm.fls.isFls=true from rfl),if_neg ha];rfl
   rw [hb2];exact this
 | box a=>exact hb a hw (by simp only [Fm.enc,List.length_cons];omega)
 | dia a=>exact hd a hw (by simp only [Fm.enc,List.length_cons];omega)
theorem implReads (t:Fm) (hw:t.wf):Reads 179 0 t t.body:=by
 have:=(reads_all (fun l t X=>Reads (match l with | 0=>179 | 1=>212 | 2=>235 | _=>259) l t X)
  (fun t hw hl hs=>by
   have hs':∀ x:Fm,x.wf→x.enc.length<t.enc.length→Reads 259 3 x (x.txt 3):=hs
   clear hs
   refine lev3_cases (P:=fun u X=>(∀ x:Fm,x.wf→x.enc.length<u.enc.length→Reads 259 3 x (x.txt 3))→Reads 259 3 u X) t hw hl
    (fun v hv _=>iVar v hv) (fun _=>iFls) (fun _=>iTru) (fun a h1 h2 h=>iNot a (h a h1 h2)) (fun a h1 h2 h=>iBox a (h a h1 h2)) (fun a h1 h2 h=>iDia a (h a h1 h2)) (fun _ _ _=>trivial) hs')
  (fun t h=>iPar t h) (fun x0 xs h hs=>iAnd x0 xs h hs) (fun x0 xs h hs=>iOr x0 xs h hs) (fun t X h=>iImply0 t X h) (fun a b h1 h2=>iImply1 a b h1 h2) t.enc.length t (Nat.le_refl _) hw).1
 rw [Fm.txt0] at this;exact this
theorem specReads (t:Fm) (hw:t.wf):Reads 214 0 t t.body:=by
 have:=(reads_all (fun l t X=>Reads (match l with | 0=>214 | 1=>236 | 2=>260 | _=>274) l t X)
  (fun t hw hl hs=>by
   have hs':∀ x:Fm,x.wf→x.enc.length<t.enc.length→Reads 274 3 x (x.txt 3):=hs
   clear hs
   refine lev3_cases (P:=fun u X=>(∀ x:Fm,x.wf→x.enc.length<u.enc.length→Reads 274 3 x (x.txt 3))→Reads 274 3 u X) t hw hl
    (fun v hv _=>sVar v hv) (fun _=>sPrefix _ _ (.inl ⟨rfl,rfl⟩)) (fun _=>sPrefix _ _ (.inr (.inl ⟨rfl,rfl⟩))) (fun a h1 h2 h=>sPrefix _ _ (.inr (.inr (.inl ⟨a,rfl,rfl,h a h1 h2⟩))))
    (fun a h1 h2 h=>sPrefix _ _ (.inr (.inr (.inr (.inl ⟨a,rfl,rfl,h a h1 h2⟩))))) (fun a h1 h2 h=>sPrefix _ _ (.inr (.inr (.inr (.inr (.inl ⟨a,rfl,rfl,h a h1 h2⟩)))))) (fun _ _ _=>trivial) hs')
  (fun t h=>sPrefix t _ (.inr (.inr (.inr (.inr (.inr ⟨rfl,h⟩)))))) (fun x0 xs h hs=>sAnd x0 xs h hs) (fun x0 xs h hs=>sOr x0 xs h hs) (fun t X h=>sImply0 t X h) (fun a b h1 h2=>sImply1 a b h1 h2) t.enc.length t (Nat.le_refl _) hw).1
 rw [Fm.txt0] at this;exact this
theorem RdAt.new (w:World) (s:ByteArray) (T:TypeId) (hs:s.size≤2147483648):RdAt (w.alloc (.cells #[.string s,.int .i64 0,.bool false] T)) w.heap.size s 0 false:=
 ⟨by simp,by simp,by simp,by simp,by simp,Nat.zero_le _,hs⟩
theorem l02Read_any (t:Fm) (hw:t.wf) (s:ByteArray) (w:World) (hb:bts s=t.body) (hs:s.size≤2147483648) (hl:t.enc.length≤100000000):
  Calls Tryz.prog 180 #[.string s] w fun e w'=>∃ v,e=.returned (.tuple #[v,.int .i64 (-1)])∧OwnN w' w.heap.size v t.enc∧Keeps w w':=by
 have h0:=RdAt.new w s 222 hs
 have hlen:t.body.length=s.size:=by rw [←hb];show s.data.toList.length=s.data.size;simp
 have HR:=hid (specReads t hw _ _ s 0 [] h0 (by simpa using hb) ⟨fun _=>by simp,fun _=>by simp,fun _=>by simp⟩ hl)
 have hlt:decide ((s.size:Int)<s.size)=false:=by simp
 have k0:=(Keeps.refl w).alloc (.cells #[.string s,.int .i64 0,.bool false] 222);have HL:=hid hlen;clear hlen;clear hb h0;go_enter Tryz.func180,Tryz.ntmps180;go_wp2_with fail;refine HR.out.mono ?_;rintro e w1 ⟨v1,rfl,hv1,h1,g1⟩;rw [Nat.zero_add,HL.out] at h1;have kw:=k0.grown g1 (fun k hk=>by cases hk;exact Nat.le_refl _);obtain ⟨c0,c1,c2,f1,f2,le,sz⟩:=h1;go_wp2_with fail
 go_ret2
 exact ⟨_,rfl,hv1.mono (by simp),kw⟩
theorem ParseFormula_any (t:Fm) (hw:t.wf) (s:ByteArray) (w:World) (hb:bts s=t.body) (hs:s.size≤200) (hl:t.enc.length≤40):
  Calls Tryz.prog 145 #[.string s] w fun e w'=>∃ v,e=.returned (.tuple #[v,.int .i64 0,.int .i64 0])∧OwnN w' w.heap.size v t.enc∧Keeps w w':=by
 have h0:=RdAt.new w s 194 (by omega)
 have hlen:t.body.length=s.size:=by rw [←hb];show s.data.toList.length=s.data.size;simp
 have HR:=hid (implReads t hw _ _ s 0 [] h0 (by simpa using hb) ⟨fun _=>by simp,fun _=>by simp,fun _=>by simp⟩ (by omega))
 have hlt:decide ((s.size:Int)<s.size)=false:=by simp
 have hs':decide ((s.size:Int)>200)=false:=by simp;omega
 have k0:=(Keeps.refl w).alloc (.cells #[.string s,.int .i64 0,.bool false] 194);have HL:=hid hlen;clear hlen;clear hb h0;go_enter Tryz.func145,Tryz.ntmps145;go_wp2_with fail;refine HR.out.mono ?_;rintro e w1 ⟨v1,rfl,hv1,h1,g1⟩;rw [Nat.zero_add,HL.out] at h1;have kw:=k0.grown g1 (fun k hk=>by cases hk;exact Nat.le_refl _);obtain ⟨c0,c1,c2,f1,f2,le,sz⟩:=h1
 obtain ⟨p1,n1,q1,rfl⟩:∃ p n c,v1=.slice p n c:=by obtain ⟨p,c,e,_⟩:=At.of_own hv1;exact ⟨p,_,c,e⟩
 have hn1:n1=t.enc.length:=by obtain ⟨p,c,e,_⟩:=At.of_own hv1;cases e;rfl
 have hl1:decide ((n1:Int)>40)=false:=by simp;omega
 have HN1:=hid hn1;clear hn1;go_wp2_with fail;refine bodyPost_ret (v:=.tuple #[.slice p1 n1 q1,.int .i64 0,.int .i64 0]) (by simp [results,Tryz.results145,go_sem]) rfl ?_;exact ⟨_,rfl,hv1.mono (by simp),kw⟩
theorem parsed_any (t:Fm) (hw:t.wf) (s:ByteArray) (w:World) (hb:bts s=t.body) (hs:s.size≤200) (hl:t.enc.length≤40):
  Calls Tryz.prog 110 #[.string s] w (RetN w t.enc):=by
 have HR:=hid (ParseFormula_any t hw s w hb hs hl);clear hb hs hl;go_enter Tryz.func110,Tryz.ntmps110;go_wp2_with fail;refine HR.out.mono ?_;rintro e w1 ⟨v1,rfl,hv1,k1⟩;go_wp2_with fail;go_ret;exact ⟨_,rfl,hv1,k1⟩
end Go.Proofs.YtbccmdfdclomiaaGreatDoor
