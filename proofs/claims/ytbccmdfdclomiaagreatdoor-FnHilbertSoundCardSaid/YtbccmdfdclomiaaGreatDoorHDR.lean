import Derived.Test.YtbccmdfdclomiaaGreatDoorHAT
import Derived.Test.YtbccmdfdclomiaaGreatDoorHHL
/- own -/
namespace Go.Proofs.YtbccmdfdclomiaaGreatDoor
set_option maxRecDepth 20000
set_option maxHeartbeats 2000000
open Go.RowKit
theorem l13Bad_any (L:Nat) (hL:L≤9) (hv lv:Value) (H:List (List Nd)) (ls:List Ln) (hM:MidLn ls) (hll:ls.length≤1000) (hHl:H.length≤6) (w:World) (hHs:NdsL w hv H) (hLs:LnL w lv ls):
  Calls Tryz.prog 40 #[.string (syS L),hv,lv] w fun e w'=>e=.returned (.int .i64 (bdL L H ls))∧Keeps w w':=by
 have HFI:=hid (fun k (hk:k<ls.length) (hok:∀ j (hj:j<ls.length),j<k→okL L H (ls.take j) ls[j]=true) wz (kz:Keeps w wz)=>l13Fine_any L hL hv lv H ls k hk hM hll hHl (fun j hj=>hok j (by omega) hj) wz (hHs.keeps kz) (hLs.keeps kz));have HST:=hid (fun i (h:i<ls.length)=>bdF_step L H ls i h)
 obtain ⟨R,hR0⟩:∃ R,bdL L H ls=R:=⟨_,rfl⟩
 have HB0:=hid (show R=bdF L H (ls.take 0) (ls.drop 0) from by rw [←hR0];simp [bdL]);have HR0:=hid hR0;have HE:=hid (show bdF L H (ls.take ls.length) (ls.drop ls.length) = -1 from by simp [bdF]);obtain ⟨p,n,c,rfl⟩:=hHs.shapeL;obtain ⟨pl,cl,rfl,hle,hmx,_⟩:=hLs.shape;clear hR0 hHs hLs;go_enter Tryz.func40,Tryz.ntmps40;go_wp2_with fail
 go_loopw [7] (fun k' wr=>∃ k:Nat,k≤ls.length∧k'=.int .i64 k∧R=bdF L H (ls.take k) (ls.drop k)∧(∀ j (hj:j<ls.length),j<k→okL L H (ls.take j) ls[j]=true)∧Keeps w wr) (fun k' _=>ls.length-(intOf k').toNat)
 case atStart=>exact ⟨0,by omega,rfl,HB0.out,fun j _ h=>by omega,Keeps.refl _⟩
 case round=>
  obtain ⟨k,hk,rfl,hR,hok,kw⟩:=hrel
  by_cases hlt:k<ls.length
  ·have hlt':(k:Int)<ls.length:=by omega
   rw [HST.out k hlt] at hR;have HF:=hid (HFI.out k hlt hok wr kw);have HOK:=hid hok;have HR:=hid hR;clear hok hR
   obtain ⟨b,hb⟩:∃ b,okL L H (ls.take k) ls[k]=b:=⟨_,rfl⟩
   rw [hb] at HF HR;have HBB:=hid hb;clear hb
   cases b
   ·have HR2:Hid (R=(k:Int)):=hid (by have h:=HR.out;simpa using h)
    clear HR;go_wp2_with fail;refine HF.out.mono ?_;rintro e w2 ⟨rfl,k2⟩;go_wp2_with fail;go_ret;rw [HR0.out];exact ⟨ret_int HR2.out.symm,kw.trans k2⟩
   ·have HR2:Hid (R=bdF L H (ls.take (k+1)) (ls.drop (k+1))):=hid (by have h:=HR.out;simpa using h)
    have HOK2:Hid (∀ j (hj:j<ls.length),j<k+1→okL L H (ls.take j) ls[j]=true):=hid (fun j hj hjk=>by
     by_cases e:j=k
     ·subst e;exact HBB.out
     ·exact HOK.out j hj (by omega))
    clear HR HOK HBB;go_wp2_with fail;refine HF.out.mono ?_;rintro e w2 ⟨rfl,k2⟩;go_wp2_with fail;go_roundw
    case rel=>exact ⟨k+1,by omega,by go_num,HR2.out,HOK2.out,kw.trans k2⟩
    case measure=>simp [intOf];omega
  ·obtain rfl:k=ls.length:=by omega
   have hlt':¬((ls.length:Nat):Int)<ls.length:=by omega
   rw [HE.out] at hR;have HR2:=hid hR;clear hR hok;go_wp2_with fail;go_ret;rw [HR0.out];exact ⟨ret_int HR2.out.symm,kw⟩
noncomputable def cdE (b:Bool) (L:Nat) (H:List (List Nd)) (ls:List Ln):Int:=if hcE L H≠0 then hcE L H else if cntB ls=false then 3 else if b=true∧0≤bdL L H ls then 5 else 0
theorem cdE_true (L:Nat) (H:List (List Nd)) (ls:List Ln):cdE true L H ls=prE L H ls:=by simp [cdE,prE]
theorem cdE_false (L:Nat) (H:List (List Nd)) (ls:List Ln):cdE false L H ls=fblE L H ls:=by simp [cdE,fblE]
theorem allFm_iff (H:List (List Nd)):allFm H=true↔∀ j (h:j<H.length),isFm H[j]=true:=by
 unfold allFm;rw [Bool.not_eq_true',List.any_eq_false];constructor
 ·intro h j hj
  have:=h H[j] (List.getElem_mem hj)
  simpa using this
 ·intro h x hx
  obtain ⟨j,hj,rfl⟩:=List.getElem_of_mem hx;simp [h j hj]
theorem l13Code_any (b:Bool) (L:Nat) (hL:L≤12) (hv lv:Value) (H:List (List Nd)) (ls:List Ln) (hM:MidLn ls) (hll:ls.length≤1000) (hHl:H.length≤6) (w:World) (hHs:NdsL w hv H) (hLs:LnL w lv ls):
  Calls Tryz.prog 34 #[.string (syS L),hv,lv,.bool b] w fun e w'=>e=.returned (.int .i64 (cdE b L H ls))∧Keeps w w':=by
 obtain ⟨R,hR⟩:∃ R,cdE b L H ls=R:=⟨_,rfl⟩
 have HR0:=hid hR;have HHS:=hid (fun wz (kz:Keeps w wz)=>hHs.keeps kz);have HBD:=hid (fun (h:L≤9) wz (kz:Keeps w wz)=>l13Bad_any L h hv lv H ls hM hll hHl wz (hHs.keeps kz) (hLs.keeps kz))
 obtain ⟨pH,cH,rfl,hleH,hmxH,hhl⟩:∃ p cap,hv=.slice p H.length cap∧H.length≤cap∧cap≤maxLen∧H.length≤2147483648:=by
  obtain ⟨p,cap,e,h1,h2,h3,_⟩:=hHs;exact ⟨p,cap,e,h1,h2,h3⟩
 obtain ⟨pl,cl,rfl,hle,hmx,_⟩:=hLs.shape;unfold maxLen at hmx hmxH
 by_cases h9:L≤9
 ·have HS:=hid (l13Schemes_any L h9 w)
  have HE:=hid (show R=if allFm H=true then (if cntB ls=false then 3 else if b=true∧0≤bdL L H ls then 5 else 0) else 1 from by
   rw [←hR];unfold cdE hcE;rw [if_pos h9]
   cases allFm H
   ·rfl
   ·rfl)
  have HB2:=hid (HBD.out h9)
  have hsl:0<(schS L).length:=by have h:=(lastS_le L).1;unfold schS;rw [List.length_append,List.length_map,List.length_range];omega
  have HAF:=hid (allFm_iff H);have HCB:Hid (cntB ls=decide (1≤ls.length∧ls.length≤200)):=hid rfl;generalize cntB ls=cb at*;generalize bdL L H ls=bd at*;clear hHs hLs hR HBD;go_enter Tryz.func34,Tryz.ntmps34;go_wp2_with fail;refine HS.out.mono ?_;rintro e w2 ⟨u,rfl,hu,k2⟩;obtain ⟨pu,cu,rfl,_⟩:=At.of_own hu;have hz:(((schS L).length:Int)==0)=false:=beq_eq_false_iff_ne.2 (by omega);generalize (schS L).length=sn at*;clear hu;go_wp2_with fail
  go_loopw [9] (fun i' wr=>∃ i:Nat,i≤H.length∧i'=.int .i64 i∧(∀ j (hj:j<H.length),j<i→isFm H[j]=true)∧Keeps w wr) (fun i' _=>H.length-(intOf i').toNat)
  case atStart=>exact ⟨0,by omega,rfl,fun j _ h=>by omega,k2⟩
  case round=>
   obtain ⟨i,hi,rfl,hal,kw⟩:=hrel;clear k2
   by_cases hlt:i<H.length
   ·have hlt':(i:Int)<H.length:=by omega
    obtain ⟨bH,oH,uk,epH,hck,hnk⟩:=(HHS.out wr kw).get i hlt;subst epH;obtain ⟨pk,nk,ck,rfl⟩:=hnk.shape;have HIS:=hid (l02Is_any H[i] _ wr hnk);have HAL:=hid hal;clear hal hnk
    obtain ⟨fb,hfb⟩:∃ fb,isFm H[i]=fb:=⟨_,rfl⟩
    rw [hfb] at HIS;have HFB:=hid hfb;clear hfb
    cases fb
    ·have HR2:=hid (show R=1 from by
      rw [HE.out,if_neg];intro h;have:=HAF.out.1 h i hlt;rw [HFB.out] at this
      cases this)
     clear HE;go_wp2_with fail;refine HIS.out.mono ?_;rintro e w3 ⟨rfl,rfl⟩;go_wp2_with fail;go_ret;rw [HR0.out];exact ⟨ret_int HR2.out.symm,kw⟩
    ·have HAL2:Hid (∀ j (hj:j<H.length),j<i+1→isFm H[j]=true):=hid (fun j hj hjk=>by
      by_cases e:j=i
      ·subst e;exact HFB.out
      ·exact HAL.out j hj (by omega))
     clear HAL HFB;go_wp2_with fail;refine HIS.out.mono ?_;rintro e w3 ⟨rfl,rfl⟩;go_wp2_with fail;go_roundw
     case rel=>exact ⟨i+1,by omega,by go_num,HAL2.out,kw⟩
     case measure=>simp [intOf];omega
   ·obtain rfl:i=H.length:=by omega
    have hlt':¬((H.length:Nat):Int)<H.length:=by omega
    have HE2:=hid (show R=(if cb=false then 3 else if b=true∧0≤bd then 5 else 0) from by rw [HE.out,if_pos (HAF.out.2 (fun j hj=>hal j hj hj))]);clear HE hal;have HB3:=hid (HB2.out wr kw);clear HB2
    by_cases hn0:ls.length=0
    ·have HR2:Hid (R=3):=hid (by rw [HE2.out,HCB.out,hn0];rfl)
     have hz0:((ls.length:Int)==0)=true:=by simp [hn0]
     clear HE2 HCB hn0;generalize ls.length=nl at*;go_wp2_with fail;go_ret;rw [HR0.out];exact ⟨ret_int HR2.out.symm,kw⟩
    ·have hz0:((ls.length:Int)==0)=false:=beq_eq_false_iff_ne.2 (by omega)
     by_cases hn2:200<ls.length
     ·have HR2:Hid (R=3):=hid (by rw [HE2.out,HCB.out,decide_eq_false (by omega)];rfl)
      have hz2:((ls.length:Int)>200):=by omega
      clear HE2 HCB hn0;generalize ls.length=nl at*;go_wp2_with fail;go_ret;rw [HR0.out];exact ⟨ret_int HR2.out.symm,kw⟩
     ·have hz2:¬((ls.length:Int)>200):=by omega
      have HE3:=hid (show R=(if b=true∧0≤bd then 5 else 0) from by rw [HE2.out,HCB.out,decide_eq_true (by omega)];simp);clear HE2 HCB hn0;generalize ls.length=nl at*
      cases b
      ·have HR2:Hid (R=0):=hid (by rw [HE3.out];simp)
       clear HE3;go_wp2_with fail;go_ret;rw [HR0.out];exact ⟨ret_int HR2.out.symm,kw⟩
      ·go_wp2_with fail
       refine HB3.out.mono ?_;rintro e w3 ⟨rfl,k3⟩
       by_cases hb:0≤bd
       ·have HR2:Hid (R=5):=hid (by rw [HE3.out];simp [hb])
        have hb':bd≥0:=hb;clear HE3;go_wp2_with fail;go_ret;rw [HR0.out];exact ⟨ret_int HR2.out.symm,kw.trans k3⟩
       ·have HR2:Hid (R=0):=hid (by rw [HE3.out];simp [hb])
        have hb':¬bd≥0:=hb;clear HE3;go_wp2_with fail;go_ret;rw [HR0.out];exact ⟨ret_int HR2.out.symm,kw.trans k3⟩
 ·have HS:=hid (l13Schemes_none L (by omega) w)
  have HR2:=hid (show R=2 from by rw [←hR];unfold cdE hcE;rw [if_neg h9];rfl);clear hHs hLs hR;go_enter Tryz.func34,Tryz.ntmps34;go_wp2_with fail;refine HS.out.mono ?_;rintro e w2 ⟨rfl,k2⟩;go_wp2_with fail;go_ret;rw [HR0.out];exact ⟨ret_int HR2.out.symm,k2⟩
theorem specFirstBadLine_any (L:Nat) (hL:L≤12) (hv lv:Value) (H:List (List Nd)) (ls:List Ln) (hM:MidLn ls) (hll:ls.length≤1000) (hHl:H.length≤6) (w:World) (hHs:NdsL w hv H) (hLs:LnL w lv ls):
  Calls Tryz.prog 10 #[.string (syS L),hv,lv] w fun e w'=>e=.returned (.tuple #[.int .i64 (fblR L H ls),.int .i64 (fblE L H ls)])∧Keeps w w':=by
 have HC:=hid (l13Code_any false L hL hv lv H ls hM hll hHl w hHs hLs);rw [cdE_false] at HC;have HBD:=hid (fun (h:L≤9) wz (kz:Keeps w wz)=>l13Bad_any L h hv lv H ls hM hll hHl wz (hHs.keeps kz) (hLs.keeps kz))
 obtain ⟨E,hE⟩:∃ E,fblE L H ls=E:=⟨_,rfl⟩
 have HE0:=hid hE;have HR:=hid (show fblR L H ls=if E=0 then bdL L H ls else 0 from by rw [←hE];rfl)
 have HL9:=hid (show E=0→L≤9 from fun h=>by
  rw [←hE] at h;unfold fblE at h
  split at h
  ·omega
  ·rename_i h0
   exact (hcE_zero (Classical.not_not.1 h0)).1)
 rw [hE] at HC;obtain ⟨p,n,c,rfl⟩:=hHs.shapeL;obtain ⟨pl,cl,rfl,hle,hmx,_⟩:=hLs.shape;clear hHs hLs hE;go_enter Tryz.func10,Tryz.ntmps10;go_wp2_with fail;refine HC.out.mono ?_;rintro e w2 ⟨rfl,k2⟩
 by_cases h0:E=0
 ·have HB2:=hid (HBD.out (HL9.out h0) w2 k2)
  have HR2:Hid (fblR L H ls=bdL L H ls):=hid (by rw [HR.out,if_pos h0]);subst h0;clear HR HBD HL9;go_wp2_with fail;refine HB2.out.mono ?_;rintro e w3 ⟨rfl,k3⟩;go_wp2_with fail
  go_ret2
  rw [HE0.out,HR2.out];exact ⟨rfl,k2.trans k3⟩
 ·have HR2:Hid (fblR L H ls=0):=hid (by rw [HR.out,if_neg h0])
  have h0':(E != 0)=true:=by simpa using h0
  clear HR HBD HL9;go_wp2_with fail
  go_ret2
  rw [HE0.out,HR2.out];exact ⟨rfl,k2⟩
theorem specHilbertConclusion_any (L:Nat) (hL:L≤12) (hv lv:Value) (H:List (List Nd)) (ls:List Ln) (hM:MidLn ls) (hll:ls.length≤1000) (hHl:H.length≤6) (w:World) (hHs:NdsL w hv H) (hLs:LnL w lv ls):
  Calls Tryz.prog 13 #[.string (syS L),hv,lv] w fun e w'=>(∃ u,e=.returned (.tuple #[u,.int .i64 (prE L H ls)])∧OwnN w' w.heap.size u (hcnR L H ls))∧Keeps w w':=by
 have HC:=hid (l13Code_any true L hL hv lv H ls hM hll hHl w hHs hLs);rw [cdE_true] at HC;have HLS:=hid (fun wz (kz:Keeps w wz)=>hLs.keeps kz);have HLF:=hid (fun h=>last_fm (L:=L) (H:=H) (ls:=ls) h)
 obtain ⟨E,hE⟩:∃ E,prE L H ls=E:=⟨_,rfl⟩
 have HE0:=hid hE;have HCR:=hid (show hcnR L H ls=if E=0 then (lastL ls).a else [] from by rw [←hE];rfl);rw [hE] at HC HLF;obtain ⟨p,n,c,rfl⟩:=hHs.shapeL;obtain ⟨pl,cl,rfl,hle,hmx,_⟩:=hLs.shape;unfold maxLen at hmx;clear hHs hLs hE;go_enter Tryz.func13,Tryz.ntmps13;go_wp2_with fail;refine HC.out.mono ?_;rintro e w2 ⟨rfl,k2⟩
 by_cases h0:E=0
 ·subst h0
  obtain ⟨m,hm,t,hw,ht,hl40⟩:=HLF.out (by first | rfl | trivial);obtain ⟨bl,ol,q,n1,c1,ep,⟨-,-,-,y3⟩,hn⟩:=(HLS.out w2 k2).get m (by omega);subst ep;rw [←lastL_at hm,ht] at hn;have HT:=hid (show hcnR L H ls=t.enc from by rw [←ht];simpa using HCR.out);have HOW:=hid (l02Own_any t.enc _ w2 hn (by omega))
  have hix:((m+1:Nat):Int)-1=(m:Int):=by omega
  have hml:(m:Int)<((m+1:Nat):Int):=by omega
  rw [hm] at hle ⊢;clear HLF HLS hn ht hm;go_wp2_with fail;refine HOW.out.mono ?_;rintro e w3 ⟨v,rfl,hv,k3⟩
  obtain ⟨pv,nv,cv,rfl⟩:∃ p n c,v=.slice p n c:=by obtain ⟨p,c,e,_⟩:=At.of_own hv;exact ⟨p,_,c,e⟩
  go_wp2_with fail
  go_ret2
  rw [HE0.out,HT.out];exact ⟨⟨_,rfl,hv.mono k2.size⟩,k2.trans k3⟩
 ·have h0':(E != 0)=true:=by simpa using h0
  clear HLF;go_wp2_with fail
  go_ret2
  rw [HE0.out,HCR.out,if_neg h0];exact ⟨⟨_,rfl,OwnN.nil _ _⟩,k2⟩
theorem us_all {L:Nat} {H:List (List Nd)} {ls:List Ln} (h:bdL L H ls = -1):∀ k,k≤ls.length→UsB H.length (usP (ls.take k))
 | 0,_=>by simpa [usP,usF] using UsB.nil H.length
 | k+1,hk=>by
  have ih:=us_all h k (by omega);have hok:=bdF_all h k (by omega);simp only [List.nil_append] at hok;rw [List.take_succ_eq_append_getElem (by omega),usP_snoc];exact ih.snoc (okL_pre hok).2
theorem wf_all {L:Nat} {H:List (List Nd)} {ls:List Ln} (h:bdL L H ls = -1):WfL H.length ls:=by
 have:=ok_wfl (L:=L) (H:=H) (Nat.le_refl ls.length) (fun j hj=>by
  have hok:=bdF_all h j hj
  simpa only [List.nil_append] using hok)
 rwa [List.take_length] at this
theorem filt_snoc (p:Nat→Bool) (i:Nat):(List.range (i+1)).filter p=(List.range i).filter p++(if p i then [i] else []):=by
 rw [List.range_succ,List.filter_append]
 cases h:p i<;>simp [h]
theorem specUsedHypotheses_any (L:Nat) (hL:L≤12) (hv lv:Value) (H:List (List Nd)) (ls:List Ln) (hM:MidLn ls) (hll:ls.length≤1000) (hHl:H.length≤6) (w:World) (hHs:NdsL w hv H) (hLs:LnL w lv ls):
  Calls Tryz.prog 8 #[.string (syS L),hv,lv] w fun e w'=>(∃ u,e=.returned (.tuple #[u,.int .i64 (prE L H ls)])∧OwnI w' w.heap.size u (zs (uhR L H ls)))∧Keeps w w':=by
 have HC:=hid (l13Code_any true L hL hv lv H ls hM hll hHl w hHs hLs);rw [cdE_true] at HC;have HDP:=hid (fun (h:prE L H ls=0) wz (kz:Keeps w wz)=>l13Depends_any H.length ls (wf_all (pr_zero h).2.2) (by omega) hll lv wz (hLs.keeps kz));have HUS:=hid (fun (h:prE L H ls=0)=>us_all (pr_zero h).2.2 ls.length (Nat.le_refl _));have HLF:=hid (fun h=>last_fm (L:=L) (H:=H) (ls:=ls) h)
 obtain ⟨E,hE⟩:∃ E,prE L H ls=E:=⟨_,rfl⟩
 have HE0:=hid hE;have HR:=hid (show uhR L H ls=if E=0 then getI [] (usP ls) ((ls.length:Int)-1) else [] from by rw [←hE];rfl);rw [hE] at HC HLF HDP HUS
 obtain ⟨pH,cH,rfl,hleH,hmxH,hhl⟩:∃ p cap,hv=.slice p H.length cap∧H.length≤cap∧cap≤maxLen∧H.length≤2147483648:=by
  obtain ⟨p,cap,e,h1,h2,h3,_⟩:=hHs;exact ⟨p,cap,e,h1,h2,h3⟩
 obtain ⟨pl,cl,rfl,hle,hmx,_⟩:=hLs.shape;clear hHs hLs hE;go_enter Tryz.func8,Tryz.ntmps8;go_wp2_with fail;refine HC.out.mono ?_;rintro e w2 ⟨rfl,k2⟩
 by_cases h0:E=0
 ·subst h0
  obtain ⟨m,hm,-⟩:=HLF.out (by first | rfl | trivial);have hus:=HUS.out (by first | rfl | trivial);rw [List.take_length] at hus;have HD:=hid (HDP.out (by first | rfl | trivial) w2 k2)
  have hmi:((ls.length:Int)-1)=(m:Int):=by omega
  have hdl:(dpP ls).length=ls.length:=(dp_us ls).1;have hdu:=dp_used ls (m:Int) H.length (fun z hz=>(hus (m:Int)).2 z hz)
  have HR2:=hid (show uhR L H ls=(List.range H.length).filter (fun z=>(getI [] (dpP ls) (m:Int)).contains z) from by
   rw [hdu];have h:=HR.out;simp only [if_true,hmi] at h
   exact h)
  have hgd:∀ (h:m<(dpP ls).length),getI [] (dpP ls) (m:Int)=(dpP ls)[m]:=fun h=>by
   unfold getI;rw [Int.toNat_natCast,List.getD_eq_getElem?_getD,List.getElem?_eq_getElem h];rfl
  have HGD:=hid hgd;have HDL:=hid hdl;have HMM:=hid hm
  have hnd:(getI [] (dpP ls) (m:Int)).length≤1000:=by
   have h1:=nodup_len (l:=getI [] (usP ls) (m:Int)) (n:=H.length) ((usP_asc ls (m:Int)).imp (fun {a b} h=>Nat.ne_of_lt h)) (fun z hz=>(hus (m:Int)).2 z hz)
   have hdb:∀ k,k≤ls.length→DpB H.length (dpP (ls.take k)):=fun k=>by
    induction k with
    | zero=>intro _;simpa [dpP,dpF] using DpB.nil H.length
    | succ k ih=>
     intro hk;have hok:=(wf_all (pr_zero HE0.out).2.2) k (by omega);rw [List.take_succ_eq_append_getElem (by omega),dpP_snoc];exact (ih (by omega)).snoc hok.2.2
   have h2:=(hdb ls.length (Nat.le_refl _)).len (m:Int);rw [List.take_length] at h2;omega
  have hm1:m≤1000:=by omega
  have hwm:wrap64 (m:Int)=m:=by unfold wrap64;omega
  clear HLF HUS HDP HR hus hdl hgd hdu hmi hm;go_wp2_with fail;refine HD.out.mono ?_;rintro e w3 ⟨vd,rfl,hvd,k3⟩;obtain ⟨pd,qd,rfl,_,_⟩:=hvd.shape;obtain ⟨bd,od,ud,epd,gd,hod⟩:=hvd.get m (by rw [HDL.out,HMM.out];omega);subst epd;rw [←HGD.out (by rw [HDL.out,HMM.out];omega)] at hod;rw [HDL.out,HMM.out]
  have hix:((m+1:Nat):Int)-1=(m:Int):=by omega
  have hml:(m:Int)<((m+1:Nat):Int):=by omega
  generalize getI [] (dpP ls) (m:Int)=D at*
  have hzl:(zs D).length≤2147483648:=by simp [zs];omega
  have HO:=hid (fun wz (kz:Keeps w3 wz)=>(hod.ints hzl).keeps kz);obtain ⟨pu,qu,rfl,_⟩:=At.of_own hod;have kA:=(Keeps.refl w3).alloc (.cells #[] 2);have hE0:=OwnI.empty w3;have K3:=hid (k2.trans k3);clear hvd hod hzl;go_wp2_with fail
  go_loopw [10,11] (fun o i' wr=>∃ i:Nat,i≤H.length∧i'=.int .i64 i∧OwnI wr w3.heap.size o (zs ((List.range i).filter fun z=>D.contains z))∧Keeps w3 wr) (fun _ i' _=>H.length-(intOf i').toNat)
  case atStart=>exact ⟨0,by omega,rfl,by simpa [zs] using hE0,kA⟩
  case round=>
   obtain ⟨i,hi,rfl,hO,kw⟩:=hrel;clear hE0 kA
   by_cases hlt:i<H.length
   ·have hlt':(i:Int)<H.length:=by omega
    have HHA:=hid (l01Has_any (zs D) (i:Int) _ wr (HO.out wr kw));rw [zs_has] at HHA;have HSN:=hid (filt_snoc (fun z=>D.contains z) i)
    have hfl:(zs ((List.range i).filter fun z=>D.contains z)).length≤1000:=by
     have:=List.length_filter_le (fun z=>D.contains z) (List.range i);simp only [zs,List.length_map];rw [List.length_range] at this;omega
    have HO2:=hid hO;have HKW:=hid kw;clear hO kw
    obtain ⟨X,hX⟩:∃ X,(List.range i).filter (fun z=>D.contains z)=X:=⟨_,rfl⟩
    rw [hX] at HSN hfl HO2;clear hX
    cases hcn:D.contains i
    ·rw [hcn] at HHA
     have HS2:=hid (show (List.range (i+1)).filter (fun z=>D.contains z)=X from by rw [HSN.out];show X++(if D.contains i=true then [i] else [])=X;rw [hcn];simp);clear hcn HSN;go_wp2_with fail;refine HHA.out.mono ?_;rintro e w4 ⟨rfl,rfl⟩;go_wp2_with fail;go_roundw
     case rel=>exact ⟨i+1,by omega,by go_num,by rw [HS2.out];exact HO2.out,HKW.out⟩
     case measure=>simp [intOf];omega
    ·rw [hcn] at HHA
     have HS2:=hid (show zs ((List.range (i+1)).filter (fun z=>D.contains z))=zs X++[(i:Int)] from by rw [HSN.out];show zs (X++(if D.contains i=true then [i] else []))=_;rw [hcn];simp [zs]);clear hcn HSN;go_wp2_with fail;refine HHA.out.mono ?_;rintro e w4 ⟨rfl,rfl⟩
     go_wp2_with (at_builtin;refine appI rfl _ _ rfl w3.heap.size _ (zs X) rfl (HO2.out.keeps ((Keeps.refl wr).alloc _)) _ [(i:Int)] rfl (Ints.lit1 wr i) (by have:=HKW.out.size;simp;omega) (by simp;omega) ?_;intro v5 w5 hv5 hg5 hr5;have k5:=(HKW.out.alloc (.cells #[.int .i64 (i:Int)] 2)).grown hg5 hr5)
     go_roundw
     case rel=>exact ⟨i+1,by omega,by go_num,by rw [HS2.out];exact hv5,k5⟩
     case measure=>simp [intOf];omega
   ·obtain rfl:i=H.length:=by omega
    have hlt':¬((H.length:Nat):Int)<H.length:=by omega
    have HO2:=hid hO;clear hO;go_wp2_with fail
    go_ret2
    rw [HE0.out,HR2.out];exact ⟨⟨_,rfl,HO2.out.mono K3.out.size⟩,K3.out.trans kw⟩
 ·have h0':(E != 0)=true:=by simpa using h0
  have HR2:=hid (show uhR L H ls=[] from by rw [HR.out,if_neg h0]);clear HLF HUS HDP HR;go_wp2_with fail
  go_ret2
  rw [HE0.out,HR2.out];exact ⟨⟨_,rfl,OwnI.nil _ _⟩,k2⟩
theorem likeInts_same (ss:List Int) (v v':Value) (w:World) (hv:Ints w v ss) (hv':Ints w v' ss):
  Calls Tryz.prog 11 #[v,v'] w fun e w'=>e=.returned (.bool true)∧Keeps w w':=by
 have hv0:=hv;have hv1:=hv';obtain ⟨p,cap,rfl,hle,hmx,_⟩:=hv;obtain ⟨p',cap',rfl,hle',hmx',_⟩:=hv';unfold maxLen at hmx hmx';have HV:=hid (fun wz (k:Keeps w wz)=>hv0.keeps k);have HW:=hid (fun wz (k:Keeps w wz)=>hv1.keeps k);clear hv0 hv1;go_enter Tryz.func11,Tryz.ntmps11;go_wp2_with fail
 go_loopw [4,5] (fun o i' wr=>∃ i:Nat,i≤ss.length∧i'=.int .i64 i∧o=.bool false∧Keeps w wr) (fun _ i' _=>ss.length-(intOf i').toNat)
 case atStart=>exact ⟨0,by omega,rfl,rfl,Keeps.refl w⟩
 case round=>
  obtain ⟨i,hi,rfl,rfl,kw⟩:=hrel
  by_cases hlt:i<ss.length
  ·have hlt':(i:Int)<ss.length:=by omega
   obtain ⟨_,_,e1,_,_,hat1,_⟩:=HV.out wr kw;obtain ⟨_,_,e2,_,_,hat2,_⟩:=HW.out wr kw
   cases e1
   cases e2
   obtain ⟨b1,o1,rfl,h1⟩:=hat1.int i hlt;obtain ⟨b2,o2,rfl,h2⟩:=hat2.int i hlt;clear hat1 hat2;generalize ss[i]=x at*;go_wp2_with fail
   go_quiet (fail)
   go_wp2_with fail;go_roundw
   case rel=>exact ⟨i+1,by omega,by go_num,rfl,kw.drewN _⟩
   case measure=>simp [intOf];omega
  ·have hlt':¬(i:Int)<ss.length:=by omega
   obtain rfl:i=ss.length:=by omega
   go_wp2_with fail;go_ret;exact ⟨rfl,kw⟩
theorem likeFormula5_any (a b:List Nd) (va vb:Value) (w:World) (hva:Nds w va a) (hvb:Nds w vb b):
  Calls Tryz.prog 14 #[va,vb] w fun e w'=>e=.returned (.bool (decide (a=b)))∧Keeps w w':=by
 have hva0:=hva;have hvb0:=hvb;obtain ⟨pa,ca,rfl,hlea,hmxa,_,hlena⟩:=hva;obtain ⟨pb,cb,rfl,hleb,hmxb,_,hlenb⟩:=hvb;unfold maxLen at hmxa hmxb
 by_cases hl:a.length=b.length
 ·have hl':((a.length:Int) != (b.length:Int))=false:=by simp [hl]
  have HL:=hid hl;clear hl;go_enter Tryz.func14,Tryz.ntmps14;go_wp2
  go_loopw [4,5] (fun r i' wr=>∃ k:Nat,k≤a.length∧a.take k=b.take k∧Keeps w wr∧i'=.int .i64 k∧r=.bool false) (fun _ i _=>a.length-(intOf i).toNat)
  case atStart=>exact ⟨0,by omega,rfl,Keeps.refl w,rfl,rfl⟩
  case round=>
   obtain ⟨k,hk,htk,kw,rfl,rfl⟩:=hrel;have HT:=hid htk;clear htk;clear hl'
   by_cases hlt:k<a.length
   ·have hltb:k<b.length:=by have:=HL.out;omega
    obtain ⟨_,_,e1,_,_,hata,_⟩:=hva0.keeps kw.drew;obtain ⟨_,_,e2,_,_,hatb,_⟩:=hvb0.keeps kw.drew
    cases e1;cases e2
    obtain ⟨b1,o1,rfl,h1,h2⟩:=hata.nd k hlt;obtain ⟨b2,o2,rfl,h3,h4⟩:=hatb.nd k hltb;clear hata hatb hva0 hvb0
    have hlt':(k:Int)<a.length:=by omega
    have hltb':(k:Int)<b.length:=by omega
    by_cases he:a[k]=b[k]
    ·have hk2:a[k].k=b[k].k:=by rw [he]
     have hs2:a[k].s=b[k].s:=by rw [he]
     rw [hk2] at h1;rw [hs2] at h2;have HE:=hid he;clear he hk2 hs2;go_wp2_with fail
     go_region
     go_wp2;go_roundw
     case rel=>exact ⟨k+1,by omega,by rw [List.take_succ_eq_append_getElem hlt,List.take_succ_eq_append_getElem hltb,HT.out,HE.out],kw.drew,by go_num,rfl⟩
     case measure=>simp [intOf];omega
    ·have hne:decide (a=b)=false:=by rw [decide_eq_false_iff_not];rintro rfl;exact he rfl
     have HN:=hid hne;clear hne
     have hks:¬(a[k].k=b[k].k∧a[k].s=b[k].s):=fun ⟨g1,g2⟩=>he (by cases hx:a[k];cases hy:b[k];simp [hx,hy] at g1 g2;simp [g1,g2])
     clear he;generalize a[k].k=x1 at*;generalize a[k].s=x2 at*;generalize b[k].k=y1 at*;generalize b[k].s=y2 at*
     by_cases hx:x1=y1
     ·have hx2:¬x2=y2:=fun e=>hks ⟨hx,e⟩
      subst hx;clear hks;go_wp2_with fail
      go_region
      go_wp2;go_ret;exact ⟨ret_bool HN.out.symm,kw.drew⟩
     ·clear hks
      go_wp2_with fail
      go_region
      go_wp2;go_ret;exact ⟨ret_bool HN.out.symm,kw.drew⟩
   ·go_wp2
    go_ret;refine ⟨ret_bool ?_,kw⟩
    symm;rw [decide_eq_true_eq]
    have h1:=HL.out;have h2:=HT.out;rw [List.take_of_length_le (by omega),List.take_of_length_le (by omega)] at h2;exact h2
 ·have hl':((a.length:Int) != (b.length:Int))=true:=by simp;omega
  have HL:=hid hl;clear hl;go_enter Tryz.func14,Tryz.ntmps14;go_wp2;go_ret;refine ⟨ret_bool ?_,Keeps.refl _⟩
  symm;rw [decide_eq_false_iff_not]
  rintro rfl;exact HL.out rfl
theorem big_any (v:Value) (n:Nat) (w:World) (hv:Bts w v n):Calls Tryz.prog 5 #[v] w fun e w'=>e=.returned (.bool (decide (4096<n)))∧w=w':=by
 obtain ⟨p,c,rfl,hc,hm,_⟩:=hv;unfold maxLen at hm;go_enter Tryz.func5,Tryz.ntmps5;go_wp2;go_ret;exact ⟨ret_bool (by rw [Bool.eq_iff_iff];simp;omega),rfl⟩
end Go.Proofs.YtbccmdfdclomiaaGreatDoor
