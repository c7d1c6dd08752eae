import Derived.Test.YtbccmdfdclomiaaGreatDoorHL4
/- own -/
namespace Go.Proofs.YtbccmdfdclomiaaGreatDoor
open Go.RowKit
theorem any_contains (a:List Int) (x:Int):(a.any fun y=>y==x)=a.contains x:=by
 rw [Bool.eq_iff_iff,List.any_eq_true,List.contains_iff_mem]
 exact ⟨fun ⟨y,hy,e⟩=>by
  have:y=x:=by simpa using e
  rwa [←this],fun h=>⟨x,h,by simp⟩⟩
theorem ok_wfl {L:Nat} {H:List (List Nd)} {ls:List Ln} {k:Nat} (hk:k≤ls.length) (h:∀ j (hj:j<k),okL L H (ls.take j) (ls[j]'(by omega))=true):WfL H.length (ls.take k):=fun i hi=>by
 have hik:i<k:=by simp at hi;omega
 have hg:(ls.take k)[i]=ls[i]'(by omega):=by simp
 rw [hg];obtain ⟨⟨h3,h4,_⟩,h2⟩:=okL_pre (h i hik);rw [usP_len,List.length_take,Nat.min_eq_left (by omega)] at h3 h4;exact ⟨h3,h4,h2⟩
set_option maxRecDepth 20000 in
set_option maxHeartbeats 16000000 in
theorem l13Fine_any (L:Nat) (hL:L≤9) (hv lv:Value) (H:List (List Nd)) (ls:List Ln) (k:Nat) (hk:k<ls.length) (hM:MidLn ls) (hll:ls.length≤1000) (hHl:H.length≤6) (hok:∀ j (hj:j<k),okL L H (ls.take j) (ls[j]'(by omega))=true) (w:World) (hHs:NdsL w hv H) (hLs:LnL w lv ls):
  Calls Tryz.prog 89 #[.string (syS L),hv,lv,.int .i64 k] w fun e w'=>e=.returned (.bool (okL L H (ls.take k) ls[k]))∧Keeps w w':=by
 have HWF:=hid (ok_wfl (Nat.le_of_lt hk) hok);have HHS:=hid (fun wz (kz:Keeps w wz)=>hHs.keeps kz);have HLS:=hid (fun wz (kz:Keeps w wz)=>hLs.keeps kz);have HMM:=hid hM
 have hlk:(ls.take k).length=k:=by simp;omega
 obtain ⟨pH,cH,rfl,hleH,hmxH,hhl⟩:∃ p cap,hv=.slice p H.length cap∧H.length≤cap∧cap≤maxLen∧H.length≤2147483648:=by
  obtain ⟨p,cap,e,h1,h2,h3,_⟩:=hHs;exact ⟨p,cap,e,h1,h2,h3⟩
 obtain ⟨pl,cl,rfl,hle,hmx,_⟩:=hLs.shape;unfold maxLen at hmx hmxH
 obtain ⟨⟨xr,xf,xs,xa⟩,hx⟩:∃ x,ls[k]=x:=⟨_,rfl⟩
 have hal:xa.length≤1000:=by
  have:=hM ls[k] (List.getElem_mem hk);rw [hx] at this;exact this
 have HR:Hid (okL L H (ls.take k) ls[k]=(isFm xa&&(if xr=1 then (decide (xs=0)&&((schS L).contains xf&&insL xf xa))
  else if xr=2 then (decide (xs=0)&&(inR xf 0 (H.length-1)&&decide (getI [] H xf=xa)))
  else if xr=3 then (inR xf 0 ((k:Int)-1)&&(inR xs 0 ((k:Int)-1)&&decide ((getI emL (ls.take k) xf).a=⟨4,0⟩::((getI emL (ls.take k) xs).a++xa))))
  else if xr=4 then (decide (L≠8∧L≠9)&&(inR xf 0 ((k:Int)-1)&&(decide (xs=0)&&(decide (getI [] (usP (ls.take k)) xf=[])&&decide (xa=⟨5,0⟩::(getI emL (ls.take k) xf).a)))))
  else false))):=hid (by rw [hx];unfold okL;rw [hlk])
 obtain ⟨R,hRR⟩:∃ R,okL L H (ls.take k) ls[k]=R:=⟨_,rfl⟩
 rw [hRR] at HR;have HRR:=hid hRR;obtain ⟨bl,ol,q,m,c,epl,⟨y0,y1,y2,y3⟩,hna⟩:=hLs.get k hk;rw [hx] at y0 y1 y2 hna
 simp only at y0 y1 y2 hna
 cases epl
 have hGE:∀ (j:Nat) (hj:j<k),getI emL (ls.take k) (j:Int)=ls[j]'(Nat.lt_trans hj hk):=fun j hj=>by
  unfold getI;rw [Int.toNat_natCast,List.getD_eq_getElem?_getD,List.getElem?_take_of_lt hj,List.getElem?_eq_getElem (by omega)];rfl
 have HGE:=hid hGE
 have hk':(k:Int)<ls.length:=by omega
 have hk2:k≤1000000:=by omega
 have HA:=hid (fun wz (kz:Keeps w wz)=>hna.keeps kz);have kA:=(Keeps.refl w).alloc (.cells #[.int .i64 xr,.int .i64 xf,.int .i64 xs,.slice q m c] 72)
 have b0:(w.alloc (.cells #[.int .i64 xr,.int .i64 xf,.int .i64 xs,.slice q m c] 72)).cell? ⟨w.heap.size,0,none⟩=some (.int .i64 xr):=by simp
 have b1:(w.alloc (.cells #[.int .i64 xr,.int .i64 xf,.int .i64 xs,.slice q m c] 72)).cell? ⟨w.heap.size,1,none⟩=some (.int .i64 xf):=by simp
 have b2:(w.alloc (.cells #[.int .i64 xr,.int .i64 xf,.int .i64 xs,.slice q m c] 72)).cell? ⟨w.heap.size,2,none⟩=some (.int .i64 xs):=by simp
 have b3:(w.alloc (.cells #[.int .i64 xr,.int .i64 xf,.int .i64 xs,.slice q m c] 72)).cell? ⟨w.heap.size,3,none⟩=some (.slice q m c):=by simp
 have hMl:=HMM;clear hHs hLs hM hx hGE hna hok hRR;go_enter Tryz.func89,Tryz.ntmps89
 go_upto_region 2 with fail
 have HK:=hid kA;clear kA y0 y1 y2 y3;generalize w.alloc (.cells #[.int .i64 xr,.int .i64 xf,.int .i64 xs,.slice q m c] 72)=w2 at*;have HIS:=hid (l02Is_any xa _ w2 (HA.out w2 HK.out));have HIN:=hid (fun y wz=>l01In_any y 0 ((k:Int)-1) wz);go_wp2_with fail;refine HIS.out.mono ?_;rintro e w3 ⟨rfl,rfl⟩;clear HIS
 cases hfm:isFm xa
 ·have HR2:Hid (R=false):=hid (by rw [HR.out,hfm];rfl)
  clear HR;go_wp2_with fail;go_ret;rw [HRR.out];exact ⟨ret_bool HR2.out.symm,HK.out⟩
 ·rw [hfm, Bool.true_and] at HR
  have HIR:=hid (fun y=>(inR_iff:inR y 0 ((k:Int)-1)=true↔_))
  obtain ⟨ea,hea⟩:∃ ea,inR xf 0 ((k:Int)-1)=ea:=⟨_,rfl⟩
  have HINF:=hid (HIN.out xf);rw [hea] at HINF HR;have HEA:=hid hea;clear hea;go_wp2_with fail;refine (HINF.out _).mono ?_;rintro e w3 ⟨rfl,rfl⟩;clear HINF;have kd:=(Keeps.refl w2).drew
  by_cases r1:xr=1
  ·subst r1
   rw [if_pos rfl] at HR
   by_cases hs:xs=0
   ·subst hs
    rw [decide_eq_true rfl,Bool.true_and] at HR;have HSC:=hid (fun wz=>l13Schemes_any L hL wz)
    have hsl:(schS L).length≤100:=by unfold schS;have:=lastS_le L;have:=moreS_len L;simp;omega
    have HLT:=hid (fun h=>schS_lt (L:=L) (z:=xf) h);have HCO:=hid (fun wz u (hu:Ints wz u (schS L))=>l01Has_any (schS L) xf u wz hu);rw [any_contains] at HCO;generalize (schS L).contains xf=cs at*
    cases cs
    ·have HR2:Hid (R=false):=hid (by rw [HR.out];rfl)
     have HSS:=hid (fun W (kW:Keeps w2 W)=>(⟨kW.cell b1,kW.cell b2,kW.cell b3⟩:W.cell? ⟨w.heap.size,1,none⟩=some (.int .i64 xf)∧W.cell? ⟨w.heap.size,2,none⟩=some (.int .i64 0)∧W.cell? ⟨w.heap.size,3,none⟩=some (.slice q m c)));clear HR HLT b1 b2 b3;go_wp2_with fail;refine wp_region_noPanic ?_;refine wp_region_held_drew (S:=(fun w'=>w'.cell? ⟨w.heap.size,1,none⟩=some (.int .i64 xf)∧w'.cell? ⟨w.heap.size,2,none⟩=some (.int .i64 0)∧w'.cell? ⟨w.heap.size,3,none⟩=some (.slice q m c))) (by kernel_rfl) (HSS.out _ kd) (fun hHeld=>?_);refine wpAnyH_take (i:=0) (oi:=⟨some 29,_,_,_,_,none⟩) (v:=?v0a) rfl (by kernel_rfl) (by kernel_rfl) (by kernel_rfl) (fun _ _ _ h=>h) (Or.inl ⟨by rfl,?h0a⟩) (by assumption) ?r0a
     case h0a=>(intro w hSw;(try dsimp only at hSw);go_simp;try with_reducible rfl)
     try simp only [Act.put,List.setIfInBounds_toArray,List.set_cons_zero,List.set_cons_succ]
     refine wpAnyH_take (i:=1) (oi:=⟨some 30,_,_,_,_,none⟩) (v:=?v1a) rfl (by kernel_rfl) (by kernel_rfl) (by kernel_rfl) (fun _ _ _ h=>h) (Or.inl ⟨by rfl,?h1a⟩) (by assumption) ?r1a
     case h1a=>(intro w hSw;(try dsimp only at hSw);go_simp;try with_reducible rfl)
     try simp only [Act.put,List.setIfInBounds_toArray,List.set_cons_zero,List.set_cons_succ]
     refine wpAnyH_take (i:=2) (oi:=⟨some 31,_,_,_,_,none⟩) (v:=?v2a) rfl (by kernel_rfl) (by kernel_rfl) (by kernel_rfl) (fun _ _ _ h=>h) (Or.inl ⟨by rfl,?h2a⟩) (by assumption) ?r2a
     case h2a=>(intro w hSw;(try dsimp only at hSw);go_simp;try with_reducible rfl)
     try simp only [Act.put,List.setIfInBounds_toArray,List.set_cons_zero,List.set_cons_succ]
     refine wpAnyH_take (i:=3) (oi:=⟨some 32,_,_,_,_,none⟩) (v:=?v3a) rfl (by kernel_rfl) (by kernel_rfl) (by kernel_rfl) (fun _ _ _ h=>h) (Or.inl ⟨by rfl,?h3a⟩) (by assumption) ?r3a
     case h3a=>(intro w hSw;(try dsimp only at hSw);go_simp;try with_reducible rfl)
     try simp only [Act.put,List.setIfInBounds_toArray,List.set_cons_zero,List.set_cons_succ]
     refine wpAnyH_take (i:=4) (oi:=⟨some 33,_,_,_,_,some (3,true)⟩) (v:=?v4a) rfl (by kernel_rfl) (by kernel_rfl) (by kernel_rfl) (fun _ _ _ h=>h) (Or.inl ⟨by rfl,?h4a⟩) (by assumption) ?r4a
     case h4a=>(intro w hSw;(try dsimp only at hSw);go_simp;try with_reducible rfl)
     try simp only [Act.put,List.setIfInBounds_toArray,List.set_cons_zero,List.set_cons_succ]
     refine wpAnyH_take (i:=6) (oi:=⟨some 35,_,_,_,_,some (3,true)⟩) (v:=?v6a) rfl (by kernel_rfl) (by kernel_rfl) (by kernel_rfl) (fun _ _ _ h=>h) (Or.inl ⟨by rfl,?h6a⟩) (by assumption) ?r6a
     case h6a=>(intro w hSw;(try dsimp only at hSw);go_simp;try with_reducible rfl)
     try simp only [Act.put,List.setIfInBounds_toArray,List.set_cons_zero,List.set_cons_succ]
     refine wpAnyH_take (i:=7) (oi:=⟨some 36,_,_,_,_,some (3,true)⟩) (v:=?v7a) rfl (by kernel_rfl) (by kernel_rfl) (by kernel_rfl) (fun _ _ _ h=>h) (Or.inl ⟨by rfl,?h7a⟩) (by assumption) ?r7a
     case h7a=>(intro w hSw;(try dsimp only at hSw);go_simp;try with_reducible rfl)
     try simp only [Act.put,List.setIfInBounds_toArray,List.set_cons_zero,List.set_cons_succ]
     refine wpAnyH_ready (rs:=[5]) (by kernel_rfl) (by simp) ?_;refine AllReadyH.cons (o:=⟨some 34,_,_,_,_,some (3,true)⟩) rfl (fun K hK=>?_) AllReadyH.nil;rw [if_pos (by kernel_rfl)]
     go_simp
     refine (HSC.out _).mono ?_;rintro e w4 ⟨u4,rfl,hu4,k4⟩;have hU4:=hu4.ints (by omega);obtain ⟨p4,c4,rfl,_⟩:=hu4.ints (by omega);refine hK.out _ _ (HSS.out _ (kd.trans k4)) (fun hHeld=>?_);clear hK K
     try simp only [Act.put,List.setIfInBounds_toArray,List.set_cons_zero,List.set_cons_succ]
     refine wpAnyH_ready (rs:=[8]) (by kernel_rfl) (by simp) ?_;refine AllReadyH.cons (o:=⟨some 37,_,_,_,_,some (3,true)⟩) rfl (fun K hK=>?_) AllReadyH.nil;rw [if_pos (by kernel_rfl)]
     go_simp
     refine (HCO.out _ _ hU4).mono ?_;rintro e w5 ⟨rfl,rfl⟩;refine hK.out _ _ (hHeld) (fun hHeld=>?_);clear hK K
     try simp only [Act.put,List.setIfInBounds_toArray,List.set_cons_zero,List.set_cons_succ]
     refine wpAnyH_take (i:=9) (oi:=⟨some 38,_,_,_,_,none⟩) (v:=?v9a) rfl (by kernel_rfl) (by kernel_rfl) (by kernel_rfl) (fun _ _ _ h=>h) (Or.inl ⟨by rfl,?h9a⟩) (by assumption) ?r9a
     case h9a=>(intro w hSw;(try dsimp only at hSw);go_simp;try with_reducible rfl)
     try simp only [Act.put,List.setIfInBounds_toArray,List.set_cons_zero,List.set_cons_succ]
     refine wpAnyH_take (i:=10) (oi:=⟨some 39,_,_,_,_,none⟩) (v:=?v10a) rfl (by kernel_rfl) (by kernel_rfl) (by kernel_rfl) (fun _ _ _ h=>h) (Or.inl ⟨by rfl,?h10a⟩) (by assumption) ?r10a
     case h10a=>(intro w hSw;(try dsimp only at hSw);go_simp;try with_reducible rfl)
     try simp only [Act.put,List.setIfInBounds_toArray,List.set_cons_zero,List.set_cons_succ]
     refine wpAnyH_take (i:=11) (oi:=⟨some 40,_,_,_,_,some (10,true)⟩) (v:=undef) rfl (by kernel_rfl) (by kernel_rfl) (by kernel_rfl) (fun _ _ _ h=>h) (Or.inr ⟨by rfl,rfl⟩) (by assumption) ?_
     try simp only [Act.put,List.setIfInBounds_toArray,List.set_cons_zero,List.set_cons_succ]
     refine wpAnyH_take (i:=12) (oi:=⟨some 41,_,_,_,_,some (10,true)⟩) (v:=undef) rfl (by kernel_rfl) (by kernel_rfl) (by kernel_rfl) (fun _ _ _ h=>h) (Or.inr ⟨by rfl,rfl⟩) (by assumption) ?_
     try simp only [Act.put,List.setIfInBounds_toArray,List.set_cons_zero,List.set_cons_succ]
     refine wpAnyH_take (i:=13) (oi:=⟨some 42,_,_,_,_,some (10,true)⟩) (v:=undef) rfl (by kernel_rfl) (by kernel_rfl) (by kernel_rfl) (fun _ _ _ h=>h) (Or.inr ⟨by rfl,rfl⟩) (by assumption) ?_
     try simp only [Act.put,List.setIfInBounds_toArray,List.set_cons_zero,List.set_cons_succ]
     refine wpAnyH_take (i:=14) (oi:=⟨some 43,_,_,_,_,some (10,true)⟩) (v:=undef) rfl (by kernel_rfl) (by kernel_rfl) (by kernel_rfl) (fun _ _ _ h=>h) (Or.inr ⟨by rfl,rfl⟩) (by assumption) ?_
     try simp only [Act.put,List.setIfInBounds_toArray,List.set_cons_zero,List.set_cons_succ]
     refine wpAnyH_ready (rs:=[15]) (by kernel_rfl) (by simp) ?_;refine AllReadyH.cons (o:=⟨some 44,_,_,_,_,some (10,true)⟩) rfl (fun K hK=>?_) AllReadyH.nil;rw [if_neg (Bool.eq_false_iff.1 (by kernel_rfl))];refine hK.out _ _ (by assumption) (fun hHeld=>?_);clear hK K
     try simp only [Act.put,List.setIfInBounds_toArray,List.set_cons_zero,List.set_cons_succ]
     refine wpAnyH_take (i:=16) (oi:=⟨some 45,_,_,_,_,none⟩) (v:=?v16a) rfl (by kernel_rfl) (by kernel_rfl) (by kernel_rfl) (fun _ _ _ h=>h) (Or.inl ⟨by rfl,?h16a⟩) (by assumption) ?r16a
     case h16a=>(intro w hSw;(try dsimp only at hSw);go_simp;try with_reducible rfl)
     try simp only [Act.put,List.setIfInBounds_toArray,List.set_cons_zero,List.set_cons_succ]
     refine wpAnyH_take (i:=17) (oi:=⟨some 8,_,_,_,_,none⟩) (v:=?v17a) rfl (by kernel_rfl) (by kernel_rfl) (by kernel_rfl) (fun _ _ _ h=>h) (Or.inl ⟨by rfl,?h17a⟩) (by assumption) ?r17a
     case h17a=>(intro w hSw;(try dsimp only at hSw);go_simp;try with_reducible rfl)
     try simp only [Act.put,List.setIfInBounds_toArray,List.set_cons_zero,List.set_cons_succ]
     refine wpAnyH_done (by kernel_rfl) ?_ _;refine NoPanic.normal ?_;go_wp2_with fail;go_ret;rw [HRR.out];exact ⟨ret_bool HR2.out.symm,HK.out.trans (kd.trans k4)⟩
    ·obtain ⟨jf,rfl,hj19⟩:=HLT.out rfl
     unfold isFm at hfm;rw [Bool.and_eq_true,decide_eq_true_eq] at hfm;obtain ⟨t,hw,rfl⟩:=isTree_enc hfm.2;have hfl:=hfm.1;have HR2:Hid (R=insT jf t):=hid (by rw [HR.out,insL_enc];simp);have HII:=hid (fun wz (kz:Keeps w wz)=>l13Instance_any jf hj19 t hfl _ wz (HA.out wz kz));generalize insT jf t=A at*;have HSS:=hid (fun W (kW:Keeps w2 W)=>(⟨kW.cell b1,kW.cell b2,kW.cell b3⟩:W.cell? ⟨w.heap.size,1,none⟩=some (.int .i64 ((jf:Nat):Int))∧W.cell? ⟨w.heap.size,2,none⟩=some (.int .i64 0)∧W.cell? ⟨w.heap.size,3,none⟩=some (.slice q m c)));clear HR HLT b1 b2 b3;go_wp2_with fail;refine wp_region_noPanic ?_;refine wp_region_held_drew (S:=(fun w'=>w'.cell? ⟨w.heap.size,1,none⟩=some (.int .i64 ((jf:Nat):Int))∧w'.cell? ⟨w.heap.size,2,none⟩=some (.int .i64 0)∧w'.cell? ⟨w.heap.size,3,none⟩=some (.slice q m c))) (by kernel_rfl) (HSS.out _ kd) (fun hHeld=>?_);refine wpAnyH_take (i:=0) (oi:=⟨some 29,_,_,_,_,none⟩) (v:=?v0b) rfl (by kernel_rfl) (by kernel_rfl) (by kernel_rfl) (fun _ _ _ h=>h) (Or.inl ⟨by rfl,?h0b⟩) (by assumption) ?r0b
     case h0b=>(intro w hSw;(try dsimp only at hSw);go_simp;try with_reducible rfl)
     try simp only [Act.put,List.setIfInBounds_toArray,List.set_cons_zero,List.set_cons_succ]
     refine wpAnyH_take (i:=1) (oi:=⟨some 30,_,_,_,_,none⟩) (v:=?v1b) rfl (by kernel_rfl) (by kernel_rfl) (by kernel_rfl) (fun _ _ _ h=>h) (Or.inl ⟨by rfl,?h1b⟩) (by assumption) ?r1b
     case h1b=>(intro w hSw;(try dsimp only at hSw);go_simp;try with_reducible rfl)
     try simp only [Act.put,List.setIfInBounds_toArray,List.set_cons_zero,List.set_cons_succ]
     refine wpAnyH_take (i:=2) (oi:=⟨some 31,_,_,_,_,none⟩) (v:=?v2b) rfl (by kernel_rfl) (by kernel_rfl) (by kernel_rfl) (fun _ _ _ h=>h) (Or.inl ⟨by rfl,?h2b⟩) (by assumption) ?r2b
     case h2b=>(intro w hSw;(try dsimp only at hSw);go_simp;try with_reducible rfl)
     try simp only [Act.put,List.setIfInBounds_toArray,List.set_cons_zero,List.set_cons_succ]
     refine wpAnyH_take (i:=3) (oi:=⟨some 32,_,_,_,_,none⟩) (v:=?v3b) rfl (by kernel_rfl) (by kernel_rfl) (by kernel_rfl) (fun _ _ _ h=>h) (Or.inl ⟨by rfl,?h3b⟩) (by assumption) ?r3b
     case h3b=>(intro w hSw;(try dsimp only at hSw);go_simp;try with_reducible rfl)
     try simp only [Act.put,List.setIfInBounds_toArray,List.set_cons_zero,List.set_cons_succ]
     refine wpAnyH_take (i:=4) (oi:=⟨some 33,_,_,_,_,some (3,true)⟩) (v:=?v4b) rfl (by kernel_rfl) (by kernel_rfl) (by kernel_rfl) (fun _ _ _ h=>h) (Or.inl ⟨by rfl,?h4b⟩) (by assumption) ?r4b
     case h4b=>(intro w hSw;(try dsimp only at hSw);go_simp;try with_reducible rfl)
     try simp only [Act.put,List.setIfInBounds_toArray,List.set_cons_zero,List.set_cons_succ]
     refine wpAnyH_take (i:=6) (oi:=⟨some 35,_,_,_,_,some (3,true)⟩) (v:=?v6b) rfl (by kernel_rfl) (by kernel_rfl) (by kernel_rfl) (fun _ _ _ h=>h) (Or.inl ⟨by rfl,?h6b⟩) (by assumption) ?r6b
     case h6b=>(intro w hSw;(try dsimp only at hSw);go_simp;try with_reducible rfl)
     try simp only [Act.put,List.setIfInBounds_toArray,List.set_cons_zero,List.set_cons_succ]
     refine wpAnyH_take (i:=7) (oi:=⟨some 36,_,_,_,_,some (3,true)⟩) (v:=?v7b) rfl (by kernel_rfl) (by kernel_rfl) (by kernel_rfl) (fun _ _ _ h=>h) (Or.inl ⟨by rfl,?h7b⟩) (by assumption) ?r7b
     case h7b=>(intro w hSw;(try dsimp only at hSw);go_simp;try with_reducible rfl)
     try simp only [Act.put,List.setIfInBounds_toArray,List.set_cons_zero,List.set_cons_succ]
     refine wpAnyH_ready (rs:=[5]) (by kernel_rfl) (by simp) ?_;refine AllReadyH.cons (o:=⟨some 34,_,_,_,_,some (3,true)⟩) rfl (fun K hK=>?_) AllReadyH.nil;rw [if_pos (by kernel_rfl)]
     go_simp
     refine (HSC.out _).mono ?_;rintro e w4 ⟨u4,rfl,hu4,k4⟩;have hU4:=hu4.ints (by omega);obtain ⟨p4,c4,rfl,_⟩:=hu4.ints (by omega);refine hK.out _ _ (HSS.out _ (kd.trans k4)) (fun hHeld=>?_);clear hK K
     try simp only [Act.put,List.setIfInBounds_toArray,List.set_cons_zero,List.set_cons_succ]
     refine wpAnyH_ready (rs:=[8]) (by kernel_rfl) (by simp) ?_;refine AllReadyH.cons (o:=⟨some 37,_,_,_,_,some (3,true)⟩) rfl (fun K hK=>?_) AllReadyH.nil;rw [if_pos (by kernel_rfl)]
     go_simp
     refine (HCO.out _ _ hU4).mono ?_;rintro e w5 ⟨rfl,rfl⟩;refine hK.out _ _ (hHeld) (fun hHeld=>?_);clear hK K
     try simp only [Act.put,List.setIfInBounds_toArray,List.set_cons_zero,List.set_cons_succ]
     refine wpAnyH_take (i:=9) (oi:=⟨some 38,_,_,_,_,none⟩) (v:=?v9b) rfl (by kernel_rfl) (by kernel_rfl) (by kernel_rfl) (fun _ _ _ h=>h) (Or.inl ⟨by rfl,?h9b⟩) (by assumption) ?r9b
     case h9b=>(intro w hSw;(try dsimp only at hSw);go_simp;try with_reducible rfl)
     try simp only [Act.put,List.setIfInBounds_toArray,List.set_cons_zero,List.set_cons_succ]
     refine wpAnyH_take (i:=10) (oi:=⟨some 39,_,_,_,_,none⟩) (v:=?v10b) rfl (by kernel_rfl) (by kernel_rfl) (by kernel_rfl) (fun _ _ _ h=>h) (Or.inl ⟨by rfl,?h10b⟩) (by assumption) ?r10b
     case h10b=>(intro w hSw;(try dsimp only at hSw);go_simp;try with_reducible rfl)
     try simp only [Act.put,List.setIfInBounds_toArray,List.set_cons_zero,List.set_cons_succ]
     refine wpAnyH_take (i:=11) (oi:=⟨some 40,_,_,_,_,some (10,true)⟩) (v:=?v11b) rfl (by kernel_rfl) (by kernel_rfl) (by kernel_rfl) (fun _ _ _ h=>h) (Or.inl ⟨by rfl,?h11b⟩) (by assumption) ?r11b
     case h11b=>(intro w hSw;(try dsimp only at hSw);go_simp;try with_reducible rfl)
     try simp only [Act.put,List.setIfInBounds_toArray,List.set_cons_zero,List.set_cons_succ]
     refine wpAnyH_take (i:=12) (oi:=⟨some 41,_,_,_,_,some (10,true)⟩) (v:=?v12b) rfl (by kernel_rfl) (by kernel_rfl) (by kernel_rfl) (fun _ _ _ h=>h) (Or.inl ⟨by rfl,?h12b⟩) (by assumption) ?r12b
     case h12b=>(intro w hSw;(try dsimp only at hSw);go_simp;try with_reducible rfl)
     try simp only [Act.put,List.setIfInBounds_toArray,List.set_cons_zero,List.set_cons_succ]
     refine wpAnyH_take (i:=13) (oi:=⟨some 42,_,_,_,_,some (10,true)⟩) (v:=?v13b) rfl (by kernel_rfl) (by kernel_rfl) (by kernel_rfl) (fun _ _ _ h=>h) (Or.inl ⟨by rfl,?h13b⟩) (by assumption) ?r13b
     case h13b=>(intro w hSw;(try dsimp only at hSw);go_simp;try with_reducible rfl)
     try simp only [Act.put,List.setIfInBounds_toArray,List.set_cons_zero,List.set_cons_succ]
     refine wpAnyH_take (i:=14) (oi:=⟨some 43,_,_,_,_,some (10,true)⟩) (v:=?v14b) rfl (by kernel_rfl) (by kernel_rfl) (by kernel_rfl) (fun _ _ _ h=>h) (Or.inl ⟨by rfl,?h14b⟩) (by assumption) ?r14b
     case h14b=>(intro w hSw;(try dsimp only at hSw);go_simp;try with_reducible rfl)
     try simp only [Act.put,List.setIfInBounds_toArray,List.set_cons_zero,List.set_cons_succ]
     refine wpAnyH_ready (rs:=[15]) (by kernel_rfl) (by simp) ?_;refine AllReadyH.cons (o:=⟨some 44,_,_,_,_,some (10,true)⟩) rfl (fun K hK=>?_) AllReadyH.nil;rw [if_pos (by kernel_rfl)]
     go_simp
     refine (HII.out _ (HK.out.trans (kd.trans k4))).mono ?_;rintro e w6 ⟨rfl,k6⟩;refine hK.out _ _ (HSS.out _ ((kd.trans k4).trans k6)) (fun hHeld=>?_);clear hK K
     try simp only [Act.put,List.setIfInBounds_toArray,List.set_cons_zero,List.set_cons_succ]
     refine wpAnyH_take (i:=16) (oi:=⟨some 45,_,_,_,_,none⟩) (v:=?v16b) rfl (by kernel_rfl) (by kernel_rfl) (by kernel_rfl) (fun _ _ _ h=>h) (Or.inl ⟨by rfl,?h16b⟩) (by assumption) ?r16b
     case h16b=>(intro w hSw;(try dsimp only at hSw);go_simp;try with_reducible rfl)
     try simp only [Act.put,List.setIfInBounds_toArray,List.set_cons_zero,List.set_cons_succ]
     refine wpAnyH_take (i:=17) (oi:=⟨some 8,_,_,_,_,none⟩) (v:=?v17b) rfl (by kernel_rfl) (by kernel_rfl) (by kernel_rfl) (fun _ _ _ h=>h) (Or.inl ⟨by rfl,?h17b⟩) (by assumption) ?r17b
     case h17b=>(intro w hSw;(try dsimp only at hSw);go_simp;try with_reducible rfl)
     try simp only [Act.put,List.setIfInBounds_toArray,List.set_cons_zero,List.set_cons_succ]
     refine wpAnyH_done (by kernel_rfl) ?_ _;refine NoPanic.normal ?_;go_wp2_with fail;go_ret;rw [HRR.out];exact ⟨ret_bool HR2.out.symm,(HK.out.trans (kd.trans k4)).trans k6⟩
   ·have HR2:Hid (R=false):=hid (by rw [HR.out,decide_eq_false hs];rfl)
    have z0:(xs==0)=false:=by simpa using hs
    have HSS:=hid (fun W (kW:Keeps w2 W)=>(⟨kW.cell b1,kW.cell b2,kW.cell b3⟩:W.cell? ⟨w.heap.size,1,none⟩=some (.int .i64 xf)∧W.cell? ⟨w.heap.size,2,none⟩=some (.int .i64 xs)∧W.cell? ⟨w.heap.size,3,none⟩=some (.slice q m c)));clear HR b1 b2 b3 hs;go_wp2_with fail;refine wp_region_noPanic ?_;refine wp_region_held_drew (S:=(fun w'=>w'.cell? ⟨w.heap.size,1,none⟩=some (.int .i64 xf)∧w'.cell? ⟨w.heap.size,2,none⟩=some (.int .i64 xs)∧w'.cell? ⟨w.heap.size,3,none⟩=some (.slice q m c))) (by kernel_rfl) (HSS.out _ kd) (fun hHeld=>?_);refine wpAnyH_take (i:=0) (oi:=⟨some 29,_,_,_,_,none⟩) (v:=?v0c) rfl (by kernel_rfl) (by kernel_rfl) (by kernel_rfl) (fun _ _ _ h=>h) (Or.inl ⟨by rfl,?h0c⟩) (by assumption) ?r0c
    case h0c=>(intro w hSw;(try dsimp only at hSw);go_simp;try with_reducible rfl)
    try simp only [Act.put,List.setIfInBounds_toArray,List.set_cons_zero,List.set_cons_succ]
    refine wpAnyH_take (i:=1) (oi:=⟨some 30,_,_,_,_,none⟩) (v:=?v1c) rfl (by kernel_rfl) (by kernel_rfl) (by kernel_rfl) (fun _ _ _ h=>h) (Or.inl ⟨by rfl,?h1c⟩) (by assumption) ?r1c
    case h1c=>(intro w hSw;(try dsimp only at hSw);go_simp;try with_reducible rfl)
    try simp only [Act.put,List.setIfInBounds_toArray,List.set_cons_zero,List.set_cons_succ]
    refine wpAnyH_take (i:=2) (oi:=⟨some 31,_,_,_,_,none⟩) (v:=?v2c) rfl (by kernel_rfl) (by kernel_rfl) (by kernel_rfl) (fun _ _ _ h=>h) (Or.inl ⟨by rfl,?h2c⟩) (by assumption) ?r2c
    case h2c=>(intro w hSw;(try dsimp only at hSw);go_simp;try with_reducible rfl)
    try simp only [Act.put,List.setIfInBounds_toArray,List.set_cons_zero,List.set_cons_succ]
    refine wpAnyH_take (i:=3) (oi:=⟨some 32,_,_,_,_,none⟩) (v:=?v3c) rfl (by kernel_rfl) (by kernel_rfl) (by kernel_rfl) (fun _ _ _ h=>h) (Or.inl ⟨by rfl,?h3c⟩) (by assumption) ?r3c
    case h3c=>(intro w hSw;(try dsimp only at hSw);go_simp;try with_reducible rfl)
    try simp only [Act.put,List.setIfInBounds_toArray,List.set_cons_zero,List.set_cons_succ]
    refine wpAnyH_take (i:=4) (oi:=⟨some 33,_,_,_,_,some (3,true)⟩) (v:=undef) rfl (by kernel_rfl) (by kernel_rfl) (by kernel_rfl) (fun _ _ _ h=>h) (Or.inr ⟨by rfl,rfl⟩) (by assumption) ?_
    try simp only [Act.put,List.setIfInBounds_toArray,List.set_cons_zero,List.set_cons_succ]
    refine wpAnyH_take (i:=6) (oi:=⟨some 35,_,_,_,_,some (3,true)⟩) (v:=undef) rfl (by kernel_rfl) (by kernel_rfl) (by kernel_rfl) (fun _ _ _ h=>h) (Or.inr ⟨by rfl,rfl⟩) (by assumption) ?_
    try simp only [Act.put,List.setIfInBounds_toArray,List.set_cons_zero,List.set_cons_succ]
    refine wpAnyH_take (i:=7) (oi:=⟨some 36,_,_,_,_,some (3,true)⟩) (v:=undef) rfl (by kernel_rfl) (by kernel_rfl) (by kernel_rfl) (fun _ _ _ h=>h) (Or.inr ⟨by rfl,rfl⟩) (by assumption) ?_
    try simp only [Act.put,List.setIfInBounds_toArray,List.set_cons_zero,List.set_cons_succ]
    refine wpAnyH_ready (rs:=[5]) (by kernel_rfl) (by simp) ?_;refine AllReadyH.cons (o:=⟨some 34,_,_,_,_,some (3,true)⟩) rfl (fun K hK=>?_) AllReadyH.nil;rw [if_neg (Bool.eq_false_iff.1 (by kernel_rfl))];refine hK.out _ _ (by assumption) (fun hHeld=>?_);clear hK K
    try simp only [Act.put,List.setIfInBounds_toArray,List.set_cons_zero,List.set_cons_succ]
    refine wpAnyH_ready (rs:=[8]) (by kernel_rfl) (by simp) ?_;refine AllReadyH.cons (o:=⟨some 37,_,_,_,_,some (3,true)⟩) rfl (fun K hK=>?_) AllReadyH.nil;rw [if_neg (Bool.eq_false_iff.1 (by kernel_rfl))];refine hK.out _ _ (by assumption) (fun hHeld=>?_);clear hK K
    try simp only [Act.put,List.setIfInBounds_toArray,List.set_cons_zero,List.set_cons_succ]
    refine wpAnyH_take (i:=9) (oi:=⟨some 38,_,_,_,_,none⟩) (v:=?v9c) rfl (by kernel_rfl) (by kernel_rfl) (by kernel_rfl) (fun _ _ _ h=>h) (Or.inl ⟨by rfl,?h9c⟩) (by assumption) ?r9c
    case h9c=>(intro w hSw;(try dsimp only at hSw);go_simp;try with_reducible rfl)
    try simp only [Act.put,List.setIfInBounds_toArray,List.set_cons_zero,List.set_cons_succ]
    refine wpAnyH_take (i:=10) (oi:=⟨some 39,_,_,_,_,none⟩) (v:=?v10c) rfl (by kernel_rfl) (by kernel_rfl) (by kernel_rfl) (fun _ _ _ h=>h) (Or.inl ⟨by rfl,?h10c⟩) (by assumption) ?r10c
    case h10c=>(intro w hSw;(try dsimp only at hSw);go_simp;try with_reducible rfl)
    try simp only [Act.put,List.setIfInBounds_toArray,List.set_cons_zero,List.set_cons_succ]
    refine wpAnyH_take (i:=11) (oi:=⟨some 40,_,_,_,_,some (10,true)⟩) (v:=undef) rfl (by kernel_rfl) (by kernel_rfl) (by kernel_rfl) (fun _ _ _ h=>h) (Or.inr ⟨by rfl,rfl⟩) (by assumption) ?_
    try simp only [Act.put,List.setIfInBounds_toArray,List.set_cons_zero,List.set_cons_succ]
    refine wpAnyH_take (i:=12) (oi:=⟨some 41,_,_,_,_,some (10,true)⟩) (v:=undef) rfl (by kernel_rfl) (by kernel_rfl) (by kernel_rfl) (fun _ _ _ h=>h) (Or.inr ⟨by rfl,rfl⟩) (by assumption) ?_
    try simp only [Act.put,List.setIfInBounds_toArray,List.set_cons_zero,List.set_cons_succ]
    refine wpAnyH_take (i:=13) (oi:=⟨some 42,_,_,_,_,some (10,true)⟩) (v:=undef) rfl (by kernel_rfl) (by kernel_rfl) (by kernel_rfl) (fun _ _ _ h=>h) (Or.inr ⟨by rfl,rfl⟩) (by assumption) ?_
    try simp only [Act.put,List.setIfInBounds_toArray,List.set_cons_zero,List.set_cons_succ]
    refine wpAnyH_take (i:=14) (oi:=⟨some 43,_,_,_,_,some (10,true)⟩) (v:=undef) rfl (by kernel_rfl) (by kernel_rfl) (by kernel_rfl) (fun _ _ _ h=>h) (Or.inr ⟨by rfl,rfl⟩) (by assumption) ?_
    try simp only [Act.put,List.setIfInBounds_toArray,List.set_cons_zero,List.set_cons_succ]
    refine wpAnyH_ready (rs:=[15]) (by kernel_rfl) (by simp) ?_;refine AllReadyH.cons (o:=⟨some 44,_,_,_,_,some (10,true)⟩) rfl (fun K hK=>?_) AllReadyH.nil;rw [if_neg (Bool.eq_false_iff.1 (by kernel_rfl))];refine hK.out _ _ (by assumption) (fun hHeld=>?_);clear hK K
    try simp only [Act.put,List.setIfInBounds_toArray,List.set_cons_zero,List.set_cons_succ]
    refine wpAnyH_take (i:=16) (oi:=⟨some 45,_,_,_,_,none⟩) (v:=?v16c) rfl (by kernel_rfl) (by kernel_rfl) (by kernel_rfl) (fun _ _ _ h=>h) (Or.inl ⟨by rfl,?h16c⟩) (by assumption) ?r16c
    case h16c=>(intro w hSw;(try dsimp only at hSw);go_simp;try with_reducible rfl)
    try simp only [Act.put,List.setIfInBounds_toArray,List.set_cons_zero,List.set_cons_succ]
    refine wpAnyH_take (i:=17) (oi:=⟨some 8,_,_,_,_,none⟩) (v:=?v17c) rfl (by kernel_rfl) (by kernel_rfl) (by kernel_rfl) (fun _ _ _ h=>h) (Or.inl ⟨by rfl,?h17c⟩) (by assumption) ?r17c
    case h17c=>(intro w hSw;(try dsimp only at hSw);go_simp;try with_reducible rfl)
    try simp only [Act.put,List.setIfInBounds_toArray,List.set_cons_zero,List.set_cons_succ]
    refine wpAnyH_done (by kernel_rfl) ?_ _;refine NoPanic.normal ?_;go_wp2_with fail;go_ret;rw [HRR.out];exact ⟨ret_bool HR2.out.symm,HK.out.trans kd⟩
  ·rw [if_neg r1] at HR
   by_cases r2:xr=2
   ·subst r2
    rw [if_pos rfl] at HR
    by_cases hs:xs=0
    ·subst hs
     rw [decide_eq_true rfl,Bool.true_and] at HR;have HIH:=hid (fun wz y (hy:y=(H.length:Int)-1)=>(by subst hy;exact l01In_any xf 0 ((H.length:Int)-1) wz:Calls Tryz.prog 45 #[.int .i64 xf,.int .i64 0,.int .i64 y] wz fun e w'=>e=.returned (.bool (inR xf 0 ((H.length:Int)-1)))∧wz=w'))
     by_cases hih:inR xf 0 ((H.length:Int)-1)=true
     ·rw [hih,Bool.true_and] at HR
      obtain ⟨f0,f1⟩:=inR_iff.1 hih;obtain ⟨jf,rfl⟩:=Int.eq_ofNat_of_zero_le f0
      have hjf:jf<H.length:=by omega
      have hjf':((jf:Nat):Int)<H.length:=by omega
      obtain ⟨bH,oH,uk,epH,hck,hnk⟩:=(HHS.out w2 HK.out).get jf hjf;subst epH;obtain ⟨pk,nk,ck,rfl⟩:=hnk.shape
      have hgk:getI [] H (jf:Int)=H[jf]:=by unfold getI;rw [Int.toNat_natCast,List.getD_eq_getElem?_getD,List.getElem?_eq_getElem hjf];rfl
      rw [hgk] at HR;have HR2:=hid HR.out;have HEQ:=hid (fun wz (kz:Keeps w2 wz)=>l02Equal_any H[jf] xa _ _ wz (hnk.keeps kz) (HA.out wz (HK.out.trans kz)));generalize decide (H[jf]=xa)=A at*;have HSS:=hid (fun W (kW:Keeps w2 W)=>(⟨kW.cell b1,kW.cell b2,kW.cell b3,kW.cell hck⟩:W.cell? ⟨w.heap.size,1,none⟩=some (.int .i64 ((jf:Nat):Int))∧W.cell? ⟨w.heap.size,2,none⟩=some (.int .i64 0)∧W.cell? ⟨w.heap.size,3,none⟩=some (.slice q m c)∧W.cell? ⟨bH,oH+jf,none⟩=some (.slice pk nk ck)));clear HR b1 b2 b3 hck hnk hgk;go_wp2_with fail;refine wp_region_noPanic ?_;refine wp_region_held_drew (S:=(fun w'=>w'.cell? ⟨w.heap.size,1,none⟩=some (.int .i64 ((jf:Nat):Int))∧w'.cell? ⟨w.heap.size,2,none⟩=some (.int .i64 0)∧w'.cell? ⟨w.heap.size,3,none⟩=some (.slice q m c)∧w'.cell? ⟨bH,oH+jf,none⟩=some (.slice pk nk ck))) (by kernel_rfl) (HSS.out _ kd) (fun hHeld=>?_);refine wpAnyH_take (i:=0) (oi:=⟨some 48,_,_,_,_,none⟩) (v:=?v0d) rfl (by kernel_rfl) (by kernel_rfl) (by kernel_rfl) (fun _ _ _ h=>h) (Or.inl ⟨by rfl,?h0d⟩) (by assumption) ?r0d
      case h0d=>(intro w hSw;(try dsimp only at hSw);go_simp;try with_reducible rfl)
      try simp only [Act.put,List.setIfInBounds_toArray,List.set_cons_zero,List.set_cons_succ]
      refine wpAnyH_take (i:=1) (oi:=⟨some 49,_,_,_,_,none⟩) (v:=?v1d) rfl (by kernel_rfl) (by kernel_rfl) (by kernel_rfl) (fun _ _ _ h=>h) (Or.inl ⟨by rfl,?h1d⟩) (by assumption) ?r1d
      case h1d=>(intro w hSw;(try dsimp only at hSw);go_simp;try with_reducible rfl)
      try simp only [Act.put,List.setIfInBounds_toArray,List.set_cons_zero,List.set_cons_succ]
      refine wpAnyH_take (i:=2) (oi:=⟨some 50,_,_,_,_,none⟩) (v:=?v2d) rfl (by kernel_rfl) (by kernel_rfl) (by kernel_rfl) (fun _ _ _ h=>h) (Or.inl ⟨by rfl,?h2d⟩) (by assumption) ?r2d
      case h2d=>(intro w hSw;(try dsimp only at hSw);go_simp;try with_reducible rfl)
      try simp only [Act.put,List.setIfInBounds_toArray,List.set_cons_zero,List.set_cons_succ]
      refine wpAnyH_take (i:=3) (oi:=⟨some 51,_,_,_,_,none⟩) (v:=?v3d) rfl (by kernel_rfl) (by kernel_rfl) (by kernel_rfl) (fun _ _ _ h=>h) (Or.inl ⟨by rfl,?h3d⟩) (by assumption) ?r3d
      case h3d=>(intro w hSw;(try dsimp only at hSw);go_simp;try with_reducible rfl)
      try simp only [Act.put,List.setIfInBounds_toArray,List.set_cons_zero,List.set_cons_succ]
      refine wpAnyH_take (i:=4) (oi:=⟨some 52,_,_,_,_,some (3,true)⟩) (v:=?v4d) rfl (by kernel_rfl) (by kernel_rfl) (by kernel_rfl) (fun _ _ _ h=>h) (Or.inl ⟨by rfl,?h4d⟩) (by assumption) ?r4d
      case h4d=>(intro w hSw;(try dsimp only at hSw);go_simp;try with_reducible rfl)
      try simp only [Act.put,List.setIfInBounds_toArray,List.set_cons_zero,List.set_cons_succ]
      refine wpAnyH_take (i:=5) (oi:=⟨some 53,_,_,_,_,some (3,true)⟩) (v:=?v5d) rfl (by kernel_rfl) (by kernel_rfl) (by kernel_rfl) (fun _ _ _ h=>h) (Or.inl ⟨by rfl,?h5d⟩) (by assumption) ?r5d
      case h5d=>(intro w hSw;(try dsimp only at hSw);go_simp;try with_reducible rfl)
      try simp only [Act.put,List.setIfInBounds_toArray,List.set_cons_zero,List.set_cons_succ]
      refine wpAnyH_take (i:=6) (oi:=⟨some 54,_,_,_,_,some (3,true)⟩) (v:=?v6d) rfl (by kernel_rfl) (by kernel_rfl) (by kernel_rfl) (fun _ _ _ h=>h) (Or.inl ⟨by rfl,?h6d⟩) (by assumption) ?r6d
      case h6d=>(intro w hSw;(try dsimp only at hSw);go_simp;try with_reducible rfl)
      try simp only [Act.put,List.setIfInBounds_toArray,List.set_cons_zero,List.set_cons_succ]
      refine wpAnyH_take (i:=7) (oi:=⟨some 55,_,_,_,_,some (3,true)⟩) (v:=?v7d) rfl (by kernel_rfl) (by kernel_rfl) (by kernel_rfl) (fun _ _ _ h=>h) (Or.inl ⟨by rfl,?h7d⟩) (by assumption) ?r7d
      case h7d=>(intro w hSw;(try dsimp only at hSw);go_simp;try with_reducible rfl)
      try simp only [Act.put,List.setIfInBounds_toArray,List.set_cons_zero,List.set_cons_succ]
      refine wpAnyH_take (i:=8) (oi:=⟨some 56,_,_,_,_,some (3,true)⟩) (v:=?v8d) rfl (by kernel_rfl) (by kernel_rfl) (by kernel_rfl) (fun _ _ _ h=>h) (Or.inl ⟨by rfl,?h8d⟩) (by assumption) ?r8d
      case h8d=>(intro w hSw;(try dsimp only at hSw);go_simp;try with_reducible rfl)
      try simp only [Act.put,List.setIfInBounds_toArray,List.set_cons_zero,List.set_cons_succ]
      refine wpAnyH_ready (rs:=[9]) (by kernel_rfl) (by simp) ?_;refine AllReadyH.cons (o:=⟨some 57,_,_,_,_,some (3,true)⟩) rfl (fun K hK=>?_) AllReadyH.nil;rw [if_pos (by kernel_rfl)]
      go_simp
      refine (HIH.out _ _ (by first | rfl | (exact wrapI _ (by omega) (by omega)))).mono ?_;rintro e w5 ⟨rfl,rfl⟩;rw [hih];refine hK.out _ _ (hHeld) (fun hHeld=>?_);clear hK K
      try simp only [Act.put,List.setIfInBounds_toArray,List.set_cons_zero,List.set_cons_succ]
      refine wpAnyH_take (i:=10) (oi:=⟨some 58,_,_,_,_,none⟩) (v:=?v10d) rfl (by kernel_rfl) (by kernel_rfl) (by kernel_rfl) (fun _ _ _ h=>h) (Or.inl ⟨by rfl,?h10d⟩) (by assumption) ?r10d
      case h10d=>(intro w hSw;(try dsimp only at hSw);go_simp;try with_reducible rfl)
      try simp only [Act.put,List.setIfInBounds_toArray,List.set_cons_zero,List.set_cons_succ]
      refine wpAnyH_take (i:=11) (oi:=⟨some 59,_,_,_,_,none⟩) (v:=?v11d) rfl (by kernel_rfl) (by kernel_rfl) (by kernel_rfl) (fun _ _ _ h=>h) (Or.inl ⟨by rfl,?h11d⟩) (by assumption) ?r11d
      case h11d=>(intro w hSw;(try dsimp only at hSw);go_simp;try with_reducible rfl)
      try simp only [Act.put,List.setIfInBounds_toArray,List.set_cons_zero,List.set_cons_succ]
      refine wpAnyH_take (i:=12) (oi:=⟨some 60,_,_,_,_,some (11,true)⟩) (v:=?v12d) rfl (by kernel_rfl) (by kernel_rfl) (by kernel_rfl) (fun _ _ _ h=>h) (Or.inl ⟨by rfl,?h12d⟩) (by assumption) ?r12d
      case h12d=>(intro w hSw;(try dsimp only at hSw);go_simp;try with_reducible rfl)
      try simp only [Act.put,List.setIfInBounds_toArray,List.set_cons_zero,List.set_cons_succ]
      refine wpAnyH_take (i:=13) (oi:=⟨some 61,_,_,_,_,some (11,true)⟩) (v:=?v13d) rfl (by kernel_rfl) (by kernel_rfl) (by kernel_rfl) (fun _ _ _ h=>h) (Or.inl ⟨by rfl,?h13d⟩) (by assumption) ?r13d
      case h13d=>(intro w hSw;(try dsimp only at hSw);go_simp;try with_reducible rfl)
      try simp only [Act.put,List.setIfInBounds_toArray,List.set_cons_zero,List.set_cons_succ]
      refine wpAnyH_take (i:=14) (oi:=⟨some 62,_,_,_,_,some (11,true)⟩) (v:=?v14d) rfl (by kernel_rfl) (by kernel_rfl) (by kernel_rfl) (fun _ _ _ h=>h) (Or.inl ⟨by rfl,?h14d⟩) (by assumption) ?r14d
      case h14d=>(intro w hSw;(try dsimp only at hSw);go_simp;try with_reducible rfl)
      try simp only [Act.put,List.setIfInBounds_toArray,List.set_cons_zero,List.set_cons_succ]
      refine wpAnyH_take (i:=15) (oi:=⟨some 63,_,_,_,_,some (11,true)⟩) (v:=?v15d) rfl (by kernel_rfl) (by kernel_rfl) (by kernel_rfl) (fun _ _ _ h=>h) (Or.inl ⟨by rfl,?h15d⟩) (by assumption) ?r15d
      case h15d=>(intro w hSw;(try dsimp only at hSw);go_simp;try with_reducible rfl)
      try simp only [Act.put,List.setIfInBounds_toArray,List.set_cons_zero,List.set_cons_succ]
      refine wpAnyH_take (i:=16) (oi:=⟨some 64,_,_,_,_,some (11,true)⟩) (v:=?v16d) rfl (by kernel_rfl) (by kernel_rfl) (by kernel_rfl) (fun _ _ _ h=>h) (Or.inl ⟨by rfl,?h16d⟩) (by assumption) ?r16d
      case h16d=>(intro w hSw;(try dsimp only at hSw);go_simp;try with_reducible rfl)
      try simp only [Act.put,List.setIfInBounds_toArray,List.set_cons_zero,List.set_cons_succ]
      refine wpAnyH_take (i:=17) (oi:=⟨some 65,_,_,_,_,some (11,true)⟩) (v:=?v17d) rfl (by kernel_rfl) (by kernel_rfl) (by kernel_rfl) (fun _ _ _ h=>h) (Or.inl ⟨by rfl,?h17d⟩) (by assumption) ?r17d
      case h17d=>(intro w hSw;(try dsimp only at hSw);go_simp;try with_reducible rfl)
      try simp only [Act.put,List.setIfInBounds_toArray,List.set_cons_zero,List.set_cons_succ]
      refine wpAnyH_take (i:=18) (oi:=⟨some 66,_,_,_,_,some (11,true)⟩) (v:=?v18d) rfl (by kernel_rfl) (by kernel_rfl) (by kernel_rfl) (fun _ _ _ h=>h) (Or.inl ⟨by rfl,?h18d⟩) (by assumption) ?r18d
      case h18d=>(intro w hSw;(try dsimp only at hSw);go_simp;try with_reducible rfl)
      try simp only [Act.put,List.setIfInBounds_toArray,List.set_cons_zero,List.set_cons_succ]
      refine wpAnyH_ready (rs:=[19]) (by kernel_rfl) (by simp) ?_;refine AllReadyH.cons (o:=⟨some 67,_,_,_,_,some (11,true)⟩) rfl (fun K hK=>?_) AllReadyH.nil;rw [if_pos (by kernel_rfl)]
      go_simp
      refine (HEQ.out _ kd).mono ?_;rintro e w6 ⟨rfl,k6⟩;refine hK.out _ _ (HSS.out _ (kd.trans k6)) (fun hHeld=>?_);clear hK K
      try simp only [Act.put,List.setIfInBounds_toArray,List.set_cons_zero,List.set_cons_succ]
      refine wpAnyH_take (i:=20) (oi:=⟨some 68,_,_,_,_,none⟩) (v:=?v20d) rfl (by kernel_rfl) (by kernel_rfl) (by kernel_rfl) (fun _ _ _ h=>h) (Or.inl ⟨by rfl,?h20d⟩) (by assumption) ?r20d
      case h20d=>(intro w hSw;(try dsimp only at hSw);go_simp;try with_reducible rfl)
      try simp only [Act.put,List.setIfInBounds_toArray,List.set_cons_zero,List.set_cons_succ]
      refine wpAnyH_take (i:=21) (oi:=⟨some 8,_,_,_,_,none⟩) (v:=?v21d) rfl (by kernel_rfl) (by kernel_rfl) (by kernel_rfl) (fun _ _ _ h=>h) (Or.inl ⟨by rfl,?h21d⟩) (by assumption) ?r21d
      case h21d=>(intro w hSw;(try dsimp only at hSw);go_simp;try with_reducible rfl)
      try simp only [Act.put,List.setIfInBounds_toArray,List.set_cons_zero,List.set_cons_succ]
      refine wpAnyH_done (by kernel_rfl) ?_ _;refine NoPanic.normal ?_;go_wp2_with fail;go_ret;rw [HRR.out];exact ⟨ret_bool HR2.out.symm,(HK.out.trans kd).trans k6⟩
     ·have hih':inR xf 0 ((H.length:Int)-1)=false:=by simpa using hih
      have HR2:Hid (R=false):=hid (by rw [HR.out,hih'];rfl);have HSS:=hid (fun W (kW:Keeps w2 W)=>(⟨kW.cell b1,kW.cell b2,kW.cell b3⟩:W.cell? ⟨w.heap.size,1,none⟩=some (.int .i64 xf)∧W.cell? ⟨w.heap.size,2,none⟩=some (.int .i64 0)∧W.cell? ⟨w.heap.size,3,none⟩=some (.slice q m c)));clear HR b1 b2 b3 hih;go_wp2_with fail;refine wp_region_noPanic ?_;refine wp_region_held_drew (S:=(fun w'=>w'.cell? ⟨w.heap.size,1,none⟩=some (.int .i64 xf)∧w'.cell? ⟨w.heap.size,2,none⟩=some (.int .i64 0)∧w'.cell? ⟨w.heap.size,3,none⟩=some (.slice q m c))) (by kernel_rfl) (HSS.out _ kd) (fun hHeld=>?_);refine wpAnyH_take (i:=0) (oi:=⟨some 48,_,_,_,_,none⟩) (v:=?v0e) rfl (by kernel_rfl) (by kernel_rfl) (by kernel_rfl) (fun _ _ _ h=>h) (Or.inl ⟨by rfl,?h0e⟩) (by assumption) ?r0e
      case h0e=>(intro w hSw;(try dsimp only at hSw);go_simp;try with_reducible rfl)
      try simp only [Act.put,List.setIfInBounds_toArray,List.set_cons_zero,List.set_cons_succ]
      refine wpAnyH_take (i:=1) (oi:=⟨some 49,_,_,_,_,none⟩) (v:=?v1e) rfl (by kernel_rfl) (by kernel_rfl) (by kernel_rfl) (fun _ _ _ h=>h) (Or.inl ⟨by rfl,?h1e⟩) (by assumption) ?r1e
      case h1e=>(intro w hSw;(try dsimp only at hSw);go_simp;try with_reducible rfl)
      try simp only [Act.put,List.setIfInBounds_toArray,List.set_cons_zero,List.set_cons_succ]
      refine wpAnyH_take (i:=2) (oi:=⟨some 50,_,_,_,_,none⟩) (v:=?v2e) rfl (by kernel_rfl) (by kernel_rfl) (by kernel_rfl) (fun _ _ _ h=>h) (Or.inl ⟨by rfl,?h2e⟩) (by assumption) ?r2e
      case h2e=>(intro w hSw;(try dsimp only at hSw);go_simp;try with_reducible rfl)
      try simp only [Act.put,List.setIfInBounds_toArray,List.set_cons_zero,List.set_cons_succ]
      refine wpAnyH_take (i:=3) (oi:=⟨some 51,_,_,_,_,none⟩) (v:=?v3e) rfl (by kernel_rfl) (by kernel_rfl) (by kernel_rfl) (fun _ _ _ h=>h) (Or.inl ⟨by rfl,?h3e⟩) (by assumption) ?r3e
      case h3e=>(intro w hSw;(try dsimp only at hSw);go_simp;try with_reducible rfl)
      try simp only [Act.put,List.setIfInBounds_toArray,List.set_cons_zero,List.set_cons_succ]
      refine wpAnyH_take (i:=4) (oi:=⟨some 52,_,_,_,_,some (3,true)⟩) (v:=?v4e) rfl (by kernel_rfl) (by kernel_rfl) (by kernel_rfl) (fun _ _ _ h=>h) (Or.inl ⟨by rfl,?h4e⟩) (by assumption) ?r4e
      case h4e=>(intro w hSw;(try dsimp only at hSw);go_simp;try with_reducible rfl)
      try simp only [Act.put,List.setIfInBounds_toArray,List.set_cons_zero,List.set_cons_succ]
      refine wpAnyH_take (i:=5) (oi:=⟨some 53,_,_,_,_,some (3,true)⟩) (v:=?v5e) rfl (by kernel_rfl) (by kernel_rfl) (by kernel_rfl) (fun _ _ _ h=>h) (Or.inl ⟨by rfl,?h5e⟩) (by assumption) ?r5e
      case h5e=>(intro w hSw;(try dsimp only at hSw);go_simp;try with_reducible rfl)
      try simp only [Act.put,List.setIfInBounds_toArray,List.set_cons_zero,List.set_cons_succ]
      refine wpAnyH_take (i:=6) (oi:=⟨some 54,_,_,_,_,some (3,true)⟩) (v:=?v6e) rfl (by kernel_rfl) (by kernel_rfl) (by kernel_rfl) (fun _ _ _ h=>h) (Or.inl ⟨by rfl,?h6e⟩) (by assumption) ?r6e
      case h6e=>(intro w hSw;(try dsimp only at hSw);go_simp;try with_reducible rfl)
      try simp only [Act.put,List.setIfInBounds_toArray,List.set_cons_zero,List.set_cons_succ]
      refine wpAnyH_take (i:=7) (oi:=⟨some 55,_,_,_,_,some (3,true)⟩) (v:=?v7e) rfl (by kernel_rfl) (by kernel_rfl) (by kernel_rfl) (fun _ _ _ h=>h) (Or.inl ⟨by rfl,?h7e⟩) (by assumption) ?r7e
      case h7e=>(intro w hSw;(try dsimp only at hSw);go_simp;try with_reducible rfl)
      try simp only [Act.put,List.setIfInBounds_toArray,List.set_cons_zero,List.set_cons_succ]
      refine wpAnyH_take (i:=8) (oi:=⟨some 56,_,_,_,_,some (3,true)⟩) (v:=?v8e) rfl (by kernel_rfl) (by kernel_rfl) (by kernel_rfl) (fun _ _ _ h=>h) (Or.inl ⟨by rfl,?h8e⟩) (by assumption) ?r8e
      case h8e=>(intro w hSw;(try dsimp only at hSw);go_simp;try with_reducible rfl)
      try simp only [Act.put,List.setIfInBounds_toArray,List.set_cons_zero,List.set_cons_succ]
      refine wpAnyH_ready (rs:=[9]) (by kernel_rfl) (by simp) ?_;refine AllReadyH.cons (o:=⟨some 57,_,_,_,_,some (3,true)⟩) rfl (fun K hK=>?_) AllReadyH.nil;rw [if_pos (by kernel_rfl)]
      go_simp
      refine (HIH.out _ _ (by first | rfl | (exact wrapI _ (by omega) (by omega)))).mono ?_;rintro e w5 ⟨rfl,rfl⟩;rw [hih'];refine hK.out _ _ (hHeld) (fun hHeld=>?_);clear hK K
      try simp only [Act.put,List.setIfInBounds_toArray,List.set_cons_zero,List.set_cons_succ]
      refine wpAnyH_take (i:=10) (oi:=⟨some 58,_,_,_,_,none⟩) (v:=?v10e) rfl (by kernel_rfl) (by kernel_rfl) (by kernel_rfl) (fun _ _ _ h=>h) (Or.inl ⟨by rfl,?h10e⟩) (by assumption) ?r10e
      case h10e=>(intro w hSw;(try dsimp only at hSw);go_simp;try with_reducible rfl)
      try simp only [Act.put,List.setIfInBounds_toArray,List.set_cons_zero,List.set_cons_succ]
      refine wpAnyH_take (i:=11) (oi:=⟨some 59,_,_,_,_,none⟩) (v:=?v11e) rfl (by kernel_rfl) (by kernel_rfl) (by kernel_rfl) (fun _ _ _ h=>h) (Or.inl ⟨by rfl,?h11e⟩) (by assumption) ?r11e
      case h11e=>(intro w hSw;(try dsimp only at hSw);go_simp;try with_reducible rfl)
      try simp only [Act.put,List.setIfInBounds_toArray,List.set_cons_zero,List.set_cons_succ]
      refine wpAnyH_take (i:=12) (oi:=⟨some 60,_,_,_,_,some (11,true)⟩) (v:=undef) rfl (by kernel_rfl) (by kernel_rfl) (by kernel_rfl) (fun _ _ _ h=>h) (Or.inr ⟨by rfl,rfl⟩) (by assumption) ?_
      try simp only [Act.put,List.setIfInBounds_toArray,List.set_cons_zero,List.set_cons_succ]
      refine wpAnyH_take (i:=13) (oi:=⟨some 61,_,_,_,_,some (11,true)⟩) (v:=undef) rfl (by kernel_rfl) (by kernel_rfl) (by kernel_rfl) (fun _ _ _ h=>h) (Or.inr ⟨by rfl,rfl⟩) (by assumption) ?_
      try simp only [Act.put,List.setIfInBounds_toArray,List.set_cons_zero,List.set_cons_succ]
      refine wpAnyH_take (i:=14) (oi:=⟨some 62,_,_,_,_,some (11,true)⟩) (v:=undef) rfl (by kernel_rfl) (by kernel_rfl) (by kernel_rfl) (fun _ _ _ h=>h) (Or.inr ⟨by rfl,rfl⟩) (by assumption) ?_
      try simp only [Act.put,List.setIfInBounds_toArray,List.set_cons_zero,List.set_cons_succ]
      refine wpAnyH_take (i:=15) (oi:=⟨some 63,_,_,_,_,some (11,true)⟩) (v:=undef) rfl (by kernel_rfl) (by kernel_rfl) (by kernel_rfl) (fun _ _ _ h=>h) (Or.inr ⟨by rfl,rfl⟩) (by assumption) ?_
      try simp only [Act.put,List.setIfInBounds_toArray,List.set_cons_zero,List.set_cons_succ]
      refine wpAnyH_take (i:=16) (oi:=⟨some 64,_,_,_,_,some (11,true)⟩) (v:=undef) rfl (by kernel_rfl) (by kernel_rfl) (by kernel_rfl) (fun _ _ _ h=>h) (Or.inr ⟨by rfl,rfl⟩) (by assumption) ?_
      try simp only [Act.put,List.setIfInBounds_toArray,List.set_cons_zero,List.set_cons_succ]
      refine wpAnyH_take (i:=17) (oi:=⟨some 65,_,_,_,_,some (11,true)⟩) (v:=undef) rfl (by kernel_rfl) (by kernel_rfl) (by kernel_rfl) (fun _ _ _ h=>h) (Or.inr ⟨by rfl,rfl⟩) (by assumption) ?_
      try simp only [Act.put,List.setIfInBounds_toArray,List.set_cons_zero,List.set_cons_succ]
      refine wpAnyH_take (i:=18) (oi:=⟨some 66,_,_,_,_,some (11,true)⟩) (v:=undef) rfl (by kernel_rfl) (by kernel_rfl) (by kernel_rfl) (fun _ _ _ h=>h) (Or.inr ⟨by rfl,rfl⟩) (by assumption) ?_
      try simp only [Act.put,List.setIfInBounds_toArray,List.set_cons_zero,List.set_cons_succ]
      refine wpAnyH_ready (rs:=[19]) (by kernel_rfl) (by simp) ?_;refine AllReadyH.cons (o:=⟨some 67,_,_,_,_,some (11,true)⟩) rfl (fun K hK=>?_) AllReadyH.nil;rw [if_neg (Bool.eq_false_iff.1 (by kernel_rfl))];refine hK.out _ _ (by assumption) (fun hHeld=>?_);clear hK K
      try simp only [Act.put,List.setIfInBounds_toArray,List.set_cons_zero,List.set_cons_succ]
      refine wpAnyH_take (i:=20) (oi:=⟨some 68,_,_,_,_,none⟩) (v:=?v20e) rfl (by kernel_rfl) (by kernel_rfl) (by kernel_rfl) (fun _ _ _ h=>h) (Or.inl ⟨by rfl,?h20e⟩) (by assumption) ?r20e
      case h20e=>(intro w hSw;(try dsimp only at hSw);go_simp;try with_reducible rfl)
      try simp only [Act.put,List.setIfInBounds_toArray,List.set_cons_zero,List.set_cons_succ]
      refine wpAnyH_take (i:=21) (oi:=⟨some 8,_,_,_,_,none⟩) (v:=?v21e) rfl (by kernel_rfl) (by kernel_rfl) (by kernel_rfl) (fun _ _ _ h=>h) (Or.inl ⟨by rfl,?h21e⟩) (by assumption) ?r21e
      case h21e=>(intro w hSw;(try dsimp only at hSw);go_simp;try with_reducible rfl)
      try simp only [Act.put,List.setIfInBounds_toArray,List.set_cons_zero,List.set_cons_succ]
      refine wpAnyH_done (by kernel_rfl) ?_ _;refine NoPanic.normal ?_;go_wp2_with fail;go_ret;rw [HRR.out];exact ⟨ret_bool HR2.out.symm,HK.out.trans kd⟩
    ·have HR2:Hid (R=false):=hid (by rw [HR.out,decide_eq_false hs];rfl)
     have z0:(xs==0)=false:=by simpa using hs
     have HSS:=hid (fun W (kW:Keeps w2 W)=>(⟨kW.cell b1,kW.cell b2,kW.cell b3⟩:W.cell? ⟨w.heap.size,1,none⟩=some (.int .i64 xf)∧W.cell? ⟨w.heap.size,2,none⟩=some (.int .i64 xs)∧W.cell? ⟨w.heap.size,3,none⟩=some (.slice q m c)));clear HR b1 b2 b3 hs;go_wp2_with fail;refine wp_region_noPanic ?_;refine wp_region_held_drew (S:=(fun w'=>w'.cell? ⟨w.heap.size,1,none⟩=some (.int .i64 xf)∧w'.cell? ⟨w.heap.size,2,none⟩=some (.int .i64 xs)∧w'.cell? ⟨w.heap.size,3,none⟩=some (.slice q m c))) (by kernel_rfl) (HSS.out _ kd) (fun hHeld=>?_);refine wpAnyH_take (i:=0) (oi:=⟨some 48,_,_,_,_,none⟩) (v:=?v0f) rfl (by kernel_rfl) (by kernel_rfl) (by kernel_rfl) (fun _ _ _ h=>h) (Or.inl ⟨by rfl,?h0f⟩) (by assumption) ?r0f
     case h0f=>(intro w hSw;(try dsimp only at hSw);go_simp;try with_reducible rfl)
     try simp only [Act.put,List.setIfInBounds_toArray,List.set_cons_zero,List.set_cons_succ]
     refine wpAnyH_take (i:=1) (oi:=⟨some 49,_,_,_,_,none⟩) (v:=?v1f) rfl (by kernel_rfl) (by kernel_rfl) (by kernel_rfl) (fun _ _ _ h=>h) (Or.inl ⟨by rfl,?h1f⟩) (by assumption) ?r1f
     case h1f=>(intro w hSw;(try dsimp only at hSw);go_simp;try with_reducible rfl)
     try simp only [Act.put,List.setIfInBounds_toArray,List.set_cons_zero,List.set_cons_succ]
     refine wpAnyH_take (i:=2) (oi:=⟨some 50,_,_,_,_,none⟩) (v:=?v2f) rfl (by kernel_rfl) (by kernel_rfl) (by kernel_rfl) (fun _ _ _ h=>h) (Or.inl ⟨by rfl,?h2f⟩) (by assumption) ?r2f
     case h2f=>(intro w hSw;(try dsimp only at hSw);go_simp;try with_reducible rfl)
     try simp only [Act.put,List.setIfInBounds_toArray,List.set_cons_zero,List.set_cons_succ]
     refine wpAnyH_take (i:=3) (oi:=⟨some 51,_,_,_,_,none⟩) (v:=?v3f) rfl (by kernel_rfl) (by kernel_rfl) (by kernel_rfl) (fun _ _ _ h=>h) (Or.inl ⟨by rfl,?h3f⟩) (by assumption) ?r3f
     case h3f=>(intro w hSw;(try dsimp only at hSw);go_simp;try with_reducible rfl)
     try simp only [Act.put,List.setIfInBounds_toArray,List.set_cons_zero,List.set_cons_succ]
     refine wpAnyH_take (i:=4) (oi:=⟨some 52,_,_,_,_,some (3,true)⟩) (v:=undef) rfl (by kernel_rfl) (by kernel_rfl) (by kernel_rfl) (fun _ _ _ h=>h) (Or.inr ⟨by rfl,rfl⟩) (by assumption) ?_
     try simp only [Act.put,List.setIfInBounds_toArray,List.set_cons_zero,List.set_cons_succ]
     refine wpAnyH_take (i:=5) (oi:=⟨some 53,_,_,_,_,some (3,true)⟩) (v:=undef) rfl (by kernel_rfl) (by kernel_rfl) (by kernel_rfl) (fun _ _ _ h=>h) (Or.inr ⟨by rfl,rfl⟩) (by assumption) ?_
     try simp only [Act.put,List.setIfInBounds_toArray,List.set_cons_zero,List.set_cons_succ]
     refine wpAnyH_take (i:=6) (oi:=⟨some 54,_,_,_,_,some (3,true)⟩) (v:=undef) rfl (by kernel_rfl) (by kernel_rfl) (by kernel_rfl) (fun _ _ _ h=>h) (Or.inr ⟨by rfl,rfl⟩) (by assumption) ?_
     try simp only [Act.put,List.setIfInBounds_toArray,List.set_cons_zero,List.set_cons_succ]
     refine wpAnyH_take (i:=7) (oi:=⟨some 55,_,_,_,_,some (3,true)⟩) (v:=undef) rfl (by kernel_rfl) (by kernel_rfl) (by kernel_rfl) (fun _ _ _ h=>h) (Or.inr ⟨by rfl,rfl⟩) (by assumption) ?_
     try simp only [Act.put,List.setIfInBounds_toArray,List.set_cons_zero,List.set_cons_succ]
     refine wpAnyH_take (i:=8) (oi:=⟨some 56,_,_,_,_,some (3,true)⟩) (v:=undef) rfl (by kernel_rfl) (by kernel_rfl) (by kernel_rfl) (fun _ _ _ h=>h) (Or.inr ⟨by rfl,rfl⟩) (by assumption) ?_
     try simp only [Act.put,List.setIfInBounds_toArray,List.set_cons_zero,List.set_cons_succ]
     refine wpAnyH_ready (rs:=[9]) (by kernel_rfl) (by simp) ?_;refine AllReadyH.cons (o:=⟨some 57,_,_,_,_,some (3,true)⟩) rfl (fun K hK=>?_) AllReadyH.nil;rw [if_neg (Bool.eq_false_iff.1 (by kernel_rfl))];refine hK.out _ _ (by assumption) (fun hHeld=>?_);clear hK K
     try simp only [Act.put,List.setIfInBounds_toArray,List.set_cons_zero,List.set_cons_succ]
     refine wpAnyH_take (i:=10) (oi:=⟨some 58,_,_,_,_,none⟩) (v:=?v10f) rfl (by kernel_rfl) (by kernel_rfl) (by kernel_rfl) (fun _ _ _ h=>h) (Or.inl ⟨by rfl,?h10f⟩) (by assumption) ?r10f
     case h10f=>(intro w hSw;(try dsimp only at hSw);go_simp;try with_reducible rfl)
     try simp only [Act.put,List.setIfInBounds_toArray,List.set_cons_zero,List.set_cons_succ]
     refine wpAnyH_take (i:=11) (oi:=⟨some 59,_,_,_,_,none⟩) (v:=?v11f) rfl (by kernel_rfl) (by kernel_rfl) (by kernel_rfl) (fun _ _ _ h=>h) (Or.inl ⟨by rfl,?h11f⟩) (by assumption) ?r11f
     case h11f=>(intro w hSw;(try dsimp only at hSw);go_simp;try with_reducible rfl)
     try simp only [Act.put,List.setIfInBounds_toArray,List.set_cons_zero,List.set_cons_succ]
     refine wpAnyH_take (i:=12) (oi:=⟨some 60,_,_,_,_,some (11,true)⟩) (v:=undef) rfl (by kernel_rfl) (by kernel_rfl) (by kernel_rfl) (fun _ _ _ h=>h) (Or.inr ⟨by rfl,rfl⟩) (by assumption) ?_
     try simp only [Act.put,List.setIfInBounds_toArray,List.set_cons_zero,List.set_cons_succ]
     refine wpAnyH_take (i:=13) (oi:=⟨some 61,_,_,_,_,some (11,true)⟩) (v:=undef) rfl (by kernel_rfl) (by kernel_rfl) (by kernel_rfl) (fun _ _ _ h=>h) (Or.inr ⟨by rfl,rfl⟩) (by assumption) ?_
     try simp only [Act.put,List.setIfInBounds_toArray,List.set_cons_zero,List.set_cons_succ]
     refine wpAnyH_take (i:=14) (oi:=⟨some 62,_,_,_,_,some (11,true)⟩) (v:=undef) rfl (by kernel_rfl) (by kernel_rfl) (by kernel_rfl) (fun _ _ _ h=>h) (Or.inr ⟨by rfl,rfl⟩) (by assumption) ?_
     try simp only [Act.put,List.setIfInBounds_toArray,List.set_cons_zero,List.set_cons_succ]
     refine wpAnyH_take (i:=15) (oi:=⟨some 63,_,_,_,_,some (11,true)⟩) (v:=undef) rfl (by kernel_rfl) (by kernel_rfl) (by kernel_rfl) (fun _ _ _ h=>h) (Or.inr ⟨by rfl,rfl⟩) (by assumption) ?_
     try simp only [Act.put,List.setIfInBounds_toArray,List.set_cons_zero,List.set_cons_succ]
     refine wpAnyH_take (i:=16) (oi:=⟨some 64,_,_,_,_,some (11,true)⟩) (v:=undef) rfl (by kernel_rfl) (by kernel_rfl) (by kernel_rfl) (fun _ _ _ h=>h) (Or.inr ⟨by rfl,rfl⟩) (by assumption) ?_
     try simp only [Act.put,List.setIfInBounds_toArray,List.set_cons_zero,List.set_cons_succ]
     refine wpAnyH_take (i:=17) (oi:=⟨some 65,_,_,_,_,some (11,true)⟩) (v:=undef) rfl (by kernel_rfl) (by kernel_rfl) (by kernel_rfl) (fun _ _ _ h=>h) (Or.inr ⟨by rfl,rfl⟩) (by assumption) ?_
     try simp only [Act.put,List.setIfInBounds_toArray,List.set_cons_zero,List.set_cons_succ]
     refine wpAnyH_take (i:=18) (oi:=⟨some 66,_,_,_,_,some (11,true)⟩) (v:=undef) rfl (by kernel_rfl) (by kernel_rfl) (by kernel_rfl) (fun _ _ _ h=>h) (Or.inr ⟨by rfl,rfl⟩) (by assumption) ?_
     try simp only [Act.put,List.setIfInBounds_toArray,List.set_cons_zero,List.set_cons_succ]
     refine wpAnyH_ready (rs:=[19]) (by kernel_rfl) (by simp) ?_;refine AllReadyH.cons (o:=⟨some 67,_,_,_,_,some (11,true)⟩) rfl (fun K hK=>?_) AllReadyH.nil;rw [if_neg (Bool.eq_false_iff.1 (by kernel_rfl))];refine hK.out _ _ (by assumption) (fun hHeld=>?_);clear hK K
     try simp only [Act.put,List.setIfInBounds_toArray,List.set_cons_zero,List.set_cons_succ]
     refine wpAnyH_take (i:=20) (oi:=⟨some 68,_,_,_,_,none⟩) (v:=?v20f) rfl (by kernel_rfl) (by kernel_rfl) (by kernel_rfl) (fun _ _ _ h=>h) (Or.inl ⟨by rfl,?h20f⟩) (by assumption) ?r20f
     case h20f=>(intro w hSw;(try dsimp only at hSw);go_simp;try with_reducible rfl)
     try simp only [Act.put,List.setIfInBounds_toArray,List.set_cons_zero,List.set_cons_succ]
     refine wpAnyH_take (i:=21) (oi:=⟨some 8,_,_,_,_,none⟩) (v:=?v21f) rfl (by kernel_rfl) (by kernel_rfl) (by kernel_rfl) (fun _ _ _ h=>h) (Or.inl ⟨by rfl,?h21f⟩) (by assumption) ?r21f
     case h21f=>(intro w hSw;(try dsimp only at hSw);go_simp;try with_reducible rfl)
     try simp only [Act.put,List.setIfInBounds_toArray,List.set_cons_zero,List.set_cons_succ]
     refine wpAnyH_done (by kernel_rfl) ?_ _;refine NoPanic.normal ?_;go_wp2_with fail;go_ret;rw [HRR.out];exact ⟨ret_bool HR2.out.symm,HK.out.trans kd⟩
   ·rw [if_neg r2] at HR
    by_cases r3:xr=3
    ·subst r3
     rw [if_pos rfl] at HR
     cases ea
     ·have HR2:Hid (R=false):=hid HR.out
      clear HR;go_wp2_with fail;go_ret;rw [HRR.out];exact ⟨ret_bool HR2.out.symm,HK.out⟩
     ·rw [Bool.true_and] at HR
      by_cases hs:inR xs 0 ((k:Int)-1)=true
      ·rw [hs,Bool.true_and] at HR
       obtain ⟨f0,f1⟩:=(HIR.out xf).1 HEA.out;obtain ⟨s0,s1⟩:=(HIR.out xs).1 hs;obtain ⟨jf,rfl⟩:=Int.eq_ofNat_of_zero_le f0;obtain ⟨js,rfl⟩:=Int.eq_ofNat_of_zero_le s0
       have hjf:jf<k:=by omega
       have hjs:js<k:=by omega
       rw [HGE.out jf hjf,HGE.out js hjs] at HR;obtain ⟨_,_,q1,m1,c1,ep,⟨-,-,-,g3⟩,hn1⟩:=(HLS.out w2 HK.out).get jf (by omega)
       cases ep
       obtain ⟨_,_,q2,m2,c2,ep,⟨-,-,-,j3⟩,hn2⟩:=(HLS.out w2 HK.out).get js (by omega)
       cases ep
       have hl2:ls[js].a.length≤1000:=HMM.out _ (List.getElem_mem _);have HN1:=hid (fun wz (kz:Keeps w2 wz)=>hn1.keeps kz);have HN2:=hid (fun wz (kz:Keeps w2 wz)=>hn2.keeps kz);have HJO:=hid (fun wz (kz:Keeps w2 wz)=>l02Pair_any 4 ls[js].a xa _ _ wz (HN2.out wz kz) (HA.out wz (HK.out.trans kz)) (by omega));have HSM:=hid (fun wz u (kz:Keeps w2 wz) (hu:Nds wz u (⟨4,0⟩::(ls[js].a++xa)))=>l02Equal_any ls[jf].a (⟨4,0⟩::(ls[js].a++xa)) _ u wz (HN1.out wz kz) hu);have HL3:Hid ((⟨4,0⟩::(ls[js].a++xa):List Nd).length≤2147483648):=hid (by simp;omega);have HSS:=hid (fun W (kW:Keeps w2 W)=>(⟨kW.cell b1,kW.cell b2,kW.cell b3,kW.cell g3⟩:W.cell? ⟨w.heap.size,1,none⟩=some (.int .i64 ((jf:Nat):Int))∧W.cell? ⟨w.heap.size,2,none⟩=some (.int .i64 ((js:Nat):Int))∧W.cell? ⟨w.heap.size,3,none⟩=some (.slice q m c)∧W.cell? ⟨bl,ol+jf*4+3,none⟩=some (.slice q1 m1 c1)))
       have hfl:((jf:Nat):Int)<ls.length:=by omega
       have hsl:((js:Nat):Int)<ls.length:=by omega
       have HIS:=hid (HIN.out ((js:Nat):Int));rw [hs] at HIS;clear hn1 hn2 HIR HGE hl2;generalize (⟨4,0⟩::(ls[js].a++xa):List Nd)=Z at*;generalize decide (ls[jf].a=Z)=A at*;go_wp2_with fail;refine (HIS.out _).mono ?_;rintro e w5 ⟨rfl,rfl⟩;go_wp2_with fail;refine wp_region_noPanic ?_;refine wp_region_held_drew (S:=(fun w'=>w'.cell? ⟨w.heap.size,1,none⟩=some (.int .i64 ((jf:Nat):Int))∧w'.cell? ⟨w.heap.size,2,none⟩=some (.int .i64 ((js:Nat):Int))∧w'.cell? ⟨w.heap.size,3,none⟩=some (.slice q m c)∧w'.cell? ⟨bl,ol+jf*4+3,none⟩=some (.slice q1 m1 c1))) (by kernel_rfl) (HSS.out _ kd) (fun hHeld=>?_);refine wpAnyH_take (i:=0) (oi:=⟨some 87,_,_,_,_,none⟩) (v:=?v0g) rfl (by kernel_rfl) (by kernel_rfl) (by kernel_rfl) (fun _ _ _ h=>h) (Or.inl ⟨by rfl,?h0g⟩) (by assumption) ?r0g
       case h0g=>(intro w hSw;(try dsimp only at hSw);go_simp;try with_reducible rfl)
       try simp only [Act.put,List.setIfInBounds_toArray,List.set_cons_zero,List.set_cons_succ]
       refine wpAnyH_take (i:=1) (oi:=⟨some 88,_,_,_,_,none⟩) (v:=?v1g) rfl (by kernel_rfl) (by kernel_rfl) (by kernel_rfl) (fun _ _ _ h=>h) (Or.inl ⟨by rfl,?h1g⟩) (by assumption) ?r1g
       case h1g=>(intro w hSw;(try dsimp only at hSw);go_simp;try with_reducible rfl)
       try simp only [Act.put,List.setIfInBounds_toArray,List.set_cons_zero,List.set_cons_succ]
       refine wpAnyH_take (i:=2) (oi:=⟨some 89,_,_,_,_,none⟩) (v:=?v2g) rfl (by kernel_rfl) (by kernel_rfl) (by kernel_rfl) (fun _ _ _ h=>h) (Or.inl ⟨by rfl,?h2g⟩) (by assumption) ?r2g
       case h2g=>(intro w hSw;(try dsimp only at hSw);go_simp;try with_reducible rfl)
       try simp only [Act.put,List.setIfInBounds_toArray,List.set_cons_zero,List.set_cons_succ]
       refine wpAnyH_take (i:=3) (oi:=⟨some 90,_,_,_,_,none⟩) (v:=?v3g) rfl (by kernel_rfl) (by kernel_rfl) (by kernel_rfl) (fun _ _ _ h=>h) (Or.inl ⟨by rfl,?h3g⟩) (by assumption) ?r3g
       case h3g=>(intro w hSw;(try dsimp only at hSw);go_simp;try with_reducible rfl)
       try simp only [Act.put,List.setIfInBounds_toArray,List.set_cons_zero,List.set_cons_succ]
       refine wpAnyH_take (i:=4) (oi:=⟨some 91,_,_,_,_,none⟩) (v:=?v4g) rfl (by kernel_rfl) (by kernel_rfl) (by kernel_rfl) (fun _ _ _ h=>h) (Or.inl ⟨by rfl,?h4g⟩) (by assumption) ?r4g
       case h4g=>(intro w hSw;(try dsimp only at hSw);go_simp;try with_reducible rfl)
       try simp only [Act.put,List.setIfInBounds_toArray,List.set_cons_zero,List.set_cons_succ]
       refine wpAnyH_take (i:=5) (oi:=⟨some 92,_,_,_,_,none⟩) (v:=?v5g) rfl (by kernel_rfl) (by kernel_rfl) (by kernel_rfl) (fun _ _ _ h=>h) (Or.inl ⟨by rfl,?h5g⟩) (by assumption) ?r5g
       case h5g=>(intro w hSw;(try dsimp only at hSw);go_simp;try with_reducible rfl)
       try simp only [Act.put,List.setIfInBounds_toArray,List.set_cons_zero,List.set_cons_succ]
       refine wpAnyH_take (i:=6) (oi:=⟨some 93,_,_,_,_,none⟩) (v:=?v6g) rfl (by kernel_rfl) (by kernel_rfl) (by kernel_rfl) (fun _ _ _ h=>h) (Or.inl ⟨by rfl,?h6g⟩) (by assumption) ?r6g
       case h6g=>(intro w hSw;(try dsimp only at hSw);go_simp;try with_reducible rfl)
       try simp only [Act.put,List.setIfInBounds_toArray,List.set_cons_zero,List.set_cons_succ]
       refine wpAnyH_take (i:=7) (oi:=⟨some 94,_,_,_,_,none⟩) (v:=?v7g) rfl (by kernel_rfl) (by kernel_rfl) (by kernel_rfl) (fun _ _ _ h=>h) (Or.inl ⟨by rfl,?h7g⟩) (by assumption) ?r7g
       case h7g=>(intro w hSw;(try dsimp only at hSw);go_simp;try with_reducible rfl)
       try simp only [Act.put,List.setIfInBounds_toArray,List.set_cons_zero,List.set_cons_succ]
       refine wpAnyH_take (i:=8) (oi:=⟨some 95,_,_,_,_,none⟩) (v:=?v8g) rfl (by kernel_rfl) (by kernel_rfl) (by kernel_rfl) (fun _ _ _ h=>h) (Or.inl ⟨by rfl,?h8g⟩) (by assumption) ?r8g
       case h8g=>(intro w hSw;(try dsimp only at hSw);go_simp;try with_reducible rfl)
       try simp only [Act.put,List.setIfInBounds_toArray,List.set_cons_zero,List.set_cons_succ]
       refine wpAnyH_ready (rs:=[9]) (by kernel_rfl) (by simp) ?_;refine AllReadyH.cons (o:=⟨some 96,_,_,_,_,none⟩) rfl (fun K hK=>?_) AllReadyH.nil
       go_simp
       refine (HJO.out _ kd).mono ?_;rintro e w5 ⟨vj,rfl,hvj,k5⟩;have hvn:=hvj.nds HL3.out;obtain ⟨pj,nj,cj,rfl⟩:=hvn.shape;refine hK.out _ _ (HSS.out _ (kd.trans k5)) (fun hHeld=>?_);clear hK K
       try simp only [Act.put,List.setIfInBounds_toArray,List.set_cons_zero,List.set_cons_succ]
       refine wpAnyH_ready (rs:=[10]) (by kernel_rfl) (by simp) ?_;refine AllReadyH.cons (o:=⟨some 97,_,_,_,_,none⟩) rfl (fun K hK=>?_) AllReadyH.nil
       go_simp
       refine (HSM.out _ _ (kd.trans k5) hvn).mono ?_;rintro e w6 ⟨rfl,k6⟩;refine hK.out _ _ (HSS.out _ (kd.trans (k5.trans k6))) (fun hHeld=>?_);clear hK K
       try simp only [Act.put,List.setIfInBounds_toArray,List.set_cons_zero,List.set_cons_succ]
       refine wpAnyH_take (i:=11) (oi:=⟨some 8,_,_,_,_,none⟩) (v:=?v11g) rfl (by kernel_rfl) (by kernel_rfl) (by kernel_rfl) (fun _ _ _ h=>h) (Or.inl ⟨by rfl,?h11g⟩) (by assumption) ?r11g
       case h11g=>(intro w hSw;(try dsimp only at hSw);go_simp;try with_reducible rfl)
       try simp only [Act.put,List.setIfInBounds_toArray,List.set_cons_zero,List.set_cons_succ]
       refine wpAnyH_done (by kernel_rfl) ?_ _;refine NoPanic.normal ?_;go_wp2_with fail;go_ret;rw [HRR.out];exact ⟨ret_bool HR.out.symm,HK.out.trans (kd.trans (k5.trans k6))⟩
      ·have hs':inR xs 0 ((k:Int)-1)=false:=by simpa using hs
       have HR2:Hid (R=false):=hid (by rw [HR.out,hs'];rfl);have HIS:=hid (HIN.out xs);rw [hs'] at HIS;clear HR hs;go_wp2_with fail;refine (HIS.out _).mono ?_;rintro e w5 ⟨rfl,rfl⟩;go_wp2_with fail;go_ret;rw [HRR.out];exact ⟨ret_bool HR2.out.symm,HK.out⟩
    ·rw [if_neg r3] at HR
     by_cases r4:xr=4
     ·subst r4
      rw [if_pos rfl] at HR;obtain ⟨s8,s9⟩:=syS_int L hL
      by_cases hs:xs=0
      ·subst hs
       rw [decide_eq_true rfl,Bool.true_and] at HR
       cases ea
       ·have HR2:Hid (R=false):=hid (by rw [HR.out];simp)
        have HSS:=hid (fun W (kW:Keeps w2 W)=>(⟨kW.cell b1,kW.cell b2⟩:W.cell? ⟨w.heap.size,1,none⟩=some (.int .i64 xf)∧W.cell? ⟨w.heap.size,2,none⟩=some (.int .i64 0)));clear HR b1 b2 b3 s8 s9;go_wp2_with fail;refine wp_region_noPanic ?_;refine wp_region_held_drew (S:=(fun w'=>w'.cell? ⟨w.heap.size,1,none⟩=some (.int .i64 xf)∧w'.cell? ⟨w.heap.size,2,none⟩=some (.int .i64 0))) (by kernel_rfl) (HSS.out _ kd) (fun hHeld=>?_);refine wpAnyH_take (i:=0) (oi:=⟨some 100,_,_,_,_,none⟩) (v:=?v0h) rfl (by kernel_rfl) (by kernel_rfl) (by kernel_rfl) (fun _ _ _ h=>h) (Or.inl ⟨by rfl,?h0h⟩) (by assumption) ?r0h
        case h0h=>(intro w hSw;(try dsimp only at hSw);go_simp;try with_reducible rfl)
        try simp only [Act.put,List.setIfInBounds_toArray,List.set_cons_zero,List.set_cons_succ]
        refine wpAnyH_take (i:=1) (oi:=⟨some 101,_,_,_,_,none⟩) (v:=?v1h) rfl (by kernel_rfl) (by kernel_rfl) (by kernel_rfl) (fun _ _ _ h=>h) (Or.inl ⟨by rfl,?h1h⟩) (by assumption) ?r1h
        case h1h=>(intro w hSw;(try dsimp only at hSw);go_simp;try with_reducible rfl)
        try simp only [Act.put,List.setIfInBounds_toArray,List.set_cons_zero,List.set_cons_succ]
        refine wpAnyH_take (i:=2) (oi:=⟨some 102,_,_,_,_,none⟩) (v:=?v2h) rfl (by kernel_rfl) (by kernel_rfl) (by kernel_rfl) (fun _ _ _ h=>h) (Or.inl ⟨by rfl,?h2h⟩) (by assumption) ?r2h
        case h2h=>(intro w hSw;(try dsimp only at hSw);go_simp;try with_reducible rfl)
        try simp only [Act.put,List.setIfInBounds_toArray,List.set_cons_zero,List.set_cons_succ]
        refine wpAnyH_take (i:=3) (oi:=⟨some 103,_,_,_,_,none⟩) (v:=?v3h) rfl (by kernel_rfl) (by kernel_rfl) (by kernel_rfl) (fun _ _ _ h=>h) (Or.inl ⟨by rfl,?h3h⟩) (by assumption) ?r3h
        case h3h=>(intro w hSw;(try dsimp only at hSw);go_simp;try with_reducible rfl)
        try simp only [Act.put,List.setIfInBounds_toArray,List.set_cons_zero,List.set_cons_succ]
        refine wpAnyH_take (i:=4) (oi:=⟨some 104,_,_,_,_,some (3,false)⟩) (v:=?v4h) rfl (by kernel_rfl) (by kernel_rfl) (by kernel_rfl) (fun _ _ _ h=>h) (Or.inl ⟨by rfl,?h4h⟩) (by assumption) ?r4h
        case h4h=>(intro w hSw;(try dsimp only at hSw);go_simp;try with_reducible rfl)
        try simp only [Act.put,List.setIfInBounds_toArray,List.set_cons_zero,List.set_cons_succ]
        refine wpAnyH_take (i:=5) (oi:=⟨some 105,_,_,_,_,some (3,false)⟩) (v:=?v5h) rfl (by kernel_rfl) (by kernel_rfl) (by kernel_rfl) (fun _ _ _ h=>h) (Or.inl ⟨by rfl,?h5h⟩) (by assumption) ?r5h
        case h5h=>(intro w hSw;(try dsimp only at hSw);go_simp;try with_reducible rfl)
        try simp only [Act.put,List.setIfInBounds_toArray,List.set_cons_zero,List.set_cons_succ]
        refine wpAnyH_take (i:=6) (oi:=⟨some 106,_,_,_,_,none⟩) (v:=?v6h) rfl (by kernel_rfl) (by kernel_rfl) (by kernel_rfl) (fun _ _ _ h=>h) (Or.inl ⟨by rfl,?h6h⟩) (by assumption) ?r6h
        case h6h=>(intro w hSw;(try dsimp only at hSw);go_simp;try with_reducible rfl)
        try simp only [Act.put,List.setIfInBounds_toArray,List.set_cons_zero,List.set_cons_succ]
        refine wpAnyH_take (i:=7) (oi:=⟨some 107,_,_,_,_,none⟩) (v:=?v7h) rfl (by kernel_rfl) (by kernel_rfl) (by kernel_rfl) (fun _ _ _ h=>h) (Or.inl ⟨by rfl,?h7h⟩) (by assumption) ?r7h
        case h7h=>(intro w hSw;(try dsimp only at hSw);go_simp;try with_reducible rfl)
        try simp only [Act.put,List.setIfInBounds_toArray,List.set_cons_zero,List.set_cons_succ]
        refine wpAnyH_take (i:=8) (oi:=⟨some 108,_,_,_,_,some (7,false)⟩) (v:=undef) rfl (by kernel_rfl) (by kernel_rfl) (by kernel_rfl) (fun _ _ _ h=>h) (Or.inr ⟨by rfl,rfl⟩) (by assumption) ?_
        try simp only [Act.put,List.setIfInBounds_toArray,List.set_cons_zero,List.set_cons_succ]
        refine wpAnyH_take (i:=9) (oi:=⟨some 109,_,_,_,_,some (7,false)⟩) (v:=undef) rfl (by kernel_rfl) (by kernel_rfl) (by kernel_rfl) (fun _ _ _ h=>h) (Or.inr ⟨by rfl,rfl⟩) (by assumption) ?_
        try simp only [Act.put,List.setIfInBounds_toArray,List.set_cons_zero,List.set_cons_succ]
        refine wpAnyH_take (i:=10) (oi:=⟨some 110,_,_,_,_,none⟩) (v:=?v10h) rfl (by kernel_rfl) (by kernel_rfl) (by kernel_rfl) (fun _ _ _ h=>h) (Or.inl ⟨by rfl,?h10h⟩) (by assumption) ?r10h
        case h10h=>(intro w hSw;(try dsimp only at hSw);go_simp;try with_reducible rfl)
        try simp only [Act.put,List.setIfInBounds_toArray,List.set_cons_zero,List.set_cons_succ]
        refine wpAnyH_take (i:=11) (oi:=⟨some 111,_,_,_,_,none⟩) (v:=?v11h) rfl (by kernel_rfl) (by kernel_rfl) (by kernel_rfl) (fun _ _ _ h=>h) (Or.inl ⟨by rfl,?h11h⟩) (by assumption) ?r11h
        case h11h=>(intro w hSw;(try dsimp only at hSw);go_simp;try with_reducible rfl)
        try simp only [Act.put,List.setIfInBounds_toArray,List.set_cons_zero,List.set_cons_succ]
        refine wpAnyH_take (i:=12) (oi:=⟨some 112,_,_,_,_,some (11,false)⟩) (v:=undef) rfl (by kernel_rfl) (by kernel_rfl) (by kernel_rfl) (fun _ _ _ h=>h) (Or.inr ⟨by rfl,rfl⟩) (by assumption) ?_
        try simp only [Act.put,List.setIfInBounds_toArray,List.set_cons_zero,List.set_cons_succ]
        refine wpAnyH_take (i:=13) (oi:=⟨some 113,_,_,_,_,some (11,false)⟩) (v:=undef) rfl (by kernel_rfl) (by kernel_rfl) (by kernel_rfl) (fun _ _ _ h=>h) (Or.inr ⟨by rfl,rfl⟩) (by assumption) ?_
        try simp only [Act.put,List.setIfInBounds_toArray,List.set_cons_zero,List.set_cons_succ]
        refine wpAnyH_take (i:=14) (oi:=⟨some 114,_,_,_,_,none⟩) (v:=?v14h) rfl (by kernel_rfl) (by kernel_rfl) (by kernel_rfl) (fun _ _ _ h=>h) (Or.inl ⟨by rfl,?h14h⟩) (by assumption) ?r14h
        case h14h=>(intro w hSw;(try dsimp only at hSw);go_simp;try with_reducible rfl)
        try simp only [Act.put,List.setIfInBounds_toArray,List.set_cons_zero,List.set_cons_succ]
        refine wpAnyH_take (i:=15) (oi:=⟨some 115,_,_,_,_,none⟩) (v:=?v15h) rfl (by kernel_rfl) (by kernel_rfl) (by kernel_rfl) (fun _ _ _ h=>h) (Or.inl ⟨by rfl,?h15h⟩) (by assumption) ?r15h
        case h15h=>(intro w hSw;(try dsimp only at hSw);go_simp;try with_reducible rfl)
        try simp only [Act.put,List.setIfInBounds_toArray,List.set_cons_zero,List.set_cons_succ]
        refine wpAnyH_take (i:=16) (oi:=⟨some 116,_,_,_,_,some (15,false)⟩) (v:=undef) rfl (by kernel_rfl) (by kernel_rfl) (by kernel_rfl) (fun _ _ _ h=>h) (Or.inr ⟨by rfl,rfl⟩) (by assumption) ?_
        try simp only [Act.put,List.setIfInBounds_toArray,List.set_cons_zero,List.set_cons_succ]
        refine wpAnyH_take (i:=17) (oi:=⟨some 117,_,_,_,_,some (15,false)⟩) (v:=undef) rfl (by kernel_rfl) (by kernel_rfl) (by kernel_rfl) (fun _ _ _ h=>h) (Or.inr ⟨by rfl,rfl⟩) (by assumption) ?_
        try simp only [Act.put,List.setIfInBounds_toArray,List.set_cons_zero,List.set_cons_succ]
        refine wpAnyH_take (i:=18) (oi:=⟨some 118,_,_,_,_,some (15,false)⟩) (v:=undef) rfl (by kernel_rfl) (by kernel_rfl) (by kernel_rfl) (fun _ _ _ h=>h) (Or.inr ⟨by rfl,rfl⟩) (by assumption) ?_
        try simp only [Act.put,List.setIfInBounds_toArray,List.set_cons_zero,List.set_cons_succ]
        refine wpAnyH_take (i:=19) (oi:=⟨some 119,_,_,_,_,some (15,false)⟩) (v:=undef) rfl (by kernel_rfl) (by kernel_rfl) (by kernel_rfl) (fun _ _ _ h=>h) (Or.inr ⟨by rfl,rfl⟩) (by assumption) ?_
        try simp only [Act.put,List.setIfInBounds_toArray,List.set_cons_zero,List.set_cons_succ]
        refine wpAnyH_take (i:=20) (oi:=⟨some 120,_,_,_,_,some (15,false)⟩) (v:=undef) rfl (by kernel_rfl) (by kernel_rfl) (by kernel_rfl) (fun _ _ _ h=>h) (Or.inr ⟨by rfl,rfl⟩) (by assumption) ?_
        try simp only [Act.put,List.setIfInBounds_toArray,List.set_cons_zero,List.set_cons_succ]
        refine wpAnyH_take (i:=21) (oi:=⟨some 121,_,_,_,_,some (15,false)⟩) (v:=undef) rfl (by kernel_rfl) (by kernel_rfl) (by kernel_rfl) (fun _ _ _ h=>h) (Or.inr ⟨by rfl,rfl⟩) (by assumption) ?_
        try simp only [Act.put,List.setIfInBounds_toArray,List.set_cons_zero,List.set_cons_succ]
        refine wpAnyH_take (i:=22) (oi:=⟨some 122,_,_,_,_,some (15,false)⟩) (v:=undef) rfl (by kernel_rfl) (by kernel_rfl) (by kernel_rfl) (fun _ _ _ h=>h) (Or.inr ⟨by rfl,rfl⟩) (by assumption) ?_
        try simp only [Act.put,List.setIfInBounds_toArray,List.set_cons_zero,List.set_cons_succ]
        refine wpAnyH_take (i:=23) (oi:=⟨some 123,_,_,_,_,some (15,false)⟩) (v:=undef) rfl (by kernel_rfl) (by kernel_rfl) (by kernel_rfl) (fun _ _ _ h=>h) (Or.inr ⟨by rfl,rfl⟩) (by assumption) ?_
        try simp only [Act.put,List.setIfInBounds_toArray,List.set_cons_zero,List.set_cons_succ]
        refine wpAnyH_ready (rs:=[24]) (by kernel_rfl) (by simp) ?_;refine AllReadyH.cons (o:=⟨some 124,_,_,_,_,some (15,false)⟩) rfl (fun K hK=>?_) AllReadyH.nil;rw [if_neg (Bool.eq_false_iff.1 (by kernel_rfl))];refine hK.out _ _ (by assumption) (fun hHeld=>?_);clear hK K
        try simp only [Act.put,List.setIfInBounds_toArray,List.set_cons_zero,List.set_cons_succ]
        refine wpAnyH_ready (rs:=[25]) (by kernel_rfl) (by simp) ?_;refine AllReadyH.cons (o:=⟨some 125,_,_,_,_,some (15,false)⟩) rfl (fun K hK=>?_) AllReadyH.nil;rw [if_neg (Bool.eq_false_iff.1 (by kernel_rfl))];refine hK.out _ _ (by assumption) (fun hHeld=>?_);clear hK K
        try simp only [Act.put,List.setIfInBounds_toArray,List.set_cons_zero,List.set_cons_succ]
        refine wpAnyH_take (i:=26) (oi:=⟨some 126,_,_,_,_,some (15,false)⟩) (v:=undef) rfl (by kernel_rfl) (by kernel_rfl) (by kernel_rfl) (fun _ _ _ h=>h) (Or.inr ⟨by rfl,rfl⟩) (by assumption) ?_
        try simp only [Act.put,List.setIfInBounds_toArray,List.set_cons_zero,List.set_cons_succ]
        refine wpAnyH_take (i:=27) (oi:=⟨some 127,_,_,_,_,none⟩) (v:=?v27h) rfl (by kernel_rfl) (by kernel_rfl) (by kernel_rfl) (fun _ _ _ h=>h) (Or.inl ⟨by rfl,?h27h⟩) (by assumption) ?r27h
        case h27h=>(intro w hSw;(try dsimp only at hSw);go_simp;try with_reducible rfl)
        try simp only [Act.put,List.setIfInBounds_toArray,List.set_cons_zero,List.set_cons_succ]
        refine wpAnyH_done (by kernel_rfl) ?_ _;refine NoPanic.normal ?_;go_wp2_with fail;go_ret;rw [HRR.out];exact ⟨ret_bool HR2.out.symm,HK.out.trans kd⟩
       ·rw [Bool.true_and] at HR
        by_cases h8:L=8
        ·have HR2:Hid (R=false):=hid (by rw [HR.out,decide_eq_false (fun h=>h.1 h8)];rfl)
         rw [decide_eq_true h8] at s8;have HSS:=hid (fun W (kW:Keeps w2 W)=>(⟨kW.cell b1,kW.cell b2⟩:W.cell? ⟨w.heap.size,1,none⟩=some (.int .i64 xf)∧W.cell? ⟨w.heap.size,2,none⟩=some (.int .i64 0)));clear HR b1 b2 b3 s9 h8;go_wp2_with fail;refine wp_region_noPanic ?_;refine wp_region_held_drew (S:=(fun w'=>w'.cell? ⟨w.heap.size,1,none⟩=some (.int .i64 xf)∧w'.cell? ⟨w.heap.size,2,none⟩=some (.int .i64 0))) (by kernel_rfl) (HSS.out _ kd) (fun hHeld=>?_);refine wpAnyH_take (i:=0) (oi:=⟨some 100,_,_,_,_,none⟩) (v:=?v0i) rfl (by kernel_rfl) (by kernel_rfl) (by kernel_rfl) (fun _ _ _ h=>h) (Or.inl ⟨by rfl,?h0i⟩) (by assumption) ?r0i
         case h0i=>(intro w hSw;(try dsimp only at hSw);go_simp;try with_reducible rfl)
         try simp only [Act.put,List.setIfInBounds_toArray,List.set_cons_zero,List.set_cons_succ]
         refine wpAnyH_take (i:=1) (oi:=⟨some 101,_,_,_,_,none⟩) (v:=?v1i) rfl (by kernel_rfl) (by kernel_rfl) (by kernel_rfl) (fun _ _ _ h=>h) (Or.inl ⟨by rfl,?h1i⟩) (by assumption) ?r1i
         case h1i=>(intro w hSw;(try dsimp only at hSw);go_simp;try with_reducible rfl)
         try simp only [Act.put,List.setIfInBounds_toArray,List.set_cons_zero,List.set_cons_succ]
         refine wpAnyH_take (i:=2) (oi:=⟨some 102,_,_,_,_,none⟩) (v:=?v2i) rfl (by kernel_rfl) (by kernel_rfl) (by kernel_rfl) (fun _ _ _ h=>h) (Or.inl ⟨by rfl,?h2i⟩) (by assumption) ?r2i
         case h2i=>(intro w hSw;(try dsimp only at hSw);go_simp;try with_reducible rfl)
         try simp only [Act.put,List.setIfInBounds_toArray,List.set_cons_zero,List.set_cons_succ]
         refine wpAnyH_take (i:=3) (oi:=⟨some 103,_,_,_,_,none⟩) (v:=?v3i) rfl (by kernel_rfl) (by kernel_rfl) (by kernel_rfl) (fun _ _ _ h=>h) (Or.inl ⟨by rfl,?h3i⟩) (by assumption) ?r3i
         case h3i=>(intro w hSw;(try dsimp only at hSw);go_simp;try with_reducible rfl)
         try simp only [Act.put,List.setIfInBounds_toArray,List.set_cons_zero,List.set_cons_succ]
         refine wpAnyH_take (i:=4) (oi:=⟨some 104,_,_,_,_,some (3,false)⟩) (v:=?v4i) rfl (by kernel_rfl) (by kernel_rfl) (by kernel_rfl) (fun _ _ _ h=>h) (Or.inl ⟨by rfl,?h4i⟩) (by assumption) ?r4i
         case h4i=>(intro w hSw;(try dsimp only at hSw);go_simp;try with_reducible rfl)
         try simp only [Act.put,List.setIfInBounds_toArray,List.set_cons_zero,List.set_cons_succ]
         refine wpAnyH_take (i:=5) (oi:=⟨some 105,_,_,_,_,some (3,false)⟩) (v:=?v5i) rfl (by kernel_rfl) (by kernel_rfl) (by kernel_rfl) (fun _ _ _ h=>h) (Or.inl ⟨by rfl,?h5i⟩) (by assumption) ?r5i
         case h5i=>(intro w hSw;(try dsimp only at hSw);go_simp;try with_reducible rfl)
         try simp only [Act.put,List.setIfInBounds_toArray,List.set_cons_zero,List.set_cons_succ]
         refine wpAnyH_take (i:=6) (oi:=⟨some 106,_,_,_,_,none⟩) (v:=?v6i) rfl (by kernel_rfl) (by kernel_rfl) (by kernel_rfl) (fun _ _ _ h=>h) (Or.inl ⟨by rfl,?h6i⟩) (by assumption) ?r6i
         case h6i=>(intro w hSw;(try dsimp only at hSw);go_simp;try with_reducible rfl)
         try simp only [Act.put,List.setIfInBounds_toArray,List.set_cons_zero,List.set_cons_succ]
         refine wpAnyH_take (i:=7) (oi:=⟨some 107,_,_,_,_,none⟩) (v:=?v7i) rfl (by kernel_rfl) (by kernel_rfl) (by kernel_rfl) (fun _ _ _ h=>h) (Or.inl ⟨by rfl,?h7i⟩) (by assumption) ?r7i
         case h7i=>(intro w hSw;(try dsimp only at hSw);go_simp;try with_reducible rfl)
         try simp only [Act.put,List.setIfInBounds_toArray,List.set_cons_zero,List.set_cons_succ]
         refine wpAnyH_take (i:=8) (oi:=⟨some 108,_,_,_,_,some (7,false)⟩) (v:=?v8i) rfl (by kernel_rfl) (by kernel_rfl) (by kernel_rfl) (fun _ _ _ h=>h) (Or.inl ⟨by rfl,?h8i⟩) (by assumption) ?r8i
         case h8i=>(intro w hSw;(try dsimp only at hSw);go_simp;try with_reducible rfl)
         try simp only [Act.put,List.setIfInBounds_toArray,List.set_cons_zero,List.set_cons_succ]
         refine wpAnyH_take (i:=9) (oi:=⟨some 109,_,_,_,_,some (7,false)⟩) (v:=?v9i) rfl (by kernel_rfl) (by kernel_rfl) (by kernel_rfl) (fun _ _ _ h=>h) (Or.inl ⟨by rfl,?h9i⟩) (by assumption) ?r9i
         case h9i=>(intro w hSw;(try dsimp only at hSw);go_simp;try with_reducible rfl)
         try simp only [Act.put,List.setIfInBounds_toArray,List.set_cons_zero,List.set_cons_succ]
         refine wpAnyH_take (i:=10) (oi:=⟨some 110,_,_,_,_,none⟩) (v:=?v10i) rfl (by kernel_rfl) (by kernel_rfl) (by kernel_rfl) (fun _ _ _ h=>h) (Or.inl ⟨by rfl,?h10i⟩) (by assumption) ?r10i
         case h10i=>(intro w hSw;(try dsimp only at hSw);go_simp;try with_reducible rfl)
         try simp only [Act.put,List.setIfInBounds_toArray,List.set_cons_zero,List.set_cons_succ]
         refine wpAnyH_take (i:=11) (oi:=⟨some 111,_,_,_,_,none⟩) (v:=?v11i) rfl (by kernel_rfl) (by kernel_rfl) (by kernel_rfl) (fun _ _ _ h=>h) (Or.inl ⟨by rfl,?h11i⟩) (by assumption) ?r11i
         case h11i=>(intro w hSw;(try dsimp only at hSw);go_simp;try with_reducible rfl)
         try simp only [Act.put,List.setIfInBounds_toArray,List.set_cons_zero,List.set_cons_succ]
         refine wpAnyH_take (i:=12) (oi:=⟨some 112,_,_,_,_,some (11,false)⟩) (v:=undef) rfl (by kernel_rfl) (by kernel_rfl) (by kernel_rfl) (fun _ _ _ h=>h) (Or.inr ⟨by rfl,rfl⟩) (by assumption) ?_
         try simp only [Act.put,List.setIfInBounds_toArray,List.set_cons_zero,List.set_cons_succ]
         refine wpAnyH_take (i:=13) (oi:=⟨some 113,_,_,_,_,some (11,false)⟩) (v:=undef) rfl (by kernel_rfl) (by kernel_rfl) (by kernel_rfl) (fun _ _ _ h=>h) (Or.inr ⟨by rfl,rfl⟩) (by assumption) ?_
         try simp only [Act.put,List.setIfInBounds_toArray,List.set_cons_zero,List.set_cons_succ]
         refine wpAnyH_take (i:=14) (oi:=⟨some 114,_,_,_,_,none⟩) (v:=?v14i) rfl (by kernel_rfl) (by kernel_rfl) (by kernel_rfl) (fun _ _ _ h=>h) (Or.inl ⟨by rfl,?h14i⟩) (by assumption) ?r14i
         case h14i=>(intro w hSw;(try dsimp only at hSw);go_simp;try with_reducible rfl)
         try simp only [Act.put,List.setIfInBounds_toArray,List.set_cons_zero,List.set_cons_succ]
         refine wpAnyH_take (i:=15) (oi:=⟨some 115,_,_,_,_,none⟩) (v:=?v15i) rfl (by kernel_rfl) (by kernel_rfl) (by kernel_rfl) (fun _ _ _ h=>h) (Or.inl ⟨by rfl,?h15i⟩) (by assumption) ?r15i
         case h15i=>(intro w hSw;(try dsimp only at hSw);go_simp;try with_reducible rfl)
         try simp only [Act.put,List.setIfInBounds_toArray,List.set_cons_zero,List.set_cons_succ]
         refine wpAnyH_take (i:=16) (oi:=⟨some 116,_,_,_,_,some (15,false)⟩) (v:=undef) rfl (by kernel_rfl) (by kernel_rfl) (by kernel_rfl) (fun _ _ _ h=>h) (Or.inr ⟨by rfl,rfl⟩) (by assumption) ?_
         try simp only [Act.put,List.setIfInBounds_toArray,List.set_cons_zero,List.set_cons_succ]
         refine wpAnyH_take (i:=17) (oi:=⟨some 117,_,_,_,_,some (15,false)⟩) (v:=undef) rfl (by kernel_rfl) (by kernel_rfl) (by kernel_rfl) (fun _ _ _ h=>h) (Or.inr ⟨by rfl,rfl⟩) (by assumption) ?_
         try simp only [Act.put,List.setIfInBounds_toArray,List.set_cons_zero,List.set_cons_succ]
         refine wpAnyH_take (i:=18) (oi:=⟨some 118,_,_,_,_,some (15,false)⟩) (v:=undef) rfl (by kernel_rfl) (by kernel_rfl) (by kernel_rfl) (fun _ _ _ h=>h) (Or.inr ⟨by rfl,rfl⟩) (by assumption) ?_
         try simp only [Act.put,List.setIfInBounds_toArray,List.set_cons_zero,List.set_cons_succ]
         refine wpAnyH_take (i:=19) (oi:=⟨some 119,_,_,_,_,some (15,false)⟩) (v:=undef) rfl (by kernel_rfl) (by kernel_rfl) (by kernel_rfl) (fun _ _ _ h=>h) (Or.inr ⟨by rfl,rfl⟩) (by assumption) ?_
         try simp only [Act.put,List.setIfInBounds_toArray,List.set_cons_zero,List.set_cons_succ]
         refine wpAnyH_take (i:=20) (oi:=⟨some 120,_,_,_,_,some (15,false)⟩) (v:=undef) rfl (by kernel_rfl) (by kernel_rfl) (by kernel_rfl) (fun _ _ _ h=>h) (Or.inr ⟨by rfl,rfl⟩) (by assumption) ?_
         try simp only [Act.put,List.setIfInBounds_toArray,List.set_cons_zero,List.set_cons_succ]
         refine wpAnyH_take (i:=21) (oi:=⟨some 121,_,_,_,_,some (15,false)⟩) (v:=undef) rfl (by kernel_rfl) (by kernel_rfl) (by kernel_rfl) (fun _ _ _ h=>h) (Or.inr ⟨by rfl,rfl⟩) (by assumption) ?_
         try simp only [Act.put,List.setIfInBounds_toArray,List.set_cons_zero,List.set_cons_succ]
         refine wpAnyH_take (i:=22) (oi:=⟨some 122,_,_,_,_,some (15,false)⟩) (v:=undef) rfl (by kernel_rfl) (by kernel_rfl) (by kernel_rfl) (fun _ _ _ h=>h) (Or.inr ⟨by rfl,rfl⟩) (by assumption) ?_
         try simp only [Act.put,List.setIfInBounds_toArray,List.set_cons_zero,List.set_cons_succ]
         refine wpAnyH_take (i:=23) (oi:=⟨some 123,_,_,_,_,some (15,false)⟩) (v:=undef) rfl (by kernel_rfl) (by kernel_rfl) (by kernel_rfl) (fun _ _ _ h=>h) (Or.inr ⟨by rfl,rfl⟩) (by assumption) ?_
         try simp only [Act.put,List.setIfInBounds_toArray,List.set_cons_zero,List.set_cons_succ]
         refine wpAnyH_ready (rs:=[24]) (by kernel_rfl) (by simp) ?_;refine AllReadyH.cons (o:=⟨some 124,_,_,_,_,some (15,false)⟩) rfl (fun K hK=>?_) AllReadyH.nil;rw [if_neg (Bool.eq_false_iff.1 (by kernel_rfl))];refine hK.out _ _ (by assumption) (fun hHeld=>?_);clear hK K
         try simp only [Act.put,List.setIfInBounds_toArray,List.set_cons_zero,List.set_cons_succ]
         refine wpAnyH_ready (rs:=[25]) (by kernel_rfl) (by simp) ?_;refine AllReadyH.cons (o:=⟨some 125,_,_,_,_,some (15,false)⟩) rfl (fun K hK=>?_) AllReadyH.nil;rw [if_neg (Bool.eq_false_iff.1 (by kernel_rfl))];refine hK.out _ _ (by assumption) (fun hHeld=>?_);clear hK K
         try simp only [Act.put,List.setIfInBounds_toArray,List.set_cons_zero,List.set_cons_succ]
         refine wpAnyH_take (i:=26) (oi:=⟨some 126,_,_,_,_,some (15,false)⟩) (v:=undef) rfl (by kernel_rfl) (by kernel_rfl) (by kernel_rfl) (fun _ _ _ h=>h) (Or.inr ⟨by rfl,rfl⟩) (by assumption) ?_
         try simp only [Act.put,List.setIfInBounds_toArray,List.set_cons_zero,List.set_cons_succ]
         refine wpAnyH_take (i:=27) (oi:=⟨some 127,_,_,_,_,none⟩) (v:=?v27i) rfl (by kernel_rfl) (by kernel_rfl) (by kernel_rfl) (fun _ _ _ h=>h) (Or.inl ⟨by rfl,?h27i⟩) (by assumption) ?r27i
         case h27i=>(intro w hSw;(try dsimp only at hSw);go_simp;try with_reducible rfl)
         try simp only [Act.put,List.setIfInBounds_toArray,List.set_cons_zero,List.set_cons_succ]
         refine wpAnyH_done (by kernel_rfl) ?_ _;refine NoPanic.normal ?_;go_wp2_with fail;go_ret;rw [HRR.out];exact ⟨ret_bool HR2.out.symm,HK.out.trans kd⟩
        ·rw [decide_eq_false h8] at s8
         by_cases h9:L=9
         ·have HR2:Hid (R=false):=hid (by rw [HR.out,decide_eq_false (fun h=>h.2 h9)];rfl)
          rw [decide_eq_true h9] at s9;have HSS:=hid (fun W (kW:Keeps w2 W)=>(⟨kW.cell b1,kW.cell b2⟩:W.cell? ⟨w.heap.size,1,none⟩=some (.int .i64 xf)∧W.cell? ⟨w.heap.size,2,none⟩=some (.int .i64 0)));clear HR b1 b2 b3 h9 h8;go_wp2_with fail;refine wp_region_noPanic ?_;refine wp_region_held_drew (S:=(fun w'=>w'.cell? ⟨w.heap.size,1,none⟩=some (.int .i64 xf)∧w'.cell? ⟨w.heap.size,2,none⟩=some (.int .i64 0))) (by kernel_rfl) (HSS.out _ kd) (fun hHeld=>?_);refine wpAnyH_take (i:=0) (oi:=⟨some 100,_,_,_,_,none⟩) (v:=?v0j) rfl (by kernel_rfl) (by kernel_rfl) (by kernel_rfl) (fun _ _ _ h=>h) (Or.inl ⟨by rfl,?h0j⟩) (by assumption) ?r0j
          case h0j=>(intro w hSw;(try dsimp only at hSw);go_simp;try with_reducible rfl)
          try simp only [Act.put,List.setIfInBounds_toArray,List.set_cons_zero,List.set_cons_succ]
          refine wpAnyH_take (i:=1) (oi:=⟨some 101,_,_,_,_,none⟩) (v:=?v1j) rfl (by kernel_rfl) (by kernel_rfl) (by kernel_rfl) (fun _ _ _ h=>h) (Or.inl ⟨by rfl,?h1j⟩) (by assumption) ?r1j
          case h1j=>(intro w hSw;(try dsimp only at hSw);go_simp;try with_reducible rfl)
          try simp only [Act.put,List.setIfInBounds_toArray,List.set_cons_zero,List.set_cons_succ]
          refine wpAnyH_take (i:=2) (oi:=⟨some 102,_,_,_,_,none⟩) (v:=?v2j) rfl (by kernel_rfl) (by kernel_rfl) (by kernel_rfl) (fun _ _ _ h=>h) (Or.inl ⟨by rfl,?h2j⟩) (by assumption) ?r2j
          case h2j=>(intro w hSw;(try dsimp only at hSw);go_simp;try with_reducible rfl)
          try simp only [Act.put,List.setIfInBounds_toArray,List.set_cons_zero,List.set_cons_succ]
          refine wpAnyH_take (i:=3) (oi:=⟨some 103,_,_,_,_,none⟩) (v:=?v3j) rfl (by kernel_rfl) (by kernel_rfl) (by kernel_rfl) (fun _ _ _ h=>h) (Or.inl ⟨by rfl,?h3j⟩) (by assumption) ?r3j
          case h3j=>(intro w hSw;(try dsimp only at hSw);go_simp;try with_reducible rfl)
          try simp only [Act.put,List.setIfInBounds_toArray,List.set_cons_zero,List.set_cons_succ]
          refine wpAnyH_take (i:=4) (oi:=⟨some 104,_,_,_,_,some (3,false)⟩) (v:=?v4j) rfl (by kernel_rfl) (by kernel_rfl) (by kernel_rfl) (fun _ _ _ h=>h) (Or.inl ⟨by rfl,?h4j⟩) (by assumption) ?r4j
          case h4j=>(intro w hSw;(try dsimp only at hSw);go_simp;try with_reducible rfl)
          try simp only [Act.put,List.setIfInBounds_toArray,List.set_cons_zero,List.set_cons_succ]
          refine wpAnyH_take (i:=5) (oi:=⟨some 105,_,_,_,_,some (3,false)⟩) (v:=?v5j) rfl (by kernel_rfl) (by kernel_rfl) (by kernel_rfl) (fun _ _ _ h=>h) (Or.inl ⟨by rfl,?h5j⟩) (by assumption) ?r5j
          case h5j=>(intro w hSw;(try dsimp only at hSw);go_simp;try with_reducible rfl)
          try simp only [Act.put,List.setIfInBounds_toArray,List.set_cons_zero,List.set_cons_succ]
          refine wpAnyH_take (i:=6) (oi:=⟨some 106,_,_,_,_,none⟩) (v:=?v6j) rfl (by kernel_rfl) (by kernel_rfl) (by kernel_rfl) (fun _ _ _ h=>h) (Or.inl ⟨by rfl,?h6j⟩) (by assumption) ?r6j
          case h6j=>(intro w hSw;(try dsimp only at hSw);go_simp;try with_reducible rfl)
          try simp only [Act.put,List.setIfInBounds_toArray,List.set_cons_zero,List.set_cons_succ]
          refine wpAnyH_take (i:=7) (oi:=⟨some 107,_,_,_,_,none⟩) (v:=?v7j) rfl (by kernel_rfl) (by kernel_rfl) (by kernel_rfl) (fun _ _ _ h=>h) (Or.inl ⟨by rfl,?h7j⟩) (by assumption) ?r7j
          case h7j=>(intro w hSw;(try dsimp only at hSw);go_simp;try with_reducible rfl)
          try simp only [Act.put,List.setIfInBounds_toArray,List.set_cons_zero,List.set_cons_succ]
          refine wpAnyH_take (i:=8) (oi:=⟨some 108,_,_,_,_,some (7,false)⟩) (v:=?v8j) rfl (by kernel_rfl) (by kernel_rfl) (by kernel_rfl) (fun _ _ _ h=>h) (Or.inl ⟨by rfl,?h8j⟩) (by assumption) ?r8j
          case h8j=>(intro w hSw;(try dsimp only at hSw);go_simp;try with_reducible rfl)
          try simp only [Act.put,List.setIfInBounds_toArray,List.set_cons_zero,List.set_cons_succ]
          refine wpAnyH_take (i:=9) (oi:=⟨some 109,_,_,_,_,some (7,false)⟩) (v:=?v9j) rfl (by kernel_rfl) (by kernel_rfl) (by kernel_rfl) (fun _ _ _ h=>h) (Or.inl ⟨by rfl,?h9j⟩) (by assumption) ?r9j
          case h9j=>(intro w hSw;(try dsimp only at hSw);go_simp;try with_reducible rfl)
          try simp only [Act.put,List.setIfInBounds_toArray,List.set_cons_zero,List.set_cons_succ]
          refine wpAnyH_take (i:=10) (oi:=⟨some 110,_,_,_,_,none⟩) (v:=?v10j) rfl (by kernel_rfl) (by kernel_rfl) (by kernel_rfl) (fun _ _ _ h=>h) (Or.inl ⟨by rfl,?h10j⟩) (by assumption) ?r10j
          case h10j=>(intro w hSw;(try dsimp only at hSw);go_simp;try with_reducible rfl)
          try simp only [Act.put,List.setIfInBounds_toArray,List.set_cons_zero,List.set_cons_succ]
          refine wpAnyH_take (i:=11) (oi:=⟨some 111,_,_,_,_,none⟩) (v:=?v11j) rfl (by kernel_rfl) (by kernel_rfl) (by kernel_rfl) (fun _ _ _ h=>h) (Or.inl ⟨by rfl,?h11j⟩) (by assumption) ?r11j
          case h11j=>(intro w hSw;(try dsimp only at hSw);go_simp;try with_reducible rfl)
          try simp only [Act.put,List.setIfInBounds_toArray,List.set_cons_zero,List.set_cons_succ]
          refine wpAnyH_take (i:=12) (oi:=⟨some 112,_,_,_,_,some (11,false)⟩) (v:=?v12j) rfl (by kernel_rfl) (by kernel_rfl) (by kernel_rfl) (fun _ _ _ h=>h) (Or.inl ⟨by rfl,?h12j⟩) (by assumption) ?r12j
          case h12j=>(intro w hSw;(try dsimp only at hSw);go_simp;try with_reducible rfl)
          try simp only [Act.put,List.setIfInBounds_toArray,List.set_cons_zero,List.set_cons_succ]
          refine wpAnyH_take (i:=13) (oi:=⟨some 113,_,_,_,_,some (11,false)⟩) (v:=?v13j) rfl (by kernel_rfl) (by kernel_rfl) (by kernel_rfl) (fun _ _ _ h=>h) (Or.inl ⟨by rfl,?h13j⟩) (by assumption) ?r13j
          case h13j=>(intro w hSw;(try dsimp only at hSw);go_simp;try with_reducible rfl)
          try simp only [Act.put,List.setIfInBounds_toArray,List.set_cons_zero,List.set_cons_succ]
          refine wpAnyH_take (i:=14) (oi:=⟨some 114,_,_,_,_,none⟩) (v:=?v14j) rfl (by kernel_rfl) (by kernel_rfl) (by kernel_rfl) (fun _ _ _ h=>h) (Or.inl ⟨by rfl,?h14j⟩) (by assumption) ?r14j
          case h14j=>(intro w hSw;(try dsimp only at hSw);go_simp;try with_reducible rfl)
          try simp only [Act.put,List.setIfInBounds_toArray,List.set_cons_zero,List.set_cons_succ]
          refine wpAnyH_take (i:=15) (oi:=⟨some 115,_,_,_,_,none⟩) (v:=?v15j) rfl (by kernel_rfl) (by kernel_rfl) (by kernel_rfl) (fun _ _ _ h=>h) (Or.inl ⟨by rfl,?h15j⟩) (by assumption) ?r15j
          case h15j=>(intro w hSw;(try dsimp only at hSw);go_simp;try with_reducible rfl)
          try simp only [Act.put,List.setIfInBounds_toArray,List.set_cons_zero,List.set_cons_succ]
          refine wpAnyH_take (i:=16) (oi:=⟨some 116,_,_,_,_,some (15,false)⟩) (v:=undef) rfl (by kernel_rfl) (by kernel_rfl) (by kernel_rfl) (fun _ _ _ h=>h) (Or.inr ⟨by rfl,rfl⟩) (by assumption) ?_
          try simp only [Act.put,List.setIfInBounds_toArray,List.set_cons_zero,List.set_cons_succ]
          refine wpAnyH_take (i:=17) (oi:=⟨some 117,_,_,_,_,some (15,false)⟩) (v:=undef) rfl (by kernel_rfl) (by kernel_rfl) (by kernel_rfl) (fun _ _ _ h=>h) (Or.inr ⟨by rfl,rfl⟩) (by assumption) ?_
          try simp only [Act.put,List.setIfInBounds_toArray,List.set_cons_zero,List.set_cons_succ]
          refine wpAnyH_take (i:=18) (oi:=⟨some 118,_,_,_,_,some (15,false)⟩) (v:=undef) rfl (by kernel_rfl) (by kernel_rfl) (by kernel_rfl) (fun _ _ _ h=>h) (Or.inr ⟨by rfl,rfl⟩) (by assumption) ?_
          try simp only [Act.put,List.setIfInBounds_toArray,List.set_cons_zero,List.set_cons_succ]
          refine wpAnyH_take (i:=19) (oi:=⟨some 119,_,_,_,_,some (15,false)⟩) (v:=undef) rfl (by kernel_rfl) (by kernel_rfl) (by kernel_rfl) (fun _ _ _ h=>h) (Or.inr ⟨by rfl,rfl⟩) (by assumption) ?_
          try simp only [Act.put,List.setIfInBounds_toArray,List.set_cons_zero,List.set_cons_succ]
          refine wpAnyH_take (i:=20) (oi:=⟨some 120,_,_,_,_,some (15,false)⟩) (v:=undef) rfl (by kernel_rfl) (by kernel_rfl) (by kernel_rfl) (fun _ _ _ h=>h) (Or.inr ⟨by rfl,rfl⟩) (by assumption) ?_
          try simp only [Act.put,List.setIfInBounds_toArray,List.set_cons_zero,List.set_cons_succ]
          refine wpAnyH_take (i:=21) (oi:=⟨some 121,_,_,_,_,some (15,false)⟩) (v:=undef) rfl (by kernel_rfl) (by kernel_rfl) (by kernel_rfl) (fun _ _ _ h=>h) (Or.inr ⟨by rfl,rfl⟩) (by assumption) ?_
          try simp only [Act.put,List.setIfInBounds_toArray,List.set_cons_zero,List.set_cons_succ]
          refine wpAnyH_take (i:=22) (oi:=⟨some 122,_,_,_,_,some (15,false)⟩) (v:=undef) rfl (by kernel_rfl) (by kernel_rfl) (by kernel_rfl) (fun _ _ _ h=>h) (Or.inr ⟨by rfl,rfl⟩) (by assumption) ?_
          try simp only [Act.put,List.setIfInBounds_toArray,List.set_cons_zero,List.set_cons_succ]
          refine wpAnyH_take (i:=23) (oi:=⟨some 123,_,_,_,_,some (15,false)⟩) (v:=undef) rfl (by kernel_rfl) (by kernel_rfl) (by kernel_rfl) (fun _ _ _ h=>h) (Or.inr ⟨by rfl,rfl⟩) (by assumption) ?_
          try simp only [Act.put,List.setIfInBounds_toArray,List.set_cons_zero,List.set_cons_succ]
          refine wpAnyH_ready (rs:=[24]) (by kernel_rfl) (by simp) ?_;refine AllReadyH.cons (o:=⟨some 124,_,_,_,_,some (15,false)⟩) rfl (fun K hK=>?_) AllReadyH.nil;rw [if_neg (Bool.eq_false_iff.1 (by kernel_rfl))];refine hK.out _ _ (by assumption) (fun hHeld=>?_);clear hK K
          try simp only [Act.put,List.setIfInBounds_toArray,List.set_cons_zero,List.set_cons_succ]
          refine wpAnyH_ready (rs:=[25]) (by kernel_rfl) (by simp) ?_;refine AllReadyH.cons (o:=⟨some 125,_,_,_,_,some (15,false)⟩) rfl (fun K hK=>?_) AllReadyH.nil;rw [if_neg (Bool.eq_false_iff.1 (by kernel_rfl))];refine hK.out _ _ (by assumption) (fun hHeld=>?_);clear hK K
          try simp only [Act.put,List.setIfInBounds_toArray,List.set_cons_zero,List.set_cons_succ]
          refine wpAnyH_take (i:=26) (oi:=⟨some 126,_,_,_,_,some (15,false)⟩) (v:=undef) rfl (by kernel_rfl) (by kernel_rfl) (by kernel_rfl) (fun _ _ _ h=>h) (Or.inr ⟨by rfl,rfl⟩) (by assumption) ?_
          try simp only [Act.put,List.setIfInBounds_toArray,List.set_cons_zero,List.set_cons_succ]
          refine wpAnyH_take (i:=27) (oi:=⟨some 127,_,_,_,_,none⟩) (v:=?v27j) rfl (by kernel_rfl) (by kernel_rfl) (by kernel_rfl) (fun _ _ _ h=>h) (Or.inl ⟨by rfl,?h27j⟩) (by assumption) ?r27j
          case h27j=>(intro w hSw;(try dsimp only at hSw);go_simp;try with_reducible rfl)
          try simp only [Act.put,List.setIfInBounds_toArray,List.set_cons_zero,List.set_cons_succ]
          refine wpAnyH_done (by kernel_rfl) ?_ _;refine NoPanic.normal ?_;go_wp2_with fail;go_ret;rw [HRR.out];exact ⟨ret_bool HR2.out.symm,HK.out.trans kd⟩
         ·rw [decide_eq_false h9] at s9
          rw [decide_eq_true ⟨h8,h9⟩,Bool.true_and] at HR;clear h8 h9;obtain ⟨f0,f1⟩:=(HIR.out xf).1 HEA.out;obtain ⟨jf,rfl⟩:=Int.eq_ofNat_of_zero_le f0
          have hjf:jf<k:=by omega
          rw [HGE.out jf hjf] at HR;obtain ⟨_,_,q1,m1,c1,ep,⟨-,-,-,g3⟩,hn1⟩:=(HLS.out w2 HK.out).get jf (by omega)
          cases ep
          have hl1:ls[jf].a.length≤1000:=HMM.out _ (List.getElem_mem _);have HN1:=hid (fun wz (kz:Keeps w2 wz)=>hn1.keeps kz);have HPX:=hid (fun wz (kz:Keeps w2 wz)=>l02Pre_any 5 ls[jf].a _ wz (HN1.out wz kz) (by omega));have HSM:=hid (fun wz u (kz:Keeps w2 wz) (hu:Nds wz u (⟨5,0⟩::ls[jf].a))=>l02Equal_any xa (⟨5,0⟩::ls[jf].a) _ u wz (HA.out wz (HK.out.trans kz)) hu);have HL3:Hid ((⟨5,0⟩::ls[jf].a:List Nd).length≤2147483648):=hid (by simp;omega);have HSS:=hid (fun W (kW:Keeps w2 W)=>(⟨kW.cell b1,kW.cell b2,kW.cell b3,kW.cell g3⟩:W.cell? ⟨w.heap.size,1,none⟩=some (.int .i64 ((jf:Nat):Int))∧W.cell? ⟨w.heap.size,2,none⟩=some (.int .i64 0)∧W.cell? ⟨w.heap.size,3,none⟩=some (.slice q m c)∧W.cell? ⟨bl,ol+jf*4+3,none⟩=some (.slice q1 m1 c1)))
          have hfl:((jf:Nat):Int)<ls.length:=by omega
          clear hn1 HGE hl1 g3 b2 b3;generalize hZ:(⟨5,0⟩::ls[jf].a:List Nd)=Z at*
          by_cases hA:xa=Z
          ·rw [decide_eq_true hA] at HSM HR
           rw [Bool.and_true] at HR;clear hA hZ;go_wp2_with fail;refine wp_region_noPanic ?_;refine wp_region_held_drew (S:=(fun w'=>w'.cell? ⟨w.heap.size,1,none⟩=some (.int .i64 ((jf:Nat):Int))∧w'.cell? ⟨w.heap.size,2,none⟩=some (.int .i64 0)∧w'.cell? ⟨w.heap.size,3,none⟩=some (.slice q m c)∧w'.cell? ⟨bl,ol+jf*4+3,none⟩=some (.slice q1 m1 c1))) (by kernel_rfl) (HSS.out _ kd) (fun hHeld=>?_);refine wpAnyH_take (i:=0) (oi:=⟨some 100,_,_,_,_,none⟩) (v:=?v0l) rfl (by kernel_rfl) (by kernel_rfl) (by kernel_rfl) (fun _ _ _ h=>h) (Or.inl ⟨by rfl,?h0l⟩) (by assumption) ?r0l
           case h0l=>(intro w hSw;(try dsimp only at hSw);go_simp;try with_reducible rfl)
           try simp only [Act.put,List.setIfInBounds_toArray,List.set_cons_zero,List.set_cons_succ]
           refine wpAnyH_take (i:=1) (oi:=⟨some 101,_,_,_,_,none⟩) (v:=?v1l) rfl (by kernel_rfl) (by kernel_rfl) (by kernel_rfl) (fun _ _ _ h=>h) (Or.inl ⟨by rfl,?h1l⟩) (by assumption) ?r1l
           case h1l=>(intro w hSw;(try dsimp only at hSw);go_simp;try with_reducible rfl)
           try simp only [Act.put,List.setIfInBounds_toArray,List.set_cons_zero,List.set_cons_succ]
           refine wpAnyH_take (i:=2) (oi:=⟨some 102,_,_,_,_,none⟩) (v:=?v2l) rfl (by kernel_rfl) (by kernel_rfl) (by kernel_rfl) (fun _ _ _ h=>h) (Or.inl ⟨by rfl,?h2l⟩) (by assumption) ?r2l
           case h2l=>(intro w hSw;(try dsimp only at hSw);go_simp;try with_reducible rfl)
           try simp only [Act.put,List.setIfInBounds_toArray,List.set_cons_zero,List.set_cons_succ]
           refine wpAnyH_take (i:=3) (oi:=⟨some 103,_,_,_,_,none⟩) (v:=?v3l) rfl (by kernel_rfl) (by kernel_rfl) (by kernel_rfl) (fun _ _ _ h=>h) (Or.inl ⟨by rfl,?h3l⟩) (by assumption) ?r3l
           case h3l=>(intro w hSw;(try dsimp only at hSw);go_simp;try with_reducible rfl)
           try simp only [Act.put,List.setIfInBounds_toArray,List.set_cons_zero,List.set_cons_succ]
           refine wpAnyH_take (i:=4) (oi:=⟨some 104,_,_,_,_,some (3,false)⟩) (v:=?v4l) rfl (by kernel_rfl) (by kernel_rfl) (by kernel_rfl) (fun _ _ _ h=>h) (Or.inl ⟨by rfl,?h4l⟩) (by assumption) ?r4l
           case h4l=>(intro w hSw;(try dsimp only at hSw);go_simp;try with_reducible rfl)
           try simp only [Act.put,List.setIfInBounds_toArray,List.set_cons_zero,List.set_cons_succ]
           refine wpAnyH_take (i:=5) (oi:=⟨some 105,_,_,_,_,some (3,false)⟩) (v:=?v5l) rfl (by kernel_rfl) (by kernel_rfl) (by kernel_rfl) (fun _ _ _ h=>h) (Or.inl ⟨by rfl,?h5l⟩) (by assumption) ?r5l
           case h5l=>(intro w hSw;(try dsimp only at hSw);go_simp;try with_reducible rfl)
           try simp only [Act.put,List.setIfInBounds_toArray,List.set_cons_zero,List.set_cons_succ]
           refine wpAnyH_take (i:=6) (oi:=⟨some 106,_,_,_,_,none⟩) (v:=?v6l) rfl (by kernel_rfl) (by kernel_rfl) (by kernel_rfl) (fun _ _ _ h=>h) (Or.inl ⟨by rfl,?h6l⟩) (by assumption) ?r6l
           case h6l=>(intro w hSw;(try dsimp only at hSw);go_simp;try with_reducible rfl)
           try simp only [Act.put,List.setIfInBounds_toArray,List.set_cons_zero,List.set_cons_succ]
           refine wpAnyH_take (i:=7) (oi:=⟨some 107,_,_,_,_,none⟩) (v:=?v7l) rfl (by kernel_rfl) (by kernel_rfl) (by kernel_rfl) (fun _ _ _ h=>h) (Or.inl ⟨by rfl,?h7l⟩) (by assumption) ?r7l
           case h7l=>(intro w hSw;(try dsimp only at hSw);go_simp;try with_reducible rfl)
           try simp only [Act.put,List.setIfInBounds_toArray,List.set_cons_zero,List.set_cons_succ]
           refine wpAnyH_take (i:=8) (oi:=⟨some 108,_,_,_,_,some (7,false)⟩) (v:=?v8l) rfl (by kernel_rfl) (by kernel_rfl) (by kernel_rfl) (fun _ _ _ h=>h) (Or.inl ⟨by rfl,?h8l⟩) (by assumption) ?r8l
           case h8l=>(intro w hSw;(try dsimp only at hSw);go_simp;try with_reducible rfl)
           try simp only [Act.put,List.setIfInBounds_toArray,List.set_cons_zero,List.set_cons_succ]
           refine wpAnyH_take (i:=9) (oi:=⟨some 109,_,_,_,_,some (7,false)⟩) (v:=?v9l) rfl (by kernel_rfl) (by kernel_rfl) (by kernel_rfl) (fun _ _ _ h=>h) (Or.inl ⟨by rfl,?h9l⟩) (by assumption) ?r9l
           case h9l=>(intro w hSw;(try dsimp only at hSw);go_simp;try with_reducible rfl)
           try simp only [Act.put,List.setIfInBounds_toArray,List.set_cons_zero,List.set_cons_succ]
           refine wpAnyH_take (i:=10) (oi:=⟨some 110,_,_,_,_,none⟩) (v:=?v10l) rfl (by kernel_rfl) (by kernel_rfl) (by kernel_rfl) (fun _ _ _ h=>h) (Or.inl ⟨by rfl,?h10l⟩) (by assumption) ?r10l
           case h10l=>(intro w hSw;(try dsimp only at hSw);go_simp;try with_reducible rfl)
           try simp only [Act.put,List.setIfInBounds_toArray,List.set_cons_zero,List.set_cons_succ]
           refine wpAnyH_take (i:=11) (oi:=⟨some 111,_,_,_,_,none⟩) (v:=?v11l) rfl (by kernel_rfl) (by kernel_rfl) (by kernel_rfl) (fun _ _ _ h=>h) (Or.inl ⟨by rfl,?h11l⟩) (by assumption) ?r11l
           case h11l=>(intro w hSw;(try dsimp only at hSw);go_simp;try with_reducible rfl)
           try simp only [Act.put,List.setIfInBounds_toArray,List.set_cons_zero,List.set_cons_succ]
           refine wpAnyH_take (i:=12) (oi:=⟨some 112,_,_,_,_,some (11,false)⟩) (v:=?v12l) rfl (by kernel_rfl) (by kernel_rfl) (by kernel_rfl) (fun _ _ _ h=>h) (Or.inl ⟨by rfl,?h12l⟩) (by assumption) ?r12l
           case h12l=>(intro w hSw;(try dsimp only at hSw);go_simp;try with_reducible rfl)
           try simp only [Act.put,List.setIfInBounds_toArray,List.set_cons_zero,List.set_cons_succ]
           refine wpAnyH_take (i:=13) (oi:=⟨some 113,_,_,_,_,some (11,false)⟩) (v:=?v13l) rfl (by kernel_rfl) (by kernel_rfl) (by kernel_rfl) (fun _ _ _ h=>h) (Or.inl ⟨by rfl,?h13l⟩) (by assumption) ?r13l
           case h13l=>(intro w hSw;(try dsimp only at hSw);go_simp;try with_reducible rfl)
           try simp only [Act.put,List.setIfInBounds_toArray,List.set_cons_zero,List.set_cons_succ]
           refine wpAnyH_take (i:=14) (oi:=⟨some 114,_,_,_,_,none⟩) (v:=?v14l) rfl (by kernel_rfl) (by kernel_rfl) (by kernel_rfl) (fun _ _ _ h=>h) (Or.inl ⟨by rfl,?h14l⟩) (by assumption) ?r14l
           case h14l=>(intro w hSw;(try dsimp only at hSw);go_simp;try with_reducible rfl)
           try simp only [Act.put,List.setIfInBounds_toArray,List.set_cons_zero,List.set_cons_succ]
           refine wpAnyH_take (i:=15) (oi:=⟨some 115,_,_,_,_,none⟩) (v:=?v15l) rfl (by kernel_rfl) (by kernel_rfl) (by kernel_rfl) (fun _ _ _ h=>h) (Or.inl ⟨by rfl,?h15l⟩) (by assumption) ?r15l
           case h15l=>(intro w hSw;(try dsimp only at hSw);go_simp;try with_reducible rfl)
           try simp only [Act.put,List.setIfInBounds_toArray,List.set_cons_zero,List.set_cons_succ]
           refine wpAnyH_take (i:=16) (oi:=⟨some 116,_,_,_,_,some (15,false)⟩) (v:=?v16l) rfl (by kernel_rfl) (by kernel_rfl) (by kernel_rfl) (fun _ _ _ h=>h) (Or.inl ⟨by rfl,?h16l⟩) (by assumption) ?r16l
           case h16l=>(intro w hSw;(try dsimp only at hSw);go_simp;try with_reducible rfl)
           try simp only [Act.put,List.setIfInBounds_toArray,List.set_cons_zero,List.set_cons_succ]
           refine wpAnyH_take (i:=17) (oi:=⟨some 117,_,_,_,_,some (15,false)⟩) (v:=?v17l) rfl (by kernel_rfl) (by kernel_rfl) (by kernel_rfl) (fun _ _ _ h=>h) (Or.inl ⟨by rfl,?h17l⟩) (by assumption) ?r17l
           case h17l=>(intro w hSw;(try dsimp only at hSw);go_simp;try with_reducible rfl)
           try simp only [Act.put,List.setIfInBounds_toArray,List.set_cons_zero,List.set_cons_succ]
           refine wpAnyH_take (i:=18) (oi:=⟨some 118,_,_,_,_,some (15,false)⟩) (v:=?v18l) rfl (by kernel_rfl) (by kernel_rfl) (by kernel_rfl) (fun _ _ _ h=>h) (Or.inl ⟨by rfl,?h18l⟩) (by assumption) ?r18l
           case h18l=>(intro w hSw;(try dsimp only at hSw);go_simp;try with_reducible rfl)
           try simp only [Act.put,List.setIfInBounds_toArray,List.set_cons_zero,List.set_cons_succ]
           refine wpAnyH_take (i:=19) (oi:=⟨some 119,_,_,_,_,some (15,false)⟩) (v:=?v19l) rfl (by kernel_rfl) (by kernel_rfl) (by kernel_rfl) (fun _ _ _ h=>h) (Or.inl ⟨by rfl,?h19l⟩) (by assumption) ?r19l
           case h19l=>(intro w hSw;(try dsimp only at hSw);go_simp;try with_reducible rfl)
           try simp only [Act.put,List.setIfInBounds_toArray,List.set_cons_zero,List.set_cons_succ]
           refine wpAnyH_take (i:=20) (oi:=⟨some 120,_,_,_,_,some (15,false)⟩) (v:=?v20l) rfl (by kernel_rfl) (by kernel_rfl) (by kernel_rfl) (fun _ _ _ h=>h) (Or.inl ⟨by rfl,?h20l⟩) (by assumption) ?r20l
           case h20l=>(intro w hSw;(try dsimp only at hSw);go_simp;try with_reducible rfl)
           try simp only [Act.put,List.setIfInBounds_toArray,List.set_cons_zero,List.set_cons_succ]
           refine wpAnyH_take (i:=21) (oi:=⟨some 121,_,_,_,_,some (15,false)⟩) (v:=?v21l) rfl (by kernel_rfl) (by kernel_rfl) (by kernel_rfl) (fun _ _ _ h=>h) (Or.inl ⟨by rfl,?h21l⟩) (by assumption) ?r21l
           case h21l=>(intro w hSw;(try dsimp only at hSw);go_simp;try with_reducible rfl)
           try simp only [Act.put,List.setIfInBounds_toArray,List.set_cons_zero,List.set_cons_succ]
           refine wpAnyH_take (i:=22) (oi:=⟨some 122,_,_,_,_,some (15,false)⟩) (v:=?v22l) rfl (by kernel_rfl) (by kernel_rfl) (by kernel_rfl) (fun _ _ _ h=>h) (Or.inl ⟨by rfl,?h22l⟩) (by assumption) ?r22l
           case h22l=>(intro w hSw;(try dsimp only at hSw);go_simp;try with_reducible rfl)
           try simp only [Act.put,List.setIfInBounds_toArray,List.set_cons_zero,List.set_cons_succ]
           refine wpAnyH_take (i:=23) (oi:=⟨some 123,_,_,_,_,some (15,false)⟩) (v:=?v23l) rfl (by kernel_rfl) (by kernel_rfl) (by kernel_rfl) (fun _ _ _ h=>h) (Or.inl ⟨by rfl,?h23l⟩) (by assumption) ?r23l
           case h23l=>(intro w hSw;(try dsimp only at hSw);go_simp;try with_reducible rfl)
           try simp only [Act.put,List.setIfInBounds_toArray,List.set_cons_zero,List.set_cons_succ]
           refine wpAnyH_ready (rs:=[24]) (by kernel_rfl) (by simp) ?_;refine AllReadyH.cons (o:=⟨some 124,_,_,_,_,some (15,false)⟩) rfl (fun K hK=>?_) AllReadyH.nil;rw [if_pos (by kernel_rfl)]
           go_simp
           refine (HPX.out _ kd).mono ?_;rintro e w5 ⟨vj,rfl,hvj,k5⟩;have hvn:=hvj.nds HL3.out;obtain ⟨pj,nj,cj,rfl⟩:=hvn.shape;refine hK.out _ _ (HSS.out _ (kd.trans k5)) (fun hHeld=>?_);clear hK K
           try simp only [Act.put,List.setIfInBounds_toArray,List.set_cons_zero,List.set_cons_succ]
           refine wpAnyH_ready (rs:=[25]) (by kernel_rfl) (by simp) ?_;refine AllReadyH.cons (o:=⟨some 125,_,_,_,_,some (15,false)⟩) rfl (fun K hK=>?_) AllReadyH.nil;rw [if_pos (by kernel_rfl)]
           go_simp
           refine (HSM.out _ _ (kd.trans k5) hvn).mono ?_;rintro e w6 ⟨rfl,k6⟩;refine hK.out _ _ (HSS.out _ (kd.trans (k5.trans k6))) (fun hHeld=>?_);clear hK K
           try simp only [Act.put,List.setIfInBounds_toArray,List.set_cons_zero,List.set_cons_succ]
           refine wpAnyH_take (i:=26) (oi:=⟨some 126,_,_,_,_,some (15,false)⟩) (v:=?v26l) rfl (by kernel_rfl) (by kernel_rfl) (by kernel_rfl) (fun _ _ _ h=>h) (Or.inl ⟨by rfl,?h26l⟩) (by assumption) ?r26l
           case h26l=>(intro w hSw;(try dsimp only at hSw);go_simp;try with_reducible rfl)
           try simp only [Act.put,List.setIfInBounds_toArray,List.set_cons_zero,List.set_cons_succ]
           refine wpAnyH_take (i:=27) (oi:=⟨some 127,_,_,_,_,none⟩) (v:=?v27l) rfl (by kernel_rfl) (by kernel_rfl) (by kernel_rfl) (fun _ _ _ h=>h) (Or.inl ⟨by rfl,?h27l⟩) (by assumption) ?r27l
           case h27l=>(intro w hSw;(try dsimp only at hSw);go_simp;try with_reducible rfl)
           try simp only [Act.put,List.setIfInBounds_toArray,List.set_cons_zero,List.set_cons_succ]
           refine wpAnyH_done (by kernel_rfl) ?_ _;refine NoPanic.normal ?_;have K6:=hid (kd.trans (k5.trans k6));have HWK:=hid (HK.out.trans K6.out);have kd6:=(Keeps.refl w6).drew;have c1:=(K6.out.trans kd6).cell b1;have HDP:=hid (fun wz (kz:Keeps w wz)=>l13Depends_any H.length (ls.take k) HWF.out (by omega) (by simp;omega) (.slice (some ⟨bl,ol,none⟩) k cl) wz ((HLS.out wz kz).take k (by omega)))
           have hdl:(dpP (ls.take k)).length=k:=by rw [(dp_us _).1];simp;omega
           have hnil:=dp_nil (ls.take k) (jf:Int)
           obtain ⟨nd,hnd⟩:∃ nd,nd=(getI [] (dpP (ls.take k)) (jf:Int)).length:=⟨_,rfl⟩
           have HRD:=hid (show R=((nd:Int)==0) from by
            rw [HR.out,hnd]
            by_cases hU:getI [] (usP (ls.take k)) (jf:Int)=[]
            ·rw [decide_eq_true hU,hnil.2 hU];rfl
            ·rw [decide_eq_false hU]
             have:(getI [] (dpP (ls.take k)) (jf:Int)).length≠0:=fun e=>hU (hnil.1 (List.eq_nil_of_length_eq_zero e))
             symm;simpa using this)
           have HND:=hid (fun (D:List Nat) (h:getI [] (dpP (ls.take k)) (jf:Int)=D)=>(show (zs D).length=nd from by rw [hnd,h];simp [zs]));have HGD:=hid (fun (h:jf<(dpP (ls.take k)).length)=>(show getI [] (dpP (ls.take k)) (jf:Int)=(dpP (ls.take k))[jf] from by unfold getI;rw [Int.toNat_natCast,List.getD_eq_getElem?_getD,List.getElem?_eq_getElem h];rfl));have HDL:=hid hdl
           have hjk:((jf:Nat):Int)<k:=by omega
           have hkc:(k:Int)≤cl:=by omega
           clear HR hnd hnil hdl b1 k5 k6 hvn hvj HPX HSM HSS kd;go_wp2_with fail
           go_region_law (first
            | (go_simp;go_at_call 35;refine (HDP.out _ (HWK.out.trans kd6)).mono ?_;rintro e w7 ⟨vd,rfl,hvd,k7⟩;obtain ⟨pd,qd,rfl,_,_⟩:=hvd.shape;obtain ⟨bd,od,ud,epd,gd,hod⟩:=hvd.get jf (by rw [HDL.out];omega);subst epd;obtain ⟨pu,qu,rfl,_⟩:=At.of_own hod;rw [HND.out _ (HGD.out (by rw [HDL.out];omega))] at gd;rw [HDL.out];have c2:=k7.cell c1))
           all_goals
            go_wp2_with fail;go_ret;rw [HRR.out];exact ⟨ret_bool HRD.out.symm,(HWK.out.trans kd6).trans k7⟩
          ·rw [decide_eq_false hA] at HSM HR
           have HR2:Hid (R=false):=hid (by rw [HR.out,Bool.and_false]);clear hA hZ HR b1;go_wp2_with fail;refine wp_region_noPanic ?_;refine wp_region_held_drew (S:=(fun w'=>w'.cell? ⟨w.heap.size,1,none⟩=some (.int .i64 ((jf:Nat):Int))∧w'.cell? ⟨w.heap.size,2,none⟩=some (.int .i64 0)∧w'.cell? ⟨w.heap.size,3,none⟩=some (.slice q m c)∧w'.cell? ⟨bl,ol+jf*4+3,none⟩=some (.slice q1 m1 c1))) (by kernel_rfl) (HSS.out _ kd) (fun hHeld=>?_);refine wpAnyH_take (i:=0) (oi:=⟨some 100,_,_,_,_,none⟩) (v:=?v0m) rfl (by kernel_rfl) (by kernel_rfl) (by kernel_rfl) (fun _ _ _ h=>h) (Or.inl ⟨by rfl,?h0m⟩) (by assumption) ?r0m
           case h0m=>(intro w hSw;(try dsimp only at hSw);go_simp;try with_reducible rfl)
           try simp only [Act.put,List.setIfInBounds_toArray,List.set_cons_zero,List.set_cons_succ]
           refine wpAnyH_take (i:=1) (oi:=⟨some 101,_,_,_,_,none⟩) (v:=?v1m) rfl (by kernel_rfl) (by kernel_rfl) (by kernel_rfl) (fun _ _ _ h=>h) (Or.inl ⟨by rfl,?h1m⟩) (by assumption) ?r1m
           case h1m=>(intro w hSw;(try dsimp only at hSw);go_simp;try with_reducible rfl)
           try simp only [Act.put,List.setIfInBounds_toArray,List.set_cons_zero,List.set_cons_succ]
           refine wpAnyH_take (i:=2) (oi:=⟨some 102,_,_,_,_,none⟩) (v:=?v2m) rfl (by kernel_rfl) (by kernel_rfl) (by kernel_rfl) (fun _ _ _ h=>h) (Or.inl ⟨by rfl,?h2m⟩) (by assumption) ?r2m
           case h2m=>(intro w hSw;(try dsimp only at hSw);go_simp;try with_reducible rfl)
           try simp only [Act.put,List.setIfInBounds_toArray,List.set_cons_zero,List.set_cons_succ]
           refine wpAnyH_take (i:=3) (oi:=⟨some 103,_,_,_,_,none⟩) (v:=?v3m) rfl (by kernel_rfl) (by kernel_rfl) (by kernel_rfl) (fun _ _ _ h=>h) (Or.inl ⟨by rfl,?h3m⟩) (by assumption) ?r3m
           case h3m=>(intro w hSw;(try dsimp only at hSw);go_simp;try with_reducible rfl)
           try simp only [Act.put,List.setIfInBounds_toArray,List.set_cons_zero,List.set_cons_succ]
           refine wpAnyH_take (i:=4) (oi:=⟨some 104,_,_,_,_,some (3,false)⟩) (v:=?v4m) rfl (by kernel_rfl) (by kernel_rfl) (by kernel_rfl) (fun _ _ _ h=>h) (Or.inl ⟨by rfl,?h4m⟩) (by assumption) ?r4m
           case h4m=>(intro w hSw;(try dsimp only at hSw);go_simp;try with_reducible rfl)
           try simp only [Act.put,List.setIfInBounds_toArray,List.set_cons_zero,List.set_cons_succ]
           refine wpAnyH_take (i:=5) (oi:=⟨some 105,_,_,_,_,some (3,false)⟩) (v:=?v5m) rfl (by kernel_rfl) (by kernel_rfl) (by kernel_rfl) (fun _ _ _ h=>h) (Or.inl ⟨by rfl,?h5m⟩) (by assumption) ?r5m
           case h5m=>(intro w hSw;(try dsimp only at hSw);go_simp;try with_reducible rfl)
           try simp only [Act.put,List.setIfInBounds_toArray,List.set_cons_zero,List.set_cons_succ]
           refine wpAnyH_take (i:=6) (oi:=⟨some 106,_,_,_,_,none⟩) (v:=?v6m) rfl (by kernel_rfl) (by kernel_rfl) (by kernel_rfl) (fun _ _ _ h=>h) (Or.inl ⟨by rfl,?h6m⟩) (by assumption) ?r6m
           case h6m=>(intro w hSw;(try dsimp only at hSw);go_simp;try with_reducible rfl)
           try simp only [Act.put,List.setIfInBounds_toArray,List.set_cons_zero,List.set_cons_succ]
           refine wpAnyH_take (i:=7) (oi:=⟨some 107,_,_,_,_,none⟩) (v:=?v7m) rfl (by kernel_rfl) (by kernel_rfl) (by kernel_rfl) (fun _ _ _ h=>h) (Or.inl ⟨by rfl,?h7m⟩) (by assumption) ?r7m
           case h7m=>(intro w hSw;(try dsimp only at hSw);go_simp;try with_reducible rfl)
           try simp only [Act.put,List.setIfInBounds_toArray,List.set_cons_zero,List.set_cons_succ]
           refine wpAnyH_take (i:=8) (oi:=⟨some 108,_,_,_,_,some (7,false)⟩) (v:=?v8m) rfl (by kernel_rfl) (by kernel_rfl) (by kernel_rfl) (fun _ _ _ h=>h) (Or.inl ⟨by rfl,?h8m⟩) (by assumption) ?r8m
           case h8m=>(intro w hSw;(try dsimp only at hSw);go_simp;try with_reducible rfl)
           try simp only [Act.put,List.setIfInBounds_toArray,List.set_cons_zero,List.set_cons_succ]
           refine wpAnyH_take (i:=9) (oi:=⟨some 109,_,_,_,_,some (7,false)⟩) (v:=?v9m) rfl (by kernel_rfl) (by kernel_rfl) (by kernel_rfl) (fun _ _ _ h=>h) (Or.inl ⟨by rfl,?h9m⟩) (by assumption) ?r9m
           case h9m=>(intro w hSw;(try dsimp only at hSw);go_simp;try with_reducible rfl)
           try simp only [Act.put,List.setIfInBounds_toArray,List.set_cons_zero,List.set_cons_succ]
           refine wpAnyH_take (i:=10) (oi:=⟨some 110,_,_,_,_,none⟩) (v:=?v10m) rfl (by kernel_rfl) (by kernel_rfl) (by kernel_rfl) (fun _ _ _ h=>h) (Or.inl ⟨by rfl,?h10m⟩) (by assumption) ?r10m
           case h10m=>(intro w hSw;(try dsimp only at hSw);go_simp;try with_reducible rfl)
           try simp only [Act.put,List.setIfInBounds_toArray,List.set_cons_zero,List.set_cons_succ]
           refine wpAnyH_take (i:=11) (oi:=⟨some 111,_,_,_,_,none⟩) (v:=?v11m) rfl (by kernel_rfl) (by kernel_rfl) (by kernel_rfl) (fun _ _ _ h=>h) (Or.inl ⟨by rfl,?h11m⟩) (by assumption) ?r11m
           case h11m=>(intro w hSw;(try dsimp only at hSw);go_simp;try with_reducible rfl)
           try simp only [Act.put,List.setIfInBounds_toArray,List.set_cons_zero,List.set_cons_succ]
           refine wpAnyH_take (i:=12) (oi:=⟨some 112,_,_,_,_,some (11,false)⟩) (v:=?v12m) rfl (by kernel_rfl) (by kernel_rfl) (by kernel_rfl) (fun _ _ _ h=>h) (Or.inl ⟨by rfl,?h12m⟩) (by assumption) ?r12m
           case h12m=>(intro w hSw;(try dsimp only at hSw);go_simp;try with_reducible rfl)
           try simp only [Act.put,List.setIfInBounds_toArray,List.set_cons_zero,List.set_cons_succ]
           refine wpAnyH_take (i:=13) (oi:=⟨some 113,_,_,_,_,some (11,false)⟩) (v:=?v13m) rfl (by kernel_rfl) (by kernel_rfl) (by kernel_rfl) (fun _ _ _ h=>h) (Or.inl ⟨by rfl,?h13m⟩) (by assumption) ?r13m
           case h13m=>(intro w hSw;(try dsimp only at hSw);go_simp;try with_reducible rfl)
           try simp only [Act.put,List.setIfInBounds_toArray,List.set_cons_zero,List.set_cons_succ]
           refine wpAnyH_take (i:=14) (oi:=⟨some 114,_,_,_,_,none⟩) (v:=?v14m) rfl (by kernel_rfl) (by kernel_rfl) (by kernel_rfl) (fun _ _ _ h=>h) (Or.inl ⟨by rfl,?h14m⟩) (by assumption) ?r14m
           case h14m=>(intro w hSw;(try dsimp only at hSw);go_simp;try with_reducible rfl)
           try simp only [Act.put,List.setIfInBounds_toArray,List.set_cons_zero,List.set_cons_succ]
           refine wpAnyH_take (i:=15) (oi:=⟨some 115,_,_,_,_,none⟩) (v:=?v15m) rfl (by kernel_rfl) (by kernel_rfl) (by kernel_rfl) (fun _ _ _ h=>h) (Or.inl ⟨by rfl,?h15m⟩) (by assumption) ?r15m
           case h15m=>(intro w hSw;(try dsimp only at hSw);go_simp;try with_reducible rfl)
           try simp only [Act.put,List.setIfInBounds_toArray,List.set_cons_zero,List.set_cons_succ]
           refine wpAnyH_take (i:=16) (oi:=⟨some 116,_,_,_,_,some (15,false)⟩) (v:=?v16m) rfl (by kernel_rfl) (by kernel_rfl) (by kernel_rfl) (fun _ _ _ h=>h) (Or.inl ⟨by rfl,?h16m⟩) (by assumption) ?r16m
           case h16m=>(intro w hSw;(try dsimp only at hSw);go_simp;try with_reducible rfl)
           try simp only [Act.put,List.setIfInBounds_toArray,List.set_cons_zero,List.set_cons_succ]
           refine wpAnyH_take (i:=17) (oi:=⟨some 117,_,_,_,_,some (15,false)⟩) (v:=?v17m) rfl (by kernel_rfl) (by kernel_rfl) (by kernel_rfl) (fun _ _ _ h=>h) (Or.inl ⟨by rfl,?h17m⟩) (by assumption) ?r17m
           case h17m=>(intro w hSw;(try dsimp only at hSw);go_simp;try with_reducible rfl)
           try simp only [Act.put,List.setIfInBounds_toArray,List.set_cons_zero,List.set_cons_succ]
           refine wpAnyH_take (i:=18) (oi:=⟨some 118,_,_,_,_,some (15,false)⟩) (v:=?v18m) rfl (by kernel_rfl) (by kernel_rfl) (by kernel_rfl) (fun _ _ _ h=>h) (Or.inl ⟨by rfl,?h18m⟩) (by assumption) ?r18m
           case h18m=>(intro w hSw;(try dsimp only at hSw);go_simp;try with_reducible rfl)
           try simp only [Act.put,List.setIfInBounds_toArray,List.set_cons_zero,List.set_cons_succ]
           refine wpAnyH_take (i:=19) (oi:=⟨some 119,_,_,_,_,some (15,false)⟩) (v:=?v19m) rfl (by kernel_rfl) (by kernel_rfl) (by kernel_rfl) (fun _ _ _ h=>h) (Or.inl ⟨by rfl,?h19m⟩) (by assumption) ?r19m
           case h19m=>(intro w hSw;(try dsimp only at hSw);go_simp;try with_reducible rfl)
           try simp only [Act.put,List.setIfInBounds_toArray,List.set_cons_zero,List.set_cons_succ]
           refine wpAnyH_take (i:=20) (oi:=⟨some 120,_,_,_,_,some (15,false)⟩) (v:=?v20m) rfl (by kernel_rfl) (by kernel_rfl) (by kernel_rfl) (fun _ _ _ h=>h) (Or.inl ⟨by rfl,?h20m⟩) (by assumption) ?r20m
           case h20m=>(intro w hSw;(try dsimp only at hSw);go_simp;try with_reducible rfl)
           try simp only [Act.put,List.setIfInBounds_toArray,List.set_cons_zero,List.set_cons_succ]
           refine wpAnyH_take (i:=21) (oi:=⟨some 121,_,_,_,_,some (15,false)⟩) (v:=?v21m) rfl (by kernel_rfl) (by kernel_rfl) (by kernel_rfl) (fun _ _ _ h=>h) (Or.inl ⟨by rfl,?h21m⟩) (by assumption) ?r21m
           case h21m=>(intro w hSw;(try dsimp only at hSw);go_simp;try with_reducible rfl)
           try simp only [Act.put,List.setIfInBounds_toArray,List.set_cons_zero,List.set_cons_succ]
           refine wpAnyH_take (i:=22) (oi:=⟨some 122,_,_,_,_,some (15,false)⟩) (v:=?v22m) rfl (by kernel_rfl) (by kernel_rfl) (by kernel_rfl) (fun _ _ _ h=>h) (Or.inl ⟨by rfl,?h22m⟩) (by assumption) ?r22m
           case h22m=>(intro w hSw;(try dsimp only at hSw);go_simp;try with_reducible rfl)
           try simp only [Act.put,List.setIfInBounds_toArray,List.set_cons_zero,List.set_cons_succ]
           refine wpAnyH_take (i:=23) (oi:=⟨some 123,_,_,_,_,some (15,false)⟩) (v:=?v23m) rfl (by kernel_rfl) (by kernel_rfl) (by kernel_rfl) (fun _ _ _ h=>h) (Or.inl ⟨by rfl,?h23m⟩) (by assumption) ?r23m
           case h23m=>(intro w hSw;(try dsimp only at hSw);go_simp;try with_reducible rfl)
           try simp only [Act.put,List.setIfInBounds_toArray,List.set_cons_zero,List.set_cons_succ]
           refine wpAnyH_ready (rs:=[24]) (by kernel_rfl) (by simp) ?_;refine AllReadyH.cons (o:=⟨some 124,_,_,_,_,some (15,false)⟩) rfl (fun K hK=>?_) AllReadyH.nil;rw [if_pos (by kernel_rfl)]
           go_simp
           refine (HPX.out _ kd).mono ?_;rintro e w5 ⟨vj,rfl,hvj,k5⟩;have hvn:=hvj.nds HL3.out;obtain ⟨pj,nj,cj,rfl⟩:=hvn.shape;refine hK.out _ _ (HSS.out _ (kd.trans k5)) (fun hHeld=>?_);clear hK K
           try simp only [Act.put,List.setIfInBounds_toArray,List.set_cons_zero,List.set_cons_succ]
           refine wpAnyH_ready (rs:=[25]) (by kernel_rfl) (by simp) ?_;refine AllReadyH.cons (o:=⟨some 125,_,_,_,_,some (15,false)⟩) rfl (fun K hK=>?_) AllReadyH.nil;rw [if_pos (by kernel_rfl)]
           go_simp
           refine (HSM.out _ _ (kd.trans k5) hvn).mono ?_;rintro e w6 ⟨rfl,k6⟩;refine hK.out _ _ (HSS.out _ (kd.trans (k5.trans k6))) (fun hHeld=>?_);clear hK K
           try simp only [Act.put,List.setIfInBounds_toArray,List.set_cons_zero,List.set_cons_succ]
           refine wpAnyH_take (i:=26) (oi:=⟨some 126,_,_,_,_,some (15,false)⟩) (v:=?v26m) rfl (by kernel_rfl) (by kernel_rfl) (by kernel_rfl) (fun _ _ _ h=>h) (Or.inl ⟨by rfl,?h26m⟩) (by assumption) ?r26m
           case h26m=>(intro w hSw;(try dsimp only at hSw);go_simp;try with_reducible rfl)
           try simp only [Act.put,List.setIfInBounds_toArray,List.set_cons_zero,List.set_cons_succ]
           refine wpAnyH_take (i:=27) (oi:=⟨some 127,_,_,_,_,none⟩) (v:=?v27m) rfl (by kernel_rfl) (by kernel_rfl) (by kernel_rfl) (fun _ _ _ h=>h) (Or.inl ⟨by rfl,?h27m⟩) (by assumption) ?r27m
           case h27m=>(intro w hSw;(try dsimp only at hSw);go_simp;try with_reducible rfl)
           try simp only [Act.put,List.setIfInBounds_toArray,List.set_cons_zero,List.set_cons_succ]
           refine wpAnyH_done (by kernel_rfl) ?_ _;refine NoPanic.normal ?_;go_wp2_with fail;go_ret;rw [HRR.out];exact ⟨ret_bool HR2.out.symm,HK.out.trans (kd.trans (k5.trans k6))⟩
      ·have HR2:Hid (R=false):=hid (by rw [HR.out,decide_eq_false hs];simp)
       have z0:(xs != 0)=true:=by simpa using hs
       have HSS:=hid (fun W (kW:Keeps w2 W)=>(⟨kW.cell b1,kW.cell b2⟩:W.cell? ⟨w.heap.size,1,none⟩=some (.int .i64 xf)∧W.cell? ⟨w.heap.size,2,none⟩=some (.int .i64 xs)));clear HR b1 b2 b3 s8 s9 hs;go_wp2_with fail;refine wp_region_noPanic ?_;refine wp_region_held_drew (S:=(fun w'=>w'.cell? ⟨w.heap.size,1,none⟩=some (.int .i64 xf)∧w'.cell? ⟨w.heap.size,2,none⟩=some (.int .i64 xs))) (by kernel_rfl) (HSS.out _ kd) (fun hHeld=>?_);refine wpAnyH_take (i:=0) (oi:=⟨some 100,_,_,_,_,none⟩) (v:=?v0k) rfl (by kernel_rfl) (by kernel_rfl) (by kernel_rfl) (fun _ _ _ h=>h) (Or.inl ⟨by rfl,?h0k⟩) (by assumption) ?r0k
       case h0k=>(intro w hSw;(try dsimp only at hSw);go_simp;try with_reducible rfl)
       try simp only [Act.put,List.setIfInBounds_toArray,List.set_cons_zero,List.set_cons_succ]
       refine wpAnyH_take (i:=1) (oi:=⟨some 101,_,_,_,_,none⟩) (v:=?v1k) rfl (by kernel_rfl) (by kernel_rfl) (by kernel_rfl) (fun _ _ _ h=>h) (Or.inl ⟨by rfl,?h1k⟩) (by assumption) ?r1k
       case h1k=>(intro w hSw;(try dsimp only at hSw);go_simp;try with_reducible rfl)
       try simp only [Act.put,List.setIfInBounds_toArray,List.set_cons_zero,List.set_cons_succ]
       refine wpAnyH_take (i:=2) (oi:=⟨some 102,_,_,_,_,none⟩) (v:=?v2k) rfl (by kernel_rfl) (by kernel_rfl) (by kernel_rfl) (fun _ _ _ h=>h) (Or.inl ⟨by rfl,?h2k⟩) (by assumption) ?r2k
       case h2k=>(intro w hSw;(try dsimp only at hSw);go_simp;try with_reducible rfl)
       try simp only [Act.put,List.setIfInBounds_toArray,List.set_cons_zero,List.set_cons_succ]
       refine wpAnyH_take (i:=3) (oi:=⟨some 103,_,_,_,_,none⟩) (v:=?v3k) rfl (by kernel_rfl) (by kernel_rfl) (by kernel_rfl) (fun _ _ _ h=>h) (Or.inl ⟨by rfl,?h3k⟩) (by assumption) ?r3k
       case h3k=>(intro w hSw;(try dsimp only at hSw);go_simp;try with_reducible rfl)
       try simp only [Act.put,List.setIfInBounds_toArray,List.set_cons_zero,List.set_cons_succ]
       refine wpAnyH_take (i:=4) (oi:=⟨some 104,_,_,_,_,some (3,false)⟩) (v:=undef) rfl (by kernel_rfl) (by kernel_rfl) (by kernel_rfl) (fun _ _ _ h=>h) (Or.inr ⟨by rfl,rfl⟩) (by assumption) ?_
       try simp only [Act.put,List.setIfInBounds_toArray,List.set_cons_zero,List.set_cons_succ]
       refine wpAnyH_take (i:=5) (oi:=⟨some 105,_,_,_,_,some (3,false)⟩) (v:=undef) rfl (by kernel_rfl) (by kernel_rfl) (by kernel_rfl) (fun _ _ _ h=>h) (Or.inr ⟨by rfl,rfl⟩) (by assumption) ?_
       try simp only [Act.put,List.setIfInBounds_toArray,List.set_cons_zero,List.set_cons_succ]
       refine wpAnyH_take (i:=6) (oi:=⟨some 106,_,_,_,_,none⟩) (v:=?v6k) rfl (by kernel_rfl) (by kernel_rfl) (by kernel_rfl) (fun _ _ _ h=>h) (Or.inl ⟨by rfl,?h6k⟩) (by assumption) ?r6k
       case h6k=>(intro w hSw;(try dsimp only at hSw);go_simp;try with_reducible rfl)
       try simp only [Act.put,List.setIfInBounds_toArray,List.set_cons_zero,List.set_cons_succ]
       refine wpAnyH_take (i:=7) (oi:=⟨some 107,_,_,_,_,none⟩) (v:=?v7k) rfl (by kernel_rfl) (by kernel_rfl) (by kernel_rfl) (fun _ _ _ h=>h) (Or.inl ⟨by rfl,?h7k⟩) (by assumption) ?r7k
       case h7k=>(intro w hSw;(try dsimp only at hSw);go_simp;try with_reducible rfl)
       try simp only [Act.put,List.setIfInBounds_toArray,List.set_cons_zero,List.set_cons_succ]
       refine wpAnyH_take (i:=8) (oi:=⟨some 108,_,_,_,_,some (7,false)⟩) (v:=undef) rfl (by kernel_rfl) (by kernel_rfl) (by kernel_rfl) (fun _ _ _ h=>h) (Or.inr ⟨by rfl,rfl⟩) (by assumption) ?_
       try simp only [Act.put,List.setIfInBounds_toArray,List.set_cons_zero,List.set_cons_succ]
       refine wpAnyH_take (i:=9) (oi:=⟨some 109,_,_,_,_,some (7,false)⟩) (v:=undef) rfl (by kernel_rfl) (by kernel_rfl) (by kernel_rfl) (fun _ _ _ h=>h) (Or.inr ⟨by rfl,rfl⟩) (by assumption) ?_
       try simp only [Act.put,List.setIfInBounds_toArray,List.set_cons_zero,List.set_cons_succ]
       refine wpAnyH_take (i:=10) (oi:=⟨some 110,_,_,_,_,none⟩) (v:=?v10k) rfl (by kernel_rfl) (by kernel_rfl) (by kernel_rfl) (fun _ _ _ h=>h) (Or.inl ⟨by rfl,?h10k⟩) (by assumption) ?r10k
       case h10k=>(intro w hSw;(try dsimp only at hSw);go_simp;try with_reducible rfl)
       try simp only [Act.put,List.setIfInBounds_toArray,List.set_cons_zero,List.set_cons_succ]
       refine wpAnyH_take (i:=11) (oi:=⟨some 111,_,_,_,_,none⟩) (v:=?v11k) rfl (by kernel_rfl) (by kernel_rfl) (by kernel_rfl) (fun _ _ _ h=>h) (Or.inl ⟨by rfl,?h11k⟩) (by assumption) ?r11k
       case h11k=>(intro w hSw;(try dsimp only at hSw);go_simp;try with_reducible rfl)
       try simp only [Act.put,List.setIfInBounds_toArray,List.set_cons_zero,List.set_cons_succ]
       refine wpAnyH_take (i:=12) (oi:=⟨some 112,_,_,_,_,some (11,false)⟩) (v:=undef) rfl (by kernel_rfl) (by kernel_rfl) (by kernel_rfl) (fun _ _ _ h=>h) (Or.inr ⟨by rfl,rfl⟩) (by assumption) ?_
       try simp only [Act.put,List.setIfInBounds_toArray,List.set_cons_zero,List.set_cons_succ]
       refine wpAnyH_take (i:=13) (oi:=⟨some 113,_,_,_,_,some (11,false)⟩) (v:=undef) rfl (by kernel_rfl) (by kernel_rfl) (by kernel_rfl) (fun _ _ _ h=>h) (Or.inr ⟨by rfl,rfl⟩) (by assumption) ?_
       try simp only [Act.put,List.setIfInBounds_toArray,List.set_cons_zero,List.set_cons_succ]
       refine wpAnyH_take (i:=14) (oi:=⟨some 114,_,_,_,_,none⟩) (v:=?v14k) rfl (by kernel_rfl) (by kernel_rfl) (by kernel_rfl) (fun _ _ _ h=>h) (Or.inl ⟨by rfl,?h14k⟩) (by assumption) ?r14k
       case h14k=>(intro w hSw;(try dsimp only at hSw);go_simp;try with_reducible rfl)
       try simp only [Act.put,List.setIfInBounds_toArray,List.set_cons_zero,List.set_cons_succ]
       refine wpAnyH_take (i:=15) (oi:=⟨some 115,_,_,_,_,none⟩) (v:=?v15k) rfl (by kernel_rfl) (by kernel_rfl) (by kernel_rfl) (fun _ _ _ h=>h) (Or.inl ⟨by rfl,?h15k⟩) (by assumption) ?r15k
       case h15k=>(intro w hSw;(try dsimp only at hSw);go_simp;try with_reducible rfl)
       try simp only [Act.put,List.setIfInBounds_toArray,List.set_cons_zero,List.set_cons_succ]
       refine wpAnyH_take (i:=16) (oi:=⟨some 116,_,_,_,_,some (15,false)⟩) (v:=undef) rfl (by kernel_rfl) (by kernel_rfl) (by kernel_rfl) (fun _ _ _ h=>h) (Or.inr ⟨by rfl,rfl⟩) (by assumption) ?_
       try simp only [Act.put,List.setIfInBounds_toArray,List.set_cons_zero,List.set_cons_succ]
       refine wpAnyH_take (i:=17) (oi:=⟨some 117,_,_,_,_,some (15,false)⟩) (v:=undef) rfl (by kernel_rfl) (by kernel_rfl) (by kernel_rfl) (fun _ _ _ h=>h) (Or.inr ⟨by rfl,rfl⟩) (by assumption) ?_
       try simp only [Act.put,List.setIfInBounds_toArray,List.set_cons_zero,List.set_cons_succ]
       refine wpAnyH_take (i:=18) (oi:=⟨some 118,_,_,_,_,some (15,false)⟩) (v:=undef) rfl (by kernel_rfl) (by kernel_rfl) (by kernel_rfl) (fun _ _ _ h=>h) (Or.inr ⟨by rfl,rfl⟩) (by assumption) ?_
       try simp only [Act.put,List.setIfInBounds_toArray,List.set_cons_zero,List.set_cons_succ]
       refine wpAnyH_take (i:=19) (oi:=⟨some 119,_,_,_,_,some (15,false)⟩) (v:=undef) rfl (by kernel_rfl) (by kernel_rfl) (by kernel_rfl) (fun _ _ _ h=>h) (Or.inr ⟨by rfl,rfl⟩) (by assumption) ?_
       try simp only [Act.put,List.setIfInBounds_toArray,List.set_cons_zero,List.set_cons_succ]
       refine wpAnyH_take (i:=20) (oi:=⟨some 120,_,_,_,_,some (15,false)⟩) (v:=undef) rfl (by kernel_rfl) (by kernel_rfl) (by kernel_rfl) (fun _ _ _ h=>h) (Or.inr ⟨by rfl,rfl⟩) (by assumption) ?_
       try simp only [Act.put,List.setIfInBounds_toArray,List.set_cons_zero,List.set_cons_succ]
       refine wpAnyH_take (i:=21) (oi:=⟨some 121,_,_,_,_,some (15,false)⟩) (v:=undef) rfl (by kernel_rfl) (by kernel_rfl) (by kernel_rfl) (fun _ _ _ h=>h) (Or.inr ⟨by rfl,rfl⟩) (by assumption) ?_
       try simp only [Act.put,List.setIfInBounds_toArray,List.set_cons_zero,List.set_cons_succ]
       refine wpAnyH_take (i:=22) (oi:=⟨some 122,_,_,_,_,some (15,false)⟩) (v:=undef) rfl (by kernel_rfl) (by kernel_rfl) (by kernel_rfl) (fun _ _ _ h=>h) (Or.inr ⟨by rfl,rfl⟩) (by assumption) ?_
       try simp only [Act.put,List.setIfInBounds_toArray,List.set_cons_zero,List.set_cons_succ]
       refine wpAnyH_take (i:=23) (oi:=⟨some 123,_,_,_,_,some (15,false)⟩) (v:=undef) rfl (by kernel_rfl) (by kernel_rfl) (by kernel_rfl) (fun _ _ _ h=>h) (Or.inr ⟨by rfl,rfl⟩) (by assumption) ?_
       try simp only [Act.put,List.setIfInBounds_toArray,List.set_cons_zero,List.set_cons_succ]
       refine wpAnyH_ready (rs:=[24]) (by kernel_rfl) (by simp) ?_;refine AllReadyH.cons (o:=⟨some 124,_,_,_,_,some (15,false)⟩) rfl (fun K hK=>?_) AllReadyH.nil;rw [if_neg (Bool.eq_false_iff.1 (by kernel_rfl))];refine hK.out _ _ (by assumption) (fun hHeld=>?_);clear hK K
       try simp only [Act.put,List.setIfInBounds_toArray,List.set_cons_zero,List.set_cons_succ]
       refine wpAnyH_ready (rs:=[25]) (by kernel_rfl) (by simp) ?_;refine AllReadyH.cons (o:=⟨some 125,_,_,_,_,some (15,false)⟩) rfl (fun K hK=>?_) AllReadyH.nil;rw [if_neg (Bool.eq_false_iff.1 (by kernel_rfl))];refine hK.out _ _ (by assumption) (fun hHeld=>?_);clear hK K
       try simp only [Act.put,List.setIfInBounds_toArray,List.set_cons_zero,List.set_cons_succ]
       refine wpAnyH_take (i:=26) (oi:=⟨some 126,_,_,_,_,some (15,false)⟩) (v:=undef) rfl (by kernel_rfl) (by kernel_rfl) (by kernel_rfl) (fun _ _ _ h=>h) (Or.inr ⟨by rfl,rfl⟩) (by assumption) ?_
       try simp only [Act.put,List.setIfInBounds_toArray,List.set_cons_zero,List.set_cons_succ]
       refine wpAnyH_take (i:=27) (oi:=⟨some 127,_,_,_,_,none⟩) (v:=?v27k) rfl (by kernel_rfl) (by kernel_rfl) (by kernel_rfl) (fun _ _ _ h=>h) (Or.inl ⟨by rfl,?h27k⟩) (by assumption) ?r27k
       case h27k=>(intro w hSw;(try dsimp only at hSw);go_simp;try with_reducible rfl)
       try simp only [Act.put,List.setIfInBounds_toArray,List.set_cons_zero,List.set_cons_succ]
       refine wpAnyH_done (by kernel_rfl) ?_ _;refine NoPanic.normal ?_;go_wp2_with fail;go_ret;rw [HRR.out];exact ⟨ret_bool HR2.out.symm,HK.out.trans kd⟩
     ·rw [if_neg r4] at HR
      have HR2:Hid (R=false):=hid HR.out
      have z1:(xr==1)=false:=by simpa using r1
      have z2:(xr==2)=false:=by simpa using r2
      have z3:(xr==3)=false:=by simpa using r3
      have z4:(xr==4)=false:=by simpa using r4
      clear HR r1 r2 r3 r4;go_wp2_with fail;go_ret;rw [HRR.out];exact ⟨ret_bool HR2.out.symm,HK.out⟩
end Go.Proofs.YtbccmdfdclomiaaGreatDoor
