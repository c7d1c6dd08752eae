import Derived.Test.YtbccmdfdclomiaaGreatDoorHAN
/- own -/
namespace Go.Proofs.YtbccmdfdclomiaaGreatDoor
open Go.RowKit
theorem isGood1_any (x:Int) (k g:Nat) (w:World) (hk:k≤1000000) (hg:w.cell? ⟨g,0,none⟩=some (.int .i64 k)):
  Calls Tryz.prog 117 #[.int .i64 x,.pointer (some ⟨g,0,none⟩)] w fun e w'=>e=.returned (.bool (inR x 0 ((k:Int)-1)))∧w=w':=by
 have HI:=hid (inRange_any x 0 ((k:Int)-1) w);generalize inR x 0 ((k:Int)-1)=R at*;go_enter Tryz.func117,Tryz.ntmps117;go_wp2_with fail;refine HI.out.mono ?_;rintro e w2 ⟨rfl,rfl⟩;go_wp2_with fail;go_ret;exact ⟨rfl,rfl⟩
set_option maxRecDepth 20000 in
set_option maxHeartbeats 16000000 in
theorem isGood_any (r L B:Nat) (hL:L≤9) (hv lv uv:Value) (H:List (List Nd)) (ls:List Ln) (k:Nat) (hk:k<ls.length) (hM:MidLn ls) (hll:ls.length≤100000) (w:World) (hD:DvB w r L hv lv uv H ls (usP (ls.take k)) B)
  (hN:LaidS 0 texts19 w):
  Calls Tryz.prog 87 #[.pointer (some ⟨r,0,none⟩),.int .i64 k] w fun e w'=>e=.returned (.bool (okL L H (ls.take k) ls[k]))∧Keeps w w':=by
 have kI:=(Keeps.refl w).alloc (.cells #[.int .i64 k] 3)
 have i0:(w.alloc (.cells #[.int .i64 k] 3)).cell? ⟨w.heap.size,0,none⟩=some (.int .i64 k):=by simp
 have hzI:(w.alloc (.cells #[.int .i64 k] 3)).heap.size=w.heap.size+1:=by simp
 obtain ⟨pl,cl,rfl,hle,hmx,_⟩:=hD.ln.shape;unfold maxLen at hmx;have HDD:=hid hD;have HNN:=hid hN;have HMM:=hid hM
 have hlk:(ls.take k).length=k:=by simp;omega
 have hx:∃ x,ls[k]=x:=⟨_,rfl⟩
 obtain ⟨⟨xr,xf,xs,xa⟩,hx⟩:=hx
 have hal:xa.length≤1000:=by
  have:=hM ls[k] (List.getElem_mem hk);rw [hx] at this;exact this
 have HR:Hid (okL L H (ls.take k) ls[k]=(isFm xa&&(if xr=1 then (decide (xs=0)&&((schS L).contains xf&&insL xf xa))
  else if xr=2 then (decide (xs=0)&&(inR xf 0 (H.length-1)&&decide (getI [] H xf=xa)))
  else if xr=3 then (inR xf 0 ((k:Int)-1)&&(inR xs 0 ((k:Int)-1)&&decide ((getI emL (ls.take k) xf).a=⟨4,0⟩::((getI emL (ls.take k) xs).a++xa))))
  else if xr=4 then (decide (L≠8∧L≠9)&&(inR xf 0 ((k:Int)-1)&&(decide (xs=0)&&(decide (getI [] (usP (ls.take k)) xf=[])&&decide (xa=⟨5,0⟩::(getI emL (ls.take k) xf).a)))))
  else false))):=hid (by rw [hx];unfold okL;rw [hlk])
 generalize okL L H (ls.take k) ls[k]=R at*;obtain ⟨bl,ol,q,m,c,epl,⟨y0,y1,y2,y3⟩,hna⟩:=hD.ln.get k hk;rw [hx] at y0 y1 y2 hna
 simp only at y0 y1 y2 hna
 cases epl
 have hGE:∀ (j:Nat) (hj:j<k),getI emL (ls.take k) (j:Int)=ls[j]'(Nat.lt_trans hj hk):=fun j hj=>by
  unfold getI;rw [Int.toNat_natCast,List.getD_eq_getElem?_getD,List.getElem?_take_of_lt hj,List.getElem?_eq_getElem (by omega)];rfl
 have HGE:=hid hGE;have HX:=hid hx
 have hk':(k:Int)<ls.length:=by omega
 have hk2:k≤1000000:=by omega
 obtain ⟨d0,d1,d2,d3⟩:=(hD.keeps kI).cells
 replace y0:=kI.cell y0
 replace y1:=kI.cell y1
 replace y2:=kI.cell y2
 replace y3:=kI.cell y3
 have HA:=hid (fun wz (kz:Keeps w wz)=>hna.keeps kz);clear hD hN hM hx hlk hGE hna;go_enter Tryz.func87,Tryz.ntmps87
 go_upto_region 1 with fail
 have HKI:=hid kI;clear kI;have HZI:=hid hzI;clear hzI;generalize w.alloc (.cells #[.int .i64 k] 3)=wI at*;have kZ:=((Keeps.refl wI).alloc (.cells #[.int .i64 0,.int .i64 0,.int .i64 0,.slice none 0 0] 72)).drew;have z0:=kZ.cell i0;have z1:=kZ.cell d2;have z2:=kZ.cell y0;have z3:=kZ.cell y1;have z4:=kZ.cell y2;have z5:=kZ.cell y3;clear kZ
 go_region
 clear z0 z1 z2 z3 z4 z5;have kJ:=((Keeps.refl wI).alloc (.cells #[.int .i64 xr,.int .i64 xf,.int .i64 xs,.slice q m c] 72)).drew
 have b0:(wI.alloc (.cells #[.int .i64 xr,.int .i64 xf,.int .i64 xs,.slice q m c] 72)).drew.cell? ⟨wI.heap.size,0,none⟩=some (.int .i64 xr):=by simp
 have b1:(wI.alloc (.cells #[.int .i64 xr,.int .i64 xf,.int .i64 xs,.slice q m c] 72)).drew.cell? ⟨wI.heap.size,1,none⟩=some (.int .i64 xf):=by simp
 have b2:(wI.alloc (.cells #[.int .i64 xr,.int .i64 xf,.int .i64 xs,.slice q m c] 72)).drew.cell? ⟨wI.heap.size,2,none⟩=some (.int .i64 xs):=by simp
 have b3:(wI.alloc (.cells #[.int .i64 xr,.int .i64 xf,.int .i64 xs,.slice q m c] 72)).drew.cell? ⟨wI.heap.size,3,none⟩=some (.slice q m c):=by simp
 have i1:=kJ.cell i0;have e0:=kJ.cell d0;have e2:=kJ.cell d2;have e3:=kJ.cell d3;have HKJ:=hid (HKI.out.trans kJ);clear i0 d0 d1 d2 d3 y0 y1 y2 y3 kJ;go_wp2_with fail;generalize (wI.alloc (.cells #[.int .i64 xr,.int .i64 xf,.int .i64 xs,.slice q m c] 72)).drew=wJ at*;refine (isFormula_any xa (.slice q m c) wJ (HA.out wJ HKJ.out)).mono ?_;rintro e w2 ⟨rfl,k2⟩
 replace b0:=k2.cell b0
 replace b1:=k2.cell b1
 replace b2:=k2.cell b2
 replace b3:=k2.cell b3
 replace i1:=k2.cell i1
 replace e0:=k2.cell e0
 replace e2:=k2.cell e2
 replace e3:=k2.cell e3
 have HK:=hid (HKJ.out.trans k2);clear HKJ k2
 cases hfm:isFm xa
 ·have HR2:Hid (R=false):=hid (by rw [HR.out,hfm];rfl)
  clear HR;go_wp2_with fail;go_ret;exact ⟨ret_bool HR2.out.symm,HK.out⟩
 ·rw [hfm, Bool.true_and] at HR
  by_cases r1:xr=1∨xr=2
  ·have HAX:=hid (isAxiomatic_any r L B hL hv _ uv H ls _ ⟨xr,xf,xs,xa⟩ q m c w2 (HDD.out.keeps HK.out) (HA.out w2 HK.out) hfm r1 (HNN.out.keeps HK.out))
   have HR2:Hid (R=axB L H ⟨xr,xf,xs,xa⟩):=hid (by
    rw [HR.out];unfold axB
    rcases r1 with rfl | rfl
    ·rw [if_pos rfl,if_neg (show ¬(1:Int)=2 by decide)]
    ·rw [if_neg (show ¬(2:Int)=1 by decide),if_pos rfl,if_pos rfl])
   generalize axB L H ⟨xr,xf,xs,xa⟩=A at*;clear HR e0 e2 e3 i1
   rcases r1 with rfl | rfl
   all_goals
    go_wp2_with fail;refine HAX.out.mono ?_;rintro e w3 ⟨rfl,k3⟩;go_wp2_with fail;go_ret;exact ⟨ret_bool HR2.out.symm,HK.out.trans k3⟩
  ·have q1 : ¬xr=1:=fun e=>r1 (.inl e)
   have q2:¬xr=2:=fun e=>r1 (.inr e)
   clear r1;rw [if_neg q1,if_neg q2] at HR;have HCL:=hid (fun y W (h:W.cell? ⟨w.heap.size,0,none⟩=some (.int .i64 k))=>isGood1_any y k w.heap.size W hk2 h);have HIR:=hid (fun y=>(inR_iff:inR y 0 ((k:Int)-1)=true↔_));have kd:=(Keeps.refl w2).drew;have HS:=hid (fun W (kW:Keeps w2 W)=>(⟨kW.cell b1,kW.cell b2,kW.cell b3,kW.cell e0,kW.cell e2,kW.cell e3⟩:W.cell? ⟨wI.heap.size,1,none⟩=some (.int .i64 xf)∧W.cell? ⟨wI.heap.size,2,none⟩=some (.int .i64 xs)∧W.cell? ⟨wI.heap.size,3,none⟩=some (.slice q m c)∧W.cell? ⟨r,0,none⟩=some (.string (syS L))∧W.cell? ⟨r,2,none⟩=some (.slice (some ⟨bl,ol,none⟩) ls.length cl)∧W.cell? ⟨r,3,none⟩=some uv));have HI1:=hid (fun W (kW:Keeps w2 W)=>kW.cell i1)
   by_cases r3:xr=3
   ·subst r3
    rw [if_pos rfl] at HR
    by_cases hf:inR xf 0 ((k:Int)-1)=true
    ·rw [hf,Bool.true_and] at HR
     by_cases hs:inR xs 0 ((k:Int)-1)=true
     ·rw [hs,Bool.true_and] at HR
      obtain ⟨f0,f1⟩:=(HIR.out xf).1 hf;obtain ⟨s0,s1⟩:=(HIR.out xs).1 hs;obtain ⟨jf,rfl⟩:=Int.eq_ofNat_of_zero_le f0;obtain ⟨js,rfl⟩:=Int.eq_ofNat_of_zero_le s0
      have hjf:jf<k:=by omega
      have hjs:js<k:=by omega
      rw [HGE.out jf hjf,HGE.out js hjs] at HR;have hD2:=HDD.out.keeps HK.out;obtain ⟨_,_,q1,m1,c1,ep,⟨-,-,-,g3⟩,hn1⟩:=hD2.ln.get jf (by omega)
      cases ep
      obtain ⟨_,_,q2,m2,c2,ep,⟨-,-,-,j3⟩,hn2⟩:=hD2.ln.get js (by omega)
      cases ep
      have hl1:ls[jf].a.length≤1000:=HMM.out _ (List.getElem_mem _);have hl2:ls[js].a.length≤1000:=HMM.out _ (List.getElem_mem _);have HN1:=hid (fun wz (kz:Keeps w2 wz)=>hn1.keeps kz);have HN2:=hid (fun wz (kz:Keeps w2 wz)=>hn2.keeps kz);have HJO:=hid (fun wz (kz:Keeps w2 wz)=>join_any 4 ls[js].a xa _ _ wz (HN2.out wz kz) (HA.out wz (HK.out.trans kz)) (by omega));have HSM:=hid (fun wz u (kz:Keeps w2 wz) (hu:Nds wz u (⟨4,0⟩::(ls[js].a++xa)))=>same_any ls[jf].a (⟨4,0⟩::(ls[js].a++xa)) _ u wz (HN1.out wz kz) hu);have HL3:Hid ((⟨4,0⟩::(ls[js].a++xa):List Nd).length≤2147483648):=hid (by simp;omega);have HS4:=hid (fun W (kW:Keeps w2 W)=>(⟨kW.cell b1,kW.cell b2,kW.cell b3,kW.cell e2,kW.cell g3,kW.cell j3⟩:W.cell? ⟨wI.heap.size,1,none⟩=some (.int .i64 ((jf:Nat):Int))∧W.cell? ⟨wI.heap.size,2,none⟩=some (.int .i64 ((js:Nat):Int))∧W.cell? ⟨wI.heap.size,3,none⟩=some (.slice q m c)∧W.cell? ⟨r,2,none⟩=some (.slice (some ⟨bl,ol,none⟩) ls.length cl)∧W.cell? ⟨bl,ol+jf*4+3,none⟩=some (.slice q1 m1 c1)∧W.cell? ⟨bl,ol+js*4+3,none⟩=some (.slice q2 m2 c2)))
      have hfl:((jf:Nat):Int)<ls.length:=by omega
      have hsl:((js:Nat):Int)<ls.length:=by omega
      clear hD2 hn1 hn2 HS HIR HGE hl1 hl2 b1 b2 b3 e0 e2 e3 i1 g3 j3;generalize (⟨4,0⟩::(ls[js].a++xa):List Nd)=Z at*;generalize decide (ls[jf].a=Z)=A at*;go_wp2_with fail;refine wp_region_noPanic ?_;refine wp_region_held_drew (S:=(fun w'=>w'.cell? ⟨wI.heap.size,1,none⟩=some (.int .i64 ((jf:Nat):Int))∧w'.cell? ⟨wI.heap.size,2,none⟩=some (.int .i64 ((js:Nat):Int))∧w'.cell? ⟨wI.heap.size,3,none⟩=some (.slice q m c)∧w'.cell? ⟨r,2,none⟩=some (.slice (some ⟨bl,ol,none⟩) ls.length cl)∧w'.cell? ⟨bl,ol+jf*4+3,none⟩=some (.slice q1 m1 c1)∧w'.cell? ⟨bl,ol+js*4+3,none⟩=some (.slice q2 m2 c2))) (by kernel_rfl) (HS4.out _ kd) (fun hHeld=>?_);refine wpAnyH_take (i:=0) (oi:=⟨some 29,_,_,_,_,none⟩) (v:=?v0a) rfl (by kernel_rfl) (by kernel_rfl) (by kernel_rfl) (fun _ _ _ h=>h) (Or.inl ⟨by rfl,?h0a⟩) (by assumption) ?r0a
      case h0a=>(intro w hSw;(try dsimp only at hSw);go_simp;try with_reducible rfl)
      try simp only [Act.put,List.setIfInBounds_toArray,List.set_cons_zero,List.set_cons_succ]
      refine wpAnyH_take (i:=1) (oi:=⟨some 30,_,_,_,_,none⟩) (v:=?v1a) rfl (by kernel_rfl) (by kernel_rfl) (by kernel_rfl) (fun _ _ _ h=>h) (Or.inl ⟨by rfl,?h1a⟩) (by assumption) ?r1a
      case h1a=>(intro w hSw;(try dsimp only at hSw);go_simp;try with_reducible rfl)
      try simp only [Act.put,List.setIfInBounds_toArray,List.set_cons_zero,List.set_cons_succ]
      refine wpAnyH_take (i:=2) (oi:=⟨some 31,_,_,_,_,none⟩) (v:=?v2a) rfl (by kernel_rfl) (by kernel_rfl) (by kernel_rfl) (fun _ _ _ h=>h) (Or.inl ⟨by rfl,?h2a⟩) (by assumption) ?r2a
      case h2a=>(intro w hSw;(try dsimp only at hSw);go_simp;try with_reducible rfl)
      try simp only [Act.put,List.setIfInBounds_toArray,List.set_cons_zero,List.set_cons_succ]
      refine wpAnyH_ready (rs:=[3]) (by kernel_rfl) (by simp) ?_;refine AllReadyH.cons (o:=⟨some 32,_,_,_,_,none⟩) rfl (fun K hK=>?_) AllReadyH.nil
      go_simp
      refine (HCL.out _ _ (HI1.out _ kd)).mono ?_;rintro e w5 ⟨rfl,rfl⟩;rw [hf];refine hK.out _ _ (hHeld) (fun hHeld=>?_);clear hK K
      try simp only [Act.put,List.setIfInBounds_toArray,List.set_cons_zero,List.set_cons_succ]
      refine wpAnyH_take (i:=4) (oi:=⟨some 33,_,_,_,_,none⟩) (v:=?v4a) rfl (by kernel_rfl) (by kernel_rfl) (by kernel_rfl) (fun _ _ _ h=>h) (Or.inl ⟨by rfl,?h4a⟩) (by assumption) ?r4a
      case h4a=>(intro w hSw;(try dsimp only at hSw);go_simp;try with_reducible rfl)
      try simp only [Act.put,List.setIfInBounds_toArray,List.set_cons_zero,List.set_cons_succ]
      refine wpAnyH_take (i:=5) (oi:=⟨some 34,_,_,_,_,some (4,true)⟩) (v:=?v5a) rfl (by kernel_rfl) (by kernel_rfl) (by kernel_rfl) (fun _ _ _ h=>h) (Or.inl ⟨by rfl,?h5a⟩) (by assumption) ?r5a
      case h5a=>(intro w hSw;(try dsimp only at hSw);go_simp;try with_reducible rfl)
      try simp only [Act.put,List.setIfInBounds_toArray,List.set_cons_zero,List.set_cons_succ]
      refine wpAnyH_take (i:=6) (oi:=⟨some 35,_,_,_,_,some (4,true)⟩) (v:=?v6a) rfl (by kernel_rfl) (by kernel_rfl) (by kernel_rfl) (fun _ _ _ h=>h) (Or.inl ⟨by rfl,?h6a⟩) (by assumption) ?r6a
      case h6a=>(intro w hSw;(try dsimp only at hSw);go_simp;try with_reducible rfl)
      try simp only [Act.put,List.setIfInBounds_toArray,List.set_cons_zero,List.set_cons_succ]
      refine wpAnyH_take (i:=7) (oi:=⟨some 36,_,_,_,_,some (4,true)⟩) (v:=?v7a) rfl (by kernel_rfl) (by kernel_rfl) (by kernel_rfl) (fun _ _ _ h=>h) (Or.inl ⟨by rfl,?h7a⟩) (by assumption) ?r7a
      case h7a=>(intro w hSw;(try dsimp only at hSw);go_simp;try with_reducible rfl)
      try simp only [Act.put,List.setIfInBounds_toArray,List.set_cons_zero,List.set_cons_succ]
      refine wpAnyH_ready (rs:=[8]) (by kernel_rfl) (by simp) ?_;refine AllReadyH.cons (o:=⟨some 37,_,_,_,_,some (4,true)⟩) rfl (fun K hK=>?_) AllReadyH.nil;rw [if_pos (by kernel_rfl)]
      go_simp
      refine (HCL.out _ _ (HI1.out _ kd)).mono ?_;rintro e w5 ⟨rfl,rfl⟩;rw [hs];refine hK.out _ _ (hHeld) (fun hHeld=>?_);clear hK K
      try simp only [Act.put,List.setIfInBounds_toArray,List.set_cons_zero,List.set_cons_succ]
      refine wpAnyH_take (i:=9) (oi:=⟨some 38,_,_,_,_,none⟩) (v:=?v9a) rfl (by kernel_rfl) (by kernel_rfl) (by kernel_rfl) (fun _ _ _ h=>h) (Or.inl ⟨by rfl,?h9a⟩) (by assumption) ?r9a
      case h9a=>(intro w hSw;(try dsimp only at hSw);go_simp;try with_reducible rfl)
      try simp only [Act.put,List.setIfInBounds_toArray,List.set_cons_zero,List.set_cons_succ]
      refine wpAnyH_take (i:=10) (oi:=⟨some 39,_,_,_,_,none⟩) (v:=?v10a) rfl (by kernel_rfl) (by kernel_rfl) (by kernel_rfl) (fun _ _ _ h=>h) (Or.inl ⟨by rfl,?h10a⟩) (by assumption) ?r10a
      case h10a=>(intro w hSw;(try dsimp only at hSw);go_simp;try with_reducible rfl)
      try simp only [Act.put,List.setIfInBounds_toArray,List.set_cons_zero,List.set_cons_succ]
      refine wpAnyH_take (i:=11) (oi:=⟨some 40,_,_,_,_,some (10,true)⟩) (v:=?v11a) rfl (by kernel_rfl) (by kernel_rfl) (by kernel_rfl) (fun _ _ _ h=>h) (Or.inl ⟨by rfl,?h11a⟩) (by assumption) ?r11a
      case h11a=>(intro w hSw;(try dsimp only at hSw);go_simp;try with_reducible rfl)
      try simp only [Act.put,List.setIfInBounds_toArray,List.set_cons_zero,List.set_cons_succ]
      refine wpAnyH_take (i:=12) (oi:=⟨some 41,_,_,_,_,some (10,true)⟩) (v:=?v12a) rfl (by kernel_rfl) (by kernel_rfl) (by kernel_rfl) (fun _ _ _ h=>h) (Or.inl ⟨by rfl,?h12a⟩) (by assumption) ?r12a
      case h12a=>(intro w hSw;(try dsimp only at hSw);go_simp;try with_reducible rfl)
      try simp only [Act.put,List.setIfInBounds_toArray,List.set_cons_zero,List.set_cons_succ]
      refine wpAnyH_take (i:=13) (oi:=⟨some 42,_,_,_,_,some (10,true)⟩) (v:=?v13a) rfl (by kernel_rfl) (by kernel_rfl) (by kernel_rfl) (fun _ _ _ h=>h) (Or.inl ⟨by rfl,?h13a⟩) (by assumption) ?r13a
      case h13a=>(intro w hSw;(try dsimp only at hSw);go_simp;try with_reducible rfl)
      try simp only [Act.put,List.setIfInBounds_toArray,List.set_cons_zero,List.set_cons_succ]
      refine wpAnyH_take (i:=14) (oi:=⟨some 43,_,_,_,_,some (10,true)⟩) (v:=?v14a) rfl (by kernel_rfl) (by kernel_rfl) (by kernel_rfl) (fun _ _ _ h=>h) (Or.inl ⟨by rfl,?h14a⟩) (by assumption) ?r14a
      case h14a=>(intro w hSw;(try dsimp only at hSw);go_simp;try with_reducible rfl)
      try simp only [Act.put,List.setIfInBounds_toArray,List.set_cons_zero,List.set_cons_succ]
      refine wpAnyH_take (i:=15) (oi:=⟨some 44,_,_,_,_,some (10,true)⟩) (v:=?v15a) rfl (by kernel_rfl) (by kernel_rfl) (by kernel_rfl) (fun _ _ _ h=>h) (Or.inl ⟨by rfl,?h15a⟩) (by assumption) ?r15a
      case h15a=>(intro w hSw;(try dsimp only at hSw);go_simp;try with_reducible rfl)
      try simp only [Act.put,List.setIfInBounds_toArray,List.set_cons_zero,List.set_cons_succ]
      refine wpAnyH_take (i:=16) (oi:=⟨some 45,_,_,_,_,some (10,true)⟩) (v:=?v16a) rfl (by kernel_rfl) (by kernel_rfl) (by kernel_rfl) (fun _ _ _ h=>h) (Or.inl ⟨by rfl,?h16a⟩) (by assumption) ?r16a
      case h16a=>(intro w hSw;(try dsimp only at hSw);go_simp;try with_reducible rfl)
      try simp only [Act.put,List.setIfInBounds_toArray,List.set_cons_zero,List.set_cons_succ]
      refine wpAnyH_take (i:=17) (oi:=⟨some 46,_,_,_,_,some (10,true)⟩) (v:=?v17a) rfl (by kernel_rfl) (by kernel_rfl) (by kernel_rfl) (fun _ _ _ h=>h) (Or.inl ⟨by rfl,?h17a⟩) (by assumption) ?r17a
      case h17a=>(intro w hSw;(try dsimp only at hSw);go_simp;try with_reducible rfl)
      try simp only [Act.put,List.setIfInBounds_toArray,List.set_cons_zero,List.set_cons_succ]
      refine wpAnyH_take (i:=18) (oi:=⟨some 47,_,_,_,_,some (10,true)⟩) (v:=?v18a) rfl (by kernel_rfl) (by kernel_rfl) (by kernel_rfl) (fun _ _ _ h=>h) (Or.inl ⟨by rfl,?h18a⟩) (by assumption) ?r18a
      case h18a=>(intro w hSw;(try dsimp only at hSw);go_simp;try with_reducible rfl)
      try simp only [Act.put,List.setIfInBounds_toArray,List.set_cons_zero,List.set_cons_succ]
      refine wpAnyH_take (i:=19) (oi:=⟨some 48,_,_,_,_,some (10,true)⟩) (v:=?v19a) rfl (by kernel_rfl) (by kernel_rfl) (by kernel_rfl) (fun _ _ _ h=>h) (Or.inl ⟨by rfl,?h19a⟩) (by assumption) ?r19a
      case h19a=>(intro w hSw;(try dsimp only at hSw);go_simp;try with_reducible rfl)
      try simp only [Act.put,List.setIfInBounds_toArray,List.set_cons_zero,List.set_cons_succ]
      refine wpAnyH_take (i:=20) (oi:=⟨some 49,_,_,_,_,some (10,true)⟩) (v:=?v20a) rfl (by kernel_rfl) (by kernel_rfl) (by kernel_rfl) (fun _ _ _ h=>h) (Or.inl ⟨by rfl,?h20a⟩) (by assumption) ?r20a
      case h20a=>(intro w hSw;(try dsimp only at hSw);go_simp;try with_reducible rfl)
      try simp only [Act.put,List.setIfInBounds_toArray,List.set_cons_zero,List.set_cons_succ]
      refine wpAnyH_take (i:=21) (oi:=⟨some 50,_,_,_,_,some (10,true)⟩) (v:=?v21a) rfl (by kernel_rfl) (by kernel_rfl) (by kernel_rfl) (fun _ _ _ h=>h) (Or.inl ⟨by rfl,?h21a⟩) (by assumption) ?r21a
      case h21a=>(intro w hSw;(try dsimp only at hSw);go_simp;try with_reducible rfl)
      try simp only [Act.put,List.setIfInBounds_toArray,List.set_cons_zero,List.set_cons_succ]
      refine wpAnyH_take (i:=22) (oi:=⟨some 51,_,_,_,_,some (10,true)⟩) (v:=?v22a) rfl (by kernel_rfl) (by kernel_rfl) (by kernel_rfl) (fun _ _ _ h=>h) (Or.inl ⟨by rfl,?h22a⟩) (by assumption) ?r22a
      case h22a=>(intro w hSw;(try dsimp only at hSw);go_simp;try with_reducible rfl)
      try simp only [Act.put,List.setIfInBounds_toArray,List.set_cons_zero,List.set_cons_succ]
      refine wpAnyH_take (i:=23) (oi:=⟨some 52,_,_,_,_,some (10,true)⟩) (v:=?v23a) rfl (by kernel_rfl) (by kernel_rfl) (by kernel_rfl) (fun _ _ _ h=>h) (Or.inl ⟨by rfl,?h23a⟩) (by assumption) ?r23a
      case h23a=>(intro w hSw;(try dsimp only at hSw);go_simp;try with_reducible rfl)
      try simp only [Act.put,List.setIfInBounds_toArray,List.set_cons_zero,List.set_cons_succ]
      refine wpAnyH_take (i:=24) (oi:=⟨some 53,_,_,_,_,some (10,true)⟩) (v:=?v24a) rfl (by kernel_rfl) (by kernel_rfl) (by kernel_rfl) (fun _ _ _ h=>h) (Or.inl ⟨by rfl,?h24a⟩) (by assumption) ?r24a
      case h24a=>(intro w hSw;(try dsimp only at hSw);go_simp;try with_reducible rfl)
      try simp only [Act.put,List.setIfInBounds_toArray,List.set_cons_zero,List.set_cons_succ]
      refine wpAnyH_take (i:=25) (oi:=⟨some 54,_,_,_,_,some (10,true)⟩) (v:=?v25a) rfl (by kernel_rfl) (by kernel_rfl) (by kernel_rfl) (fun _ _ _ h=>h) (Or.inl ⟨by rfl,?h25a⟩) (by assumption) ?r25a
      case h25a=>(intro w hSw;(try dsimp only at hSw);go_simp;try with_reducible rfl)
      try simp only [Act.put,List.setIfInBounds_toArray,List.set_cons_zero,List.set_cons_succ]
      refine wpAnyH_take (i:=26) (oi:=⟨some 55,_,_,_,_,some (10,true)⟩) (v:=?v26a) rfl (by kernel_rfl) (by kernel_rfl) (by kernel_rfl) (fun _ _ _ h=>h) (Or.inl ⟨by rfl,?h26a⟩) (by assumption) ?r26a
      case h26a=>(intro w hSw;(try dsimp only at hSw);go_simp;try with_reducible rfl)
      try simp only [Act.put,List.setIfInBounds_toArray,List.set_cons_zero,List.set_cons_succ]
      refine wpAnyH_take (i:=27) (oi:=⟨some 56,_,_,_,_,some (10,true)⟩) (v:=?v27a) rfl (by kernel_rfl) (by kernel_rfl) (by kernel_rfl) (fun _ _ _ h=>h) (Or.inl ⟨by rfl,?h27a⟩) (by assumption) ?r27a
      case h27a=>(intro w hSw;(try dsimp only at hSw);go_simp;try with_reducible rfl)
      try simp only [Act.put,List.setIfInBounds_toArray,List.set_cons_zero,List.set_cons_succ]
      refine wpAnyH_take (i:=28) (oi:=⟨some 57,_,_,_,_,some (10,true)⟩) (v:=?v28a) rfl (by kernel_rfl) (by kernel_rfl) (by kernel_rfl) (fun _ _ _ h=>h) (Or.inl ⟨by rfl,?h28a⟩) (by assumption) ?r28a
      case h28a=>(intro w hSw;(try dsimp only at hSw);go_simp;try with_reducible rfl)
      try simp only [Act.put,List.setIfInBounds_toArray,List.set_cons_zero,List.set_cons_succ]
      refine wpAnyH_take (i:=29) (oi:=⟨some 58,_,_,_,_,some (10,true)⟩) (v:=?v29a) rfl (by kernel_rfl) (by kernel_rfl) (by kernel_rfl) (fun _ _ _ h=>h) (Or.inl ⟨by rfl,?h29a⟩) (by assumption) ?r29a
      case h29a=>(intro w hSw;(try dsimp only at hSw);go_simp;try with_reducible rfl)
      try simp only [Act.put,List.setIfInBounds_toArray,List.set_cons_zero,List.set_cons_succ]
      refine wpAnyH_take (i:=30) (oi:=⟨some 59,_,_,_,_,some (10,true)⟩) (v:=?v30a) rfl (by kernel_rfl) (by kernel_rfl) (by kernel_rfl) (fun _ _ _ h=>h) (Or.inl ⟨by rfl,?h30a⟩) (by assumption) ?r30a
      case h30a=>(intro w hSw;(try dsimp only at hSw);go_simp;try with_reducible rfl)
      try simp only [Act.put,List.setIfInBounds_toArray,List.set_cons_zero,List.set_cons_succ]
      refine wpAnyH_ready (rs:=[31]) (by kernel_rfl) (by simp) ?_;refine AllReadyH.cons (o:=⟨some 60,_,_,_,_,some (10,true)⟩) rfl (fun K hK=>?_) AllReadyH.nil;rw [if_pos (by kernel_rfl)]
      go_simp
      refine (HJO.out _ kd).mono ?_;rintro e w5 ⟨vj,rfl,hvj,k5⟩;have hvn:=hvj.nds HL3.out;obtain ⟨pj,nj,cj,rfl⟩:=hvn.shape;refine hK.out _ _ (HS4.out _ (kd.trans k5)) (fun hHeld=>?_);clear hK K
      try simp only [Act.put,List.setIfInBounds_toArray,List.set_cons_zero,List.set_cons_succ]
      refine wpAnyH_ready (rs:=[32]) (by kernel_rfl) (by simp) ?_;refine AllReadyH.cons (o:=⟨some 61,_,_,_,_,some (10,true)⟩) rfl (fun K hK=>?_) AllReadyH.nil;rw [if_pos (by kernel_rfl)]
      go_simp
      refine (HSM.out _ _ (kd.trans k5) hvn).mono ?_;rintro e w6 ⟨rfl,k6⟩;refine hK.out _ _ (HS4.out _ (kd.trans (k5.trans k6))) (fun hHeld=>?_);clear hK K
      try simp only [Act.put,List.setIfInBounds_toArray,List.set_cons_zero,List.set_cons_succ]
      refine wpAnyH_take (i:=33) (oi:=⟨some 62,_,_,_,_,none⟩) (v:=?v33a) rfl (by kernel_rfl) (by kernel_rfl) (by kernel_rfl) (fun _ _ _ h=>h) (Or.inl ⟨by rfl,?h33a⟩) (by assumption) ?r33a
      case h33a=>(intro w hSw;(try dsimp only at hSw);go_simp;try with_reducible rfl)
      try simp only [Act.put,List.setIfInBounds_toArray,List.set_cons_zero,List.set_cons_succ]
      refine wpAnyH_take (i:=34) (oi:=⟨some 4,_,_,_,_,none⟩) (v:=?v34a) rfl (by kernel_rfl) (by kernel_rfl) (by kernel_rfl) (fun _ _ _ h=>h) (Or.inl ⟨by rfl,?h34a⟩) (by assumption) ?r34a
      case h34a=>(intro w hSw;(try dsimp only at hSw);go_simp;try with_reducible rfl)
      try simp only [Act.put,List.setIfInBounds_toArray,List.set_cons_zero,List.set_cons_succ]
      refine wpAnyH_done (by kernel_rfl) ?_ _;refine NoPanic.normal ?_;go_wp2_with fail;go_ret;exact ⟨ret_bool HR.out.symm,HK.out.trans (kd.trans (k5.trans k6))⟩
     ·have hs':inR xs 0 ((k:Int)-1)=false:=by simpa using hs
      have HR2:Hid (R=false):=hid (by rw [HR.out,hs'];rfl);have HSS:=hid (fun W (kW:Keeps w2 W)=>(⟨kW.cell b1,kW.cell b2⟩:W.cell? ⟨wI.heap.size,1,none⟩=some (.int .i64 xf)∧W.cell? ⟨wI.heap.size,2,none⟩=some (.int .i64 xs)));clear HR HS HIR HGE b1 b2 b3 e0 e2 e3 i1 hs;go_wp2_with fail;refine wp_region_noPanic ?_;refine wp_region_held_drew (S:=(fun w'=>w'.cell? ⟨wI.heap.size,1,none⟩=some (.int .i64 xf)∧w'.cell? ⟨wI.heap.size,2,none⟩=some (.int .i64 xs))) (by kernel_rfl) (HSS.out _ kd) (fun hHeld=>?_);refine wpAnyH_take (i:=0) (oi:=⟨some 29,_,_,_,_,none⟩) (v:=?v0b) rfl (by kernel_rfl) (by kernel_rfl) (by kernel_rfl) (fun _ _ _ h=>h) (Or.inl ⟨by rfl,?h0b⟩) (by assumption) ?r0b
      case h0b=>(intro w hSw;(try dsimp only at hSw);go_simp;try with_reducible rfl)
      try simp only [Act.put,List.setIfInBounds_toArray,List.set_cons_zero,List.set_cons_succ]
      refine wpAnyH_take (i:=1) (oi:=⟨some 30,_,_,_,_,none⟩) (v:=?v1b) rfl (by kernel_rfl) (by kernel_rfl) (by kernel_rfl) (fun _ _ _ h=>h) (Or.inl ⟨by rfl,?h1b⟩) (by assumption) ?r1b
      case h1b=>(intro w hSw;(try dsimp only at hSw);go_simp;try with_reducible rfl)
      try simp only [Act.put,List.setIfInBounds_toArray,List.set_cons_zero,List.set_cons_succ]
      refine wpAnyH_take (i:=2) (oi:=⟨some 31,_,_,_,_,none⟩) (v:=?v2b) rfl (by kernel_rfl) (by kernel_rfl) (by kernel_rfl) (fun _ _ _ h=>h) (Or.inl ⟨by rfl,?h2b⟩) (by assumption) ?r2b
      case h2b=>(intro w hSw;(try dsimp only at hSw);go_simp;try with_reducible rfl)
      try simp only [Act.put,List.setIfInBounds_toArray,List.set_cons_zero,List.set_cons_succ]
      refine wpAnyH_ready (rs:=[3]) (by kernel_rfl) (by simp) ?_;refine AllReadyH.cons (o:=⟨some 32,_,_,_,_,none⟩) rfl (fun K hK=>?_) AllReadyH.nil
      go_simp
      refine (HCL.out _ _ (HI1.out _ kd)).mono ?_;rintro e w5 ⟨rfl,rfl⟩;rw [hf];refine hK.out _ _ (hHeld) (fun hHeld=>?_);clear hK K
      try simp only [Act.put,List.setIfInBounds_toArray,List.set_cons_zero,List.set_cons_succ]
      refine wpAnyH_take (i:=4) (oi:=⟨some 33,_,_,_,_,none⟩) (v:=?v4b) rfl (by kernel_rfl) (by kernel_rfl) (by kernel_rfl) (fun _ _ _ h=>h) (Or.inl ⟨by rfl,?h4b⟩) (by assumption) ?r4b
      case h4b=>(intro w hSw;(try dsimp only at hSw);go_simp;try with_reducible rfl)
      try simp only [Act.put,List.setIfInBounds_toArray,List.set_cons_zero,List.set_cons_succ]
      refine wpAnyH_take (i:=5) (oi:=⟨some 34,_,_,_,_,some (4,true)⟩) (v:=?v5b) rfl (by kernel_rfl) (by kernel_rfl) (by kernel_rfl) (fun _ _ _ h=>h) (Or.inl ⟨by rfl,?h5b⟩) (by assumption) ?r5b
      case h5b=>(intro w hSw;(try dsimp only at hSw);go_simp;try with_reducible rfl)
      try simp only [Act.put,List.setIfInBounds_toArray,List.set_cons_zero,List.set_cons_succ]
      refine wpAnyH_take (i:=6) (oi:=⟨some 35,_,_,_,_,some (4,true)⟩) (v:=?v6b) rfl (by kernel_rfl) (by kernel_rfl) (by kernel_rfl) (fun _ _ _ h=>h) (Or.inl ⟨by rfl,?h6b⟩) (by assumption) ?r6b
      case h6b=>(intro w hSw;(try dsimp only at hSw);go_simp;try with_reducible rfl)
      try simp only [Act.put,List.setIfInBounds_toArray,List.set_cons_zero,List.set_cons_succ]
      refine wpAnyH_take (i:=7) (oi:=⟨some 36,_,_,_,_,some (4,true)⟩) (v:=?v7b) rfl (by kernel_rfl) (by kernel_rfl) (by kernel_rfl) (fun _ _ _ h=>h) (Or.inl ⟨by rfl,?h7b⟩) (by assumption) ?r7b
      case h7b=>(intro w hSw;(try dsimp only at hSw);go_simp;try with_reducible rfl)
      try simp only [Act.put,List.setIfInBounds_toArray,List.set_cons_zero,List.set_cons_succ]
      refine wpAnyH_ready (rs:=[8]) (by kernel_rfl) (by simp) ?_;refine AllReadyH.cons (o:=⟨some 37,_,_,_,_,some (4,true)⟩) rfl (fun K hK=>?_) AllReadyH.nil;rw [if_pos (by kernel_rfl)]
      go_simp
      refine (HCL.out _ _ (HI1.out _ kd)).mono ?_;rintro e w5 ⟨rfl,rfl⟩;rw [hs'];refine hK.out _ _ (hHeld) (fun hHeld=>?_);clear hK K
      try simp only [Act.put,List.setIfInBounds_toArray,List.set_cons_zero,List.set_cons_succ]
      refine wpAnyH_take (i:=9) (oi:=⟨some 38,_,_,_,_,none⟩) (v:=?v9b) rfl (by kernel_rfl) (by kernel_rfl) (by kernel_rfl) (fun _ _ _ h=>h) (Or.inl ⟨by rfl,?h9b⟩) (by assumption) ?r9b
      case h9b=>(intro w hSw;(try dsimp only at hSw);go_simp;try with_reducible rfl)
      try simp only [Act.put,List.setIfInBounds_toArray,List.set_cons_zero,List.set_cons_succ]
      refine wpAnyH_take (i:=10) (oi:=⟨some 39,_,_,_,_,none⟩) (v:=?v10b) rfl (by kernel_rfl) (by kernel_rfl) (by kernel_rfl) (fun _ _ _ h=>h) (Or.inl ⟨by rfl,?h10b⟩) (by assumption) ?r10b
      case h10b=>(intro w hSw;(try dsimp only at hSw);go_simp;try with_reducible rfl)
      try simp only [Act.put,List.setIfInBounds_toArray,List.set_cons_zero,List.set_cons_succ]
      refine wpAnyH_take (i:=11) (oi:=⟨some 40,_,_,_,_,some (10,true)⟩) (v:=undef) rfl (by kernel_rfl) (by kernel_rfl) (by kernel_rfl) (fun _ _ _ h=>h) (Or.inr ⟨by rfl,rfl⟩) (by assumption) ?_
      try simp only [Act.put,List.setIfInBounds_toArray,List.set_cons_zero,List.set_cons_succ]
      refine wpAnyH_take (i:=12) (oi:=⟨some 41,_,_,_,_,some (10,true)⟩) (v:=undef) rfl (by kernel_rfl) (by kernel_rfl) (by kernel_rfl) (fun _ _ _ h=>h) (Or.inr ⟨by rfl,rfl⟩) (by assumption) ?_
      try simp only [Act.put,List.setIfInBounds_toArray,List.set_cons_zero,List.set_cons_succ]
      refine wpAnyH_take (i:=13) (oi:=⟨some 42,_,_,_,_,some (10,true)⟩) (v:=undef) rfl (by kernel_rfl) (by kernel_rfl) (by kernel_rfl) (fun _ _ _ h=>h) (Or.inr ⟨by rfl,rfl⟩) (by assumption) ?_
      try simp only [Act.put,List.setIfInBounds_toArray,List.set_cons_zero,List.set_cons_succ]
      refine wpAnyH_take (i:=14) (oi:=⟨some 43,_,_,_,_,some (10,true)⟩) (v:=undef) rfl (by kernel_rfl) (by kernel_rfl) (by kernel_rfl) (fun _ _ _ h=>h) (Or.inr ⟨by rfl,rfl⟩) (by assumption) ?_
      try simp only [Act.put,List.setIfInBounds_toArray,List.set_cons_zero,List.set_cons_succ]
      refine wpAnyH_take (i:=15) (oi:=⟨some 44,_,_,_,_,some (10,true)⟩) (v:=undef) rfl (by kernel_rfl) (by kernel_rfl) (by kernel_rfl) (fun _ _ _ h=>h) (Or.inr ⟨by rfl,rfl⟩) (by assumption) ?_
      try simp only [Act.put,List.setIfInBounds_toArray,List.set_cons_zero,List.set_cons_succ]
      refine wpAnyH_take (i:=16) (oi:=⟨some 45,_,_,_,_,some (10,true)⟩) (v:=undef) rfl (by kernel_rfl) (by kernel_rfl) (by kernel_rfl) (fun _ _ _ h=>h) (Or.inr ⟨by rfl,rfl⟩) (by assumption) ?_
      try simp only [Act.put,List.setIfInBounds_toArray,List.set_cons_zero,List.set_cons_succ]
      refine wpAnyH_take (i:=17) (oi:=⟨some 46,_,_,_,_,some (10,true)⟩) (v:=undef) rfl (by kernel_rfl) (by kernel_rfl) (by kernel_rfl) (fun _ _ _ h=>h) (Or.inr ⟨by rfl,rfl⟩) (by assumption) ?_
      try simp only [Act.put,List.setIfInBounds_toArray,List.set_cons_zero,List.set_cons_succ]
      refine wpAnyH_take (i:=18) (oi:=⟨some 47,_,_,_,_,some (10,true)⟩) (v:=undef) rfl (by kernel_rfl) (by kernel_rfl) (by kernel_rfl) (fun _ _ _ h=>h) (Or.inr ⟨by rfl,rfl⟩) (by assumption) ?_
      try simp only [Act.put,List.setIfInBounds_toArray,List.set_cons_zero,List.set_cons_succ]
      refine wpAnyH_take (i:=19) (oi:=⟨some 48,_,_,_,_,some (10,true)⟩) (v:=undef) rfl (by kernel_rfl) (by kernel_rfl) (by kernel_rfl) (fun _ _ _ h=>h) (Or.inr ⟨by rfl,rfl⟩) (by assumption) ?_
      try simp only [Act.put,List.setIfInBounds_toArray,List.set_cons_zero,List.set_cons_succ]
      refine wpAnyH_take (i:=20) (oi:=⟨some 49,_,_,_,_,some (10,true)⟩) (v:=undef) rfl (by kernel_rfl) (by kernel_rfl) (by kernel_rfl) (fun _ _ _ h=>h) (Or.inr ⟨by rfl,rfl⟩) (by assumption) ?_
      try simp only [Act.put,List.setIfInBounds_toArray,List.set_cons_zero,List.set_cons_succ]
      refine wpAnyH_take (i:=21) (oi:=⟨some 50,_,_,_,_,some (10,true)⟩) (v:=undef) rfl (by kernel_rfl) (by kernel_rfl) (by kernel_rfl) (fun _ _ _ h=>h) (Or.inr ⟨by rfl,rfl⟩) (by assumption) ?_
      try simp only [Act.put,List.setIfInBounds_toArray,List.set_cons_zero,List.set_cons_succ]
      refine wpAnyH_take (i:=22) (oi:=⟨some 51,_,_,_,_,some (10,true)⟩) (v:=undef) rfl (by kernel_rfl) (by kernel_rfl) (by kernel_rfl) (fun _ _ _ h=>h) (Or.inr ⟨by rfl,rfl⟩) (by assumption) ?_
      try simp only [Act.put,List.setIfInBounds_toArray,List.set_cons_zero,List.set_cons_succ]
      refine wpAnyH_take (i:=23) (oi:=⟨some 52,_,_,_,_,some (10,true)⟩) (v:=undef) rfl (by kernel_rfl) (by kernel_rfl) (by kernel_rfl) (fun _ _ _ h=>h) (Or.inr ⟨by rfl,rfl⟩) (by assumption) ?_
      try simp only [Act.put,List.setIfInBounds_toArray,List.set_cons_zero,List.set_cons_succ]
      refine wpAnyH_take (i:=24) (oi:=⟨some 53,_,_,_,_,some (10,true)⟩) (v:=undef) rfl (by kernel_rfl) (by kernel_rfl) (by kernel_rfl) (fun _ _ _ h=>h) (Or.inr ⟨by rfl,rfl⟩) (by assumption) ?_
      try simp only [Act.put,List.setIfInBounds_toArray,List.set_cons_zero,List.set_cons_succ]
      refine wpAnyH_take (i:=25) (oi:=⟨some 54,_,_,_,_,some (10,true)⟩) (v:=undef) rfl (by kernel_rfl) (by kernel_rfl) (by kernel_rfl) (fun _ _ _ h=>h) (Or.inr ⟨by rfl,rfl⟩) (by assumption) ?_
      try simp only [Act.put,List.setIfInBounds_toArray,List.set_cons_zero,List.set_cons_succ]
      refine wpAnyH_take (i:=26) (oi:=⟨some 55,_,_,_,_,some (10,true)⟩) (v:=undef) rfl (by kernel_rfl) (by kernel_rfl) (by kernel_rfl) (fun _ _ _ h=>h) (Or.inr ⟨by rfl,rfl⟩) (by assumption) ?_
      try simp only [Act.put,List.setIfInBounds_toArray,List.set_cons_zero,List.set_cons_succ]
      refine wpAnyH_take (i:=27) (oi:=⟨some 56,_,_,_,_,some (10,true)⟩) (v:=undef) rfl (by kernel_rfl) (by kernel_rfl) (by kernel_rfl) (fun _ _ _ h=>h) (Or.inr ⟨by rfl,rfl⟩) (by assumption) ?_
      try simp only [Act.put,List.setIfInBounds_toArray,List.set_cons_zero,List.set_cons_succ]
      refine wpAnyH_take (i:=28) (oi:=⟨some 57,_,_,_,_,some (10,true)⟩) (v:=undef) rfl (by kernel_rfl) (by kernel_rfl) (by kernel_rfl) (fun _ _ _ h=>h) (Or.inr ⟨by rfl,rfl⟩) (by assumption) ?_
      try simp only [Act.put,List.setIfInBounds_toArray,List.set_cons_zero,List.set_cons_succ]
      refine wpAnyH_take (i:=29) (oi:=⟨some 58,_,_,_,_,some (10,true)⟩) (v:=undef) rfl (by kernel_rfl) (by kernel_rfl) (by kernel_rfl) (fun _ _ _ h=>h) (Or.inr ⟨by rfl,rfl⟩) (by assumption) ?_
      try simp only [Act.put,List.setIfInBounds_toArray,List.set_cons_zero,List.set_cons_succ]
      refine wpAnyH_take (i:=30) (oi:=⟨some 59,_,_,_,_,some (10,true)⟩) (v:=undef) rfl (by kernel_rfl) (by kernel_rfl) (by kernel_rfl) (fun _ _ _ h=>h) (Or.inr ⟨by rfl,rfl⟩) (by assumption) ?_
      try simp only [Act.put,List.setIfInBounds_toArray,List.set_cons_zero,List.set_cons_succ]
      refine wpAnyH_ready (rs:=[31]) (by kernel_rfl) (by simp) ?_;refine AllReadyH.cons (o:=⟨some 60,_,_,_,_,some (10,true)⟩) rfl (fun K hK=>?_) AllReadyH.nil;rw [if_neg (Bool.eq_false_iff.1 (by kernel_rfl))];refine hK.out _ _ (by assumption) (fun hHeld=>?_);clear hK K
      try simp only [Act.put,List.setIfInBounds_toArray,List.set_cons_zero,List.set_cons_succ]
      refine wpAnyH_ready (rs:=[32]) (by kernel_rfl) (by simp) ?_;refine AllReadyH.cons (o:=⟨some 61,_,_,_,_,some (10,true)⟩) rfl (fun K hK=>?_) AllReadyH.nil;rw [if_neg (Bool.eq_false_iff.1 (by kernel_rfl))];refine hK.out _ _ (by assumption) (fun hHeld=>?_);clear hK K
      try simp only [Act.put,List.setIfInBounds_toArray,List.set_cons_zero,List.set_cons_succ]
      refine wpAnyH_take (i:=33) (oi:=⟨some 62,_,_,_,_,none⟩) (v:=?v33b) rfl (by kernel_rfl) (by kernel_rfl) (by kernel_rfl) (fun _ _ _ h=>h) (Or.inl ⟨by rfl,?h33b⟩) (by assumption) ?r33b
      case h33b=>(intro w hSw;(try dsimp only at hSw);go_simp;try with_reducible rfl)
      try simp only [Act.put,List.setIfInBounds_toArray,List.set_cons_zero,List.set_cons_succ]
      refine wpAnyH_take (i:=34) (oi:=⟨some 4,_,_,_,_,none⟩) (v:=?v34b) rfl (by kernel_rfl) (by kernel_rfl) (by kernel_rfl) (fun _ _ _ h=>h) (Or.inl ⟨by rfl,?h34b⟩) (by assumption) ?r34b
      case h34b=>(intro w hSw;(try dsimp only at hSw);go_simp;try with_reducible rfl)
      try simp only [Act.put,List.setIfInBounds_toArray,List.set_cons_zero,List.set_cons_succ]
      refine wpAnyH_done (by kernel_rfl) ?_ _;refine NoPanic.normal ?_;go_wp2_with fail;go_ret;exact ⟨ret_bool HR2.out.symm,HK.out.trans kd⟩
    ·have hf':inR xf 0 ((k:Int)-1)=false:=by simpa using hf
     have HR2:Hid (R=false):=hid (by rw [HR.out,hf'];rfl);have HSS:=hid (fun W (kW:Keeps w2 W)=>(⟨kW.cell b1,kW.cell b2⟩:W.cell? ⟨wI.heap.size,1,none⟩=some (.int .i64 xf)∧W.cell? ⟨wI.heap.size,2,none⟩=some (.int .i64 xs)));clear HR HS HIR HGE b1 b2 b3 e0 e2 e3 i1 hf;go_wp2_with fail;refine wp_region_noPanic ?_;refine wp_region_held_drew (S:=(fun w'=>w'.cell? ⟨wI.heap.size,1,none⟩=some (.int .i64 xf)∧w'.cell? ⟨wI.heap.size,2,none⟩=some (.int .i64 xs))) (by kernel_rfl) (HSS.out _ kd) (fun hHeld=>?_);refine wpAnyH_take (i:=0) (oi:=⟨some 29,_,_,_,_,none⟩) (v:=?v0c) rfl (by kernel_rfl) (by kernel_rfl) (by kernel_rfl) (fun _ _ _ h=>h) (Or.inl ⟨by rfl,?h0c⟩) (by assumption) ?r0c
     case h0c=>(intro w hSw;(try dsimp only at hSw);go_simp;try with_reducible rfl)
     try simp only [Act.put,List.setIfInBounds_toArray,List.set_cons_zero,List.set_cons_succ]
     refine wpAnyH_take (i:=1) (oi:=⟨some 30,_,_,_,_,none⟩) (v:=?v1c) rfl (by kernel_rfl) (by kernel_rfl) (by kernel_rfl) (fun _ _ _ h=>h) (Or.inl ⟨by rfl,?h1c⟩) (by assumption) ?r1c
     case h1c=>(intro w hSw;(try dsimp only at hSw);go_simp;try with_reducible rfl)
     try simp only [Act.put,List.setIfInBounds_toArray,List.set_cons_zero,List.set_cons_succ]
     refine wpAnyH_take (i:=2) (oi:=⟨some 31,_,_,_,_,none⟩) (v:=?v2c) rfl (by kernel_rfl) (by kernel_rfl) (by kernel_rfl) (fun _ _ _ h=>h) (Or.inl ⟨by rfl,?h2c⟩) (by assumption) ?r2c
     case h2c=>(intro w hSw;(try dsimp only at hSw);go_simp;try with_reducible rfl)
     try simp only [Act.put,List.setIfInBounds_toArray,List.set_cons_zero,List.set_cons_succ]
     refine wpAnyH_ready (rs:=[3]) (by kernel_rfl) (by simp) ?_;refine AllReadyH.cons (o:=⟨some 32,_,_,_,_,none⟩) rfl (fun K hK=>?_) AllReadyH.nil
     go_simp
     refine (HCL.out _ _ (HI1.out _ kd)).mono ?_;rintro e w5 ⟨rfl,rfl⟩;rw [hf'];refine hK.out _ _ (hHeld) (fun hHeld=>?_);clear hK K
     try simp only [Act.put,List.setIfInBounds_toArray,List.set_cons_zero,List.set_cons_succ]
     refine wpAnyH_take (i:=4) (oi:=⟨some 33,_,_,_,_,none⟩) (v:=?v4c) rfl (by kernel_rfl) (by kernel_rfl) (by kernel_rfl) (fun _ _ _ h=>h) (Or.inl ⟨by rfl,?h4c⟩) (by assumption) ?r4c
     case h4c=>(intro w hSw;(try dsimp only at hSw);go_simp;try with_reducible rfl)
     try simp only [Act.put,List.setIfInBounds_toArray,List.set_cons_zero,List.set_cons_succ]
     refine wpAnyH_take (i:=5) (oi:=⟨some 34,_,_,_,_,some (4,true)⟩) (v:=undef) rfl (by kernel_rfl) (by kernel_rfl) (by kernel_rfl) (fun _ _ _ h=>h) (Or.inr ⟨by rfl,rfl⟩) (by assumption) ?_
     try simp only [Act.put,List.setIfInBounds_toArray,List.set_cons_zero,List.set_cons_succ]
     refine wpAnyH_take (i:=6) (oi:=⟨some 35,_,_,_,_,some (4,true)⟩) (v:=undef) rfl (by kernel_rfl) (by kernel_rfl) (by kernel_rfl) (fun _ _ _ h=>h) (Or.inr ⟨by rfl,rfl⟩) (by assumption) ?_
     try simp only [Act.put,List.setIfInBounds_toArray,List.set_cons_zero,List.set_cons_succ]
     refine wpAnyH_take (i:=7) (oi:=⟨some 36,_,_,_,_,some (4,true)⟩) (v:=undef) rfl (by kernel_rfl) (by kernel_rfl) (by kernel_rfl) (fun _ _ _ h=>h) (Or.inr ⟨by rfl,rfl⟩) (by assumption) ?_
     try simp only [Act.put,List.setIfInBounds_toArray,List.set_cons_zero,List.set_cons_succ]
     refine wpAnyH_ready (rs:=[8]) (by kernel_rfl) (by simp) ?_;refine AllReadyH.cons (o:=⟨some 37,_,_,_,_,some (4,true)⟩) rfl (fun K hK=>?_) AllReadyH.nil;rw [if_neg (Bool.eq_false_iff.1 (by kernel_rfl))];refine hK.out _ _ (by assumption) (fun hHeld=>?_);clear hK K
     try simp only [Act.put,List.setIfInBounds_toArray,List.set_cons_zero,List.set_cons_succ]
     refine wpAnyH_take (i:=9) (oi:=⟨some 38,_,_,_,_,none⟩) (v:=?v9c) rfl (by kernel_rfl) (by kernel_rfl) (by kernel_rfl) (fun _ _ _ h=>h) (Or.inl ⟨by rfl,?h9c⟩) (by assumption) ?r9c
     case h9c=>(intro w hSw;(try dsimp only at hSw);go_simp;try with_reducible rfl)
     try simp only [Act.put,List.setIfInBounds_toArray,List.set_cons_zero,List.set_cons_succ]
     refine wpAnyH_take (i:=10) (oi:=⟨some 39,_,_,_,_,none⟩) (v:=?v10c) rfl (by kernel_rfl) (by kernel_rfl) (by kernel_rfl) (fun _ _ _ h=>h) (Or.inl ⟨by rfl,?h10c⟩) (by assumption) ?r10c
     case h10c=>(intro w hSw;(try dsimp only at hSw);go_simp;try with_reducible rfl)
     try simp only [Act.put,List.setIfInBounds_toArray,List.set_cons_zero,List.set_cons_succ]
     refine wpAnyH_take (i:=11) (oi:=⟨some 40,_,_,_,_,some (10,true)⟩) (v:=undef) rfl (by kernel_rfl) (by kernel_rfl) (by kernel_rfl) (fun _ _ _ h=>h) (Or.inr ⟨by rfl,rfl⟩) (by assumption) ?_
     try simp only [Act.put,List.setIfInBounds_toArray,List.set_cons_zero,List.set_cons_succ]
     refine wpAnyH_take (i:=12) (oi:=⟨some 41,_,_,_,_,some (10,true)⟩) (v:=undef) rfl (by kernel_rfl) (by kernel_rfl) (by kernel_rfl) (fun _ _ _ h=>h) (Or.inr ⟨by rfl,rfl⟩) (by assumption) ?_
     try simp only [Act.put,List.setIfInBounds_toArray,List.set_cons_zero,List.set_cons_succ]
     refine wpAnyH_take (i:=13) (oi:=⟨some 42,_,_,_,_,some (10,true)⟩) (v:=undef) rfl (by kernel_rfl) (by kernel_rfl) (by kernel_rfl) (fun _ _ _ h=>h) (Or.inr ⟨by rfl,rfl⟩) (by assumption) ?_
     try simp only [Act.put,List.setIfInBounds_toArray,List.set_cons_zero,List.set_cons_succ]
     refine wpAnyH_take (i:=14) (oi:=⟨some 43,_,_,_,_,some (10,true)⟩) (v:=undef) rfl (by kernel_rfl) (by kernel_rfl) (by kernel_rfl) (fun _ _ _ h=>h) (Or.inr ⟨by rfl,rfl⟩) (by assumption) ?_
     try simp only [Act.put,List.setIfInBounds_toArray,List.set_cons_zero,List.set_cons_succ]
     refine wpAnyH_take (i:=15) (oi:=⟨some 44,_,_,_,_,some (10,true)⟩) (v:=undef) rfl (by kernel_rfl) (by kernel_rfl) (by kernel_rfl) (fun _ _ _ h=>h) (Or.inr ⟨by rfl,rfl⟩) (by assumption) ?_
     try simp only [Act.put,List.setIfInBounds_toArray,List.set_cons_zero,List.set_cons_succ]
     refine wpAnyH_take (i:=16) (oi:=⟨some 45,_,_,_,_,some (10,true)⟩) (v:=undef) rfl (by kernel_rfl) (by kernel_rfl) (by kernel_rfl) (fun _ _ _ h=>h) (Or.inr ⟨by rfl,rfl⟩) (by assumption) ?_
     try simp only [Act.put,List.setIfInBounds_toArray,List.set_cons_zero,List.set_cons_succ]
     refine wpAnyH_take (i:=17) (oi:=⟨some 46,_,_,_,_,some (10,true)⟩) (v:=undef) rfl (by kernel_rfl) (by kernel_rfl) (by kernel_rfl) (fun _ _ _ h=>h) (Or.inr ⟨by rfl,rfl⟩) (by assumption) ?_
     try simp only [Act.put,List.setIfInBounds_toArray,List.set_cons_zero,List.set_cons_succ]
     refine wpAnyH_take (i:=18) (oi:=⟨some 47,_,_,_,_,some (10,true)⟩) (v:=undef) rfl (by kernel_rfl) (by kernel_rfl) (by kernel_rfl) (fun _ _ _ h=>h) (Or.inr ⟨by rfl,rfl⟩) (by assumption) ?_
     try simp only [Act.put,List.setIfInBounds_toArray,List.set_cons_zero,List.set_cons_succ]
     refine wpAnyH_take (i:=19) (oi:=⟨some 48,_,_,_,_,some (10,true)⟩) (v:=undef) rfl (by kernel_rfl) (by kernel_rfl) (by kernel_rfl) (fun _ _ _ h=>h) (Or.inr ⟨by rfl,rfl⟩) (by assumption) ?_
     try simp only [Act.put,List.setIfInBounds_toArray,List.set_cons_zero,List.set_cons_succ]
     refine wpAnyH_take (i:=20) (oi:=⟨some 49,_,_,_,_,some (10,true)⟩) (v:=undef) rfl (by kernel_rfl) (by kernel_rfl) (by kernel_rfl) (fun _ _ _ h=>h) (Or.inr ⟨by rfl,rfl⟩) (by assumption) ?_
     try simp only [Act.put,List.setIfInBounds_toArray,List.set_cons_zero,List.set_cons_succ]
     refine wpAnyH_take (i:=21) (oi:=⟨some 50,_,_,_,_,some (10,true)⟩) (v:=undef) rfl (by kernel_rfl) (by kernel_rfl) (by kernel_rfl) (fun _ _ _ h=>h) (Or.inr ⟨by rfl,rfl⟩) (by assumption) ?_
     try simp only [Act.put,List.setIfInBounds_toArray,List.set_cons_zero,List.set_cons_succ]
     refine wpAnyH_take (i:=22) (oi:=⟨some 51,_,_,_,_,some (10,true)⟩) (v:=undef) rfl (by kernel_rfl) (by kernel_rfl) (by kernel_rfl) (fun _ _ _ h=>h) (Or.inr ⟨by rfl,rfl⟩) (by assumption) ?_
     try simp only [Act.put,List.setIfInBounds_toArray,List.set_cons_zero,List.set_cons_succ]
     refine wpAnyH_take (i:=23) (oi:=⟨some 52,_,_,_,_,some (10,true)⟩) (v:=undef) rfl (by kernel_rfl) (by kernel_rfl) (by kernel_rfl) (fun _ _ _ h=>h) (Or.inr ⟨by rfl,rfl⟩) (by assumption) ?_
     try simp only [Act.put,List.setIfInBounds_toArray,List.set_cons_zero,List.set_cons_succ]
     refine wpAnyH_take (i:=24) (oi:=⟨some 53,_,_,_,_,some (10,true)⟩) (v:=undef) rfl (by kernel_rfl) (by kernel_rfl) (by kernel_rfl) (fun _ _ _ h=>h) (Or.inr ⟨by rfl,rfl⟩) (by assumption) ?_
     try simp only [Act.put,List.setIfInBounds_toArray,List.set_cons_zero,List.set_cons_succ]
     refine wpAnyH_take (i:=25) (oi:=⟨some 54,_,_,_,_,some (10,true)⟩) (v:=undef) rfl (by kernel_rfl) (by kernel_rfl) (by kernel_rfl) (fun _ _ _ h=>h) (Or.inr ⟨by rfl,rfl⟩) (by assumption) ?_
     try simp only [Act.put,List.setIfInBounds_toArray,List.set_cons_zero,List.set_cons_succ]
     refine wpAnyH_take (i:=26) (oi:=⟨some 55,_,_,_,_,some (10,true)⟩) (v:=undef) rfl (by kernel_rfl) (by kernel_rfl) (by kernel_rfl) (fun _ _ _ h=>h) (Or.inr ⟨by rfl,rfl⟩) (by assumption) ?_
     try simp only [Act.put,List.setIfInBounds_toArray,List.set_cons_zero,List.set_cons_succ]
     refine wpAnyH_take (i:=27) (oi:=⟨some 56,_,_,_,_,some (10,true)⟩) (v:=undef) rfl (by kernel_rfl) (by kernel_rfl) (by kernel_rfl) (fun _ _ _ h=>h) (Or.inr ⟨by rfl,rfl⟩) (by assumption) ?_
     try simp only [Act.put,List.setIfInBounds_toArray,List.set_cons_zero,List.set_cons_succ]
     refine wpAnyH_take (i:=28) (oi:=⟨some 57,_,_,_,_,some (10,true)⟩) (v:=undef) rfl (by kernel_rfl) (by kernel_rfl) (by kernel_rfl) (fun _ _ _ h=>h) (Or.inr ⟨by rfl,rfl⟩) (by assumption) ?_
     try simp only [Act.put,List.setIfInBounds_toArray,List.set_cons_zero,List.set_cons_succ]
     refine wpAnyH_take (i:=29) (oi:=⟨some 58,_,_,_,_,some (10,true)⟩) (v:=undef) rfl (by kernel_rfl) (by kernel_rfl) (by kernel_rfl) (fun _ _ _ h=>h) (Or.inr ⟨by rfl,rfl⟩) (by assumption) ?_
     try simp only [Act.put,List.setIfInBounds_toArray,List.set_cons_zero,List.set_cons_succ]
     refine wpAnyH_take (i:=30) (oi:=⟨some 59,_,_,_,_,some (10,true)⟩) (v:=undef) rfl (by kernel_rfl) (by kernel_rfl) (by kernel_rfl) (fun _ _ _ h=>h) (Or.inr ⟨by rfl,rfl⟩) (by assumption) ?_
     try simp only [Act.put,List.setIfInBounds_toArray,List.set_cons_zero,List.set_cons_succ]
     refine wpAnyH_ready (rs:=[31]) (by kernel_rfl) (by simp) ?_;refine AllReadyH.cons (o:=⟨some 60,_,_,_,_,some (10,true)⟩) rfl (fun K hK=>?_) AllReadyH.nil;rw [if_neg (Bool.eq_false_iff.1 (by kernel_rfl))];refine hK.out _ _ (by assumption) (fun hHeld=>?_);clear hK K
     try simp only [Act.put,List.setIfInBounds_toArray,List.set_cons_zero,List.set_cons_succ]
     refine wpAnyH_ready (rs:=[32]) (by kernel_rfl) (by simp) ?_;refine AllReadyH.cons (o:=⟨some 61,_,_,_,_,some (10,true)⟩) rfl (fun K hK=>?_) AllReadyH.nil;rw [if_neg (Bool.eq_false_iff.1 (by kernel_rfl))];refine hK.out _ _ (by assumption) (fun hHeld=>?_);clear hK K
     try simp only [Act.put,List.setIfInBounds_toArray,List.set_cons_zero,List.set_cons_succ]
     refine wpAnyH_take (i:=33) (oi:=⟨some 62,_,_,_,_,none⟩) (v:=?v33c) rfl (by kernel_rfl) (by kernel_rfl) (by kernel_rfl) (fun _ _ _ h=>h) (Or.inl ⟨by rfl,?h33c⟩) (by assumption) ?r33c
     case h33c=>(intro w hSw;(try dsimp only at hSw);go_simp;try with_reducible rfl)
     try simp only [Act.put,List.setIfInBounds_toArray,List.set_cons_zero,List.set_cons_succ]
     refine wpAnyH_take (i:=34) (oi:=⟨some 4,_,_,_,_,none⟩) (v:=?v34c) rfl (by kernel_rfl) (by kernel_rfl) (by kernel_rfl) (fun _ _ _ h=>h) (Or.inl ⟨by rfl,?h34c⟩) (by assumption) ?r34c
     case h34c=>(intro w hSw;(try dsimp only at hSw);go_simp;try with_reducible rfl)
     try simp only [Act.put,List.setIfInBounds_toArray,List.set_cons_zero,List.set_cons_succ]
     refine wpAnyH_done (by kernel_rfl) ?_ _;refine NoPanic.normal ?_;go_wp2_with fail;go_ret;exact ⟨ret_bool HR2.out.symm,HK.out.trans kd⟩
   ·rw [if_neg r3] at HR
    by_cases r4:xr=4
    ·subst r4
     rw [if_pos rfl] at HR;obtain ⟨s8,s9⟩:=syS_int L hL
     by_cases h8:L=8
     ·have HR2:Hid (R=false):=hid (by rw [HR.out,decide_eq_false (fun h=>h.1 h8)];rfl)
      rw [decide_eq_true h8] at s8;have HSS:=hid (fun W (kW:Keeps w2 W)=>(⟨kW.cell e0,trivial⟩:W.cell? ⟨r,0,none⟩=some (.string (syS L))∧True));clear HR HS HIR HGE b1 b2 b3 e0 e2 e3 i1 s9 h8;go_wp2_with fail;refine wp_region_noPanic ?_;refine wp_region_held_drew (S:=(fun w'=>w'.cell? ⟨r,0,none⟩=some (.string (syS L))∧True)) (by kernel_rfl) (HSS.out _ kd) (fun hHeld=>?_);refine wpAnyH_take (i:=0) (oi:=⟨some 65,_,_,_,_,none⟩) (v:=?v0d) rfl (by kernel_rfl) (by kernel_rfl) (by kernel_rfl) (fun _ _ _ h=>h) (Or.inl ⟨by rfl,?h0d⟩) (by assumption) ?r0d
      case h0d=>(intro w hSw;(try dsimp only at hSw);go_simp;try with_reducible rfl)
      try simp only [Act.put,List.setIfInBounds_toArray,List.set_cons_zero,List.set_cons_succ]
      refine wpAnyH_take (i:=1) (oi:=⟨some 66,_,_,_,_,none⟩) (v:=?v1d) rfl (by kernel_rfl) (by kernel_rfl) (by kernel_rfl) (fun _ _ _ h=>h) (Or.inl ⟨by rfl,?h1d⟩) (by assumption) ?r1d
      case h1d=>(intro w hSw;(try dsimp only at hSw);go_simp;try with_reducible rfl)
      try simp only [Act.put,List.setIfInBounds_toArray,List.set_cons_zero,List.set_cons_succ]
      refine wpAnyH_take (i:=2) (oi:=⟨some 67,_,_,_,_,none⟩) (v:=?v2d) rfl (by kernel_rfl) (by kernel_rfl) (by kernel_rfl) (fun _ _ _ h=>h) (Or.inl ⟨by rfl,?h2d⟩) (by assumption) ?r2d
      case h2d=>(intro w hSw;(try dsimp only at hSw);go_simp;try with_reducible rfl)
      try simp only [Act.put,List.setIfInBounds_toArray,List.set_cons_zero,List.set_cons_succ]
      refine wpAnyH_take (i:=3) (oi:=⟨some 68,_,_,_,_,none⟩) (v:=?v3d) rfl (by kernel_rfl) (by kernel_rfl) (by kernel_rfl) (fun _ _ _ h=>h) (Or.inl ⟨by rfl,?h3d⟩) (by assumption) ?r3d
      case h3d=>(intro w hSw;(try dsimp only at hSw);go_simp;try with_reducible rfl)
      try simp only [Act.put,List.setIfInBounds_toArray,List.set_cons_zero,List.set_cons_succ]
      refine wpAnyH_take (i:=4) (oi:=⟨some 69,_,_,_,_,none⟩) (v:=?v4d) rfl (by kernel_rfl) (by kernel_rfl) (by kernel_rfl) (fun _ _ _ h=>h) (Or.inl ⟨by rfl,?h4d⟩) (by assumption) ?r4d
      case h4d=>(intro w hSw;(try dsimp only at hSw);go_simp;try with_reducible rfl)
      try simp only [Act.put,List.setIfInBounds_toArray,List.set_cons_zero,List.set_cons_succ]
      refine wpAnyH_take (i:=5) (oi:=⟨some 70,_,_,_,_,none⟩) (v:=?v5d) rfl (by kernel_rfl) (by kernel_rfl) (by kernel_rfl) (fun _ _ _ h=>h) (Or.inl ⟨by rfl,?h5d⟩) (by assumption) ?r5d
      case h5d=>(intro w hSw;(try dsimp only at hSw);go_simp;try with_reducible rfl)
      try simp only [Act.put,List.setIfInBounds_toArray,List.set_cons_zero,List.set_cons_succ]
      refine wpAnyH_take (i:=6) (oi:=⟨some 71,_,_,_,_,some (5,true)⟩) (v:=undef) rfl (by kernel_rfl) (by kernel_rfl) (by kernel_rfl) (fun _ _ _ h=>h) (Or.inr ⟨by rfl,rfl⟩) (by assumption) ?_
      try simp only [Act.put,List.setIfInBounds_toArray,List.set_cons_zero,List.set_cons_succ]
      refine wpAnyH_take (i:=7) (oi:=⟨some 72,_,_,_,_,some (5,true)⟩) (v:=undef) rfl (by kernel_rfl) (by kernel_rfl) (by kernel_rfl) (fun _ _ _ h=>h) (Or.inr ⟨by rfl,rfl⟩) (by assumption) ?_
      try simp only [Act.put,List.setIfInBounds_toArray,List.set_cons_zero,List.set_cons_succ]
      refine wpAnyH_take (i:=8) (oi:=⟨some 73,_,_,_,_,some (5,true)⟩) (v:=undef) rfl (by kernel_rfl) (by kernel_rfl) (by kernel_rfl) (fun _ _ _ h=>h) (Or.inr ⟨by rfl,rfl⟩) (by assumption) ?_
      try simp only [Act.put,List.setIfInBounds_toArray,List.set_cons_zero,List.set_cons_succ]
      refine wpAnyH_take (i:=9) (oi:=⟨some 74,_,_,_,_,some (5,true)⟩) (v:=undef) rfl (by kernel_rfl) (by kernel_rfl) (by kernel_rfl) (fun _ _ _ h=>h) (Or.inr ⟨by rfl,rfl⟩) (by assumption) ?_
      try simp only [Act.put,List.setIfInBounds_toArray,List.set_cons_zero,List.set_cons_succ]
      refine wpAnyH_take (i:=10) (oi:=⟨some 75,_,_,_,_,some (5,true)⟩) (v:=undef) rfl (by kernel_rfl) (by kernel_rfl) (by kernel_rfl) (fun _ _ _ h=>h) (Or.inr ⟨by rfl,rfl⟩) (by assumption) ?_
      try simp only [Act.put,List.setIfInBounds_toArray,List.set_cons_zero,List.set_cons_succ]
      refine wpAnyH_take (i:=11) (oi:=⟨some 76,_,_,_,_,none⟩) (v:=?v11d) rfl (by kernel_rfl) (by kernel_rfl) (by kernel_rfl) (fun _ _ _ h=>h) (Or.inl ⟨by rfl,?h11d⟩) (by assumption) ?r11d
      case h11d=>(intro w hSw;(try dsimp only at hSw);go_simp;try with_reducible rfl)
      try simp only [Act.put,List.setIfInBounds_toArray,List.set_cons_zero,List.set_cons_succ]
      refine wpAnyH_take (i:=12) (oi:=⟨some 77,_,_,_,_,none⟩) (v:=?v12d) rfl (by kernel_rfl) (by kernel_rfl) (by kernel_rfl) (fun _ _ _ h=>h) (Or.inl ⟨by rfl,?h12d⟩) (by assumption) ?r12d
      case h12d=>(intro w hSw;(try dsimp only at hSw);go_simp;try with_reducible rfl)
      try simp only [Act.put,List.setIfInBounds_toArray,List.set_cons_zero,List.set_cons_succ]
      refine wpAnyH_take (i:=13) (oi:=⟨some 78,_,_,_,_,some (12,true)⟩) (v:=undef) rfl (by kernel_rfl) (by kernel_rfl) (by kernel_rfl) (fun _ _ _ h=>h) (Or.inr ⟨by rfl,rfl⟩) (by assumption) ?_
      try simp only [Act.put,List.setIfInBounds_toArray,List.set_cons_zero,List.set_cons_succ]
      refine wpAnyH_take (i:=14) (oi:=⟨some 79,_,_,_,_,some (12,true)⟩) (v:=undef) rfl (by kernel_rfl) (by kernel_rfl) (by kernel_rfl) (fun _ _ _ h=>h) (Or.inr ⟨by rfl,rfl⟩) (by assumption) ?_
      try simp only [Act.put,List.setIfInBounds_toArray,List.set_cons_zero,List.set_cons_succ]
      refine wpAnyH_take (i:=15) (oi:=⟨some 80,_,_,_,_,some (12,true)⟩) (v:=undef) rfl (by kernel_rfl) (by kernel_rfl) (by kernel_rfl) (fun _ _ _ h=>h) (Or.inr ⟨by rfl,rfl⟩) (by assumption) ?_
      try simp only [Act.put,List.setIfInBounds_toArray,List.set_cons_zero,List.set_cons_succ]
      refine wpAnyH_ready (rs:=[16]) (by kernel_rfl) (by simp) ?_;refine AllReadyH.cons (o:=⟨some 81,_,_,_,_,some (12,true)⟩) rfl (fun K hK=>?_) AllReadyH.nil;rw [if_neg (Bool.eq_false_iff.1 (by kernel_rfl))];refine hK.out _ _ (by assumption) (fun hHeld=>?_);clear hK K
      try simp only [Act.put,List.setIfInBounds_toArray,List.set_cons_zero,List.set_cons_succ]
      refine wpAnyH_take (i:=17) (oi:=⟨some 82,_,_,_,_,none⟩) (v:=?v17d) rfl (by kernel_rfl) (by kernel_rfl) (by kernel_rfl) (fun _ _ _ h=>h) (Or.inl ⟨by rfl,?h17d⟩) (by assumption) ?r17d
      case h17d=>(intro w hSw;(try dsimp only at hSw);go_simp;try with_reducible rfl)
      try simp only [Act.put,List.setIfInBounds_toArray,List.set_cons_zero,List.set_cons_succ]
      refine wpAnyH_take (i:=18) (oi:=⟨some 83,_,_,_,_,none⟩) (v:=?v18d) rfl (by kernel_rfl) (by kernel_rfl) (by kernel_rfl) (fun _ _ _ h=>h) (Or.inl ⟨by rfl,?h18d⟩) (by assumption) ?r18d
      case h18d=>(intro w hSw;(try dsimp only at hSw);go_simp;try with_reducible rfl)
      try simp only [Act.put,List.setIfInBounds_toArray,List.set_cons_zero,List.set_cons_succ]
      refine wpAnyH_take (i:=19) (oi:=⟨some 84,_,_,_,_,some (18,true)⟩) (v:=undef) rfl (by kernel_rfl) (by kernel_rfl) (by kernel_rfl) (fun _ _ _ h=>h) (Or.inr ⟨by rfl,rfl⟩) (by assumption) ?_
      try simp only [Act.put,List.setIfInBounds_toArray,List.set_cons_zero,List.set_cons_succ]
      refine wpAnyH_take (i:=20) (oi:=⟨some 85,_,_,_,_,some (18,true)⟩) (v:=undef) rfl (by kernel_rfl) (by kernel_rfl) (by kernel_rfl) (fun _ _ _ h=>h) (Or.inr ⟨by rfl,rfl⟩) (by assumption) ?_
      try simp only [Act.put,List.setIfInBounds_toArray,List.set_cons_zero,List.set_cons_succ]
      refine wpAnyH_take (i:=21) (oi:=⟨some 86,_,_,_,_,some (18,true)⟩) (v:=undef) rfl (by kernel_rfl) (by kernel_rfl) (by kernel_rfl) (fun _ _ _ h=>h) (Or.inr ⟨by rfl,rfl⟩) (by assumption) ?_
      try simp only [Act.put,List.setIfInBounds_toArray,List.set_cons_zero,List.set_cons_succ]
      refine wpAnyH_take (i:=22) (oi:=⟨some 87,_,_,_,_,none⟩) (v:=?v22d) rfl (by kernel_rfl) (by kernel_rfl) (by kernel_rfl) (fun _ _ _ h=>h) (Or.inl ⟨by rfl,?h22d⟩) (by assumption) ?r22d
      case h22d=>(intro w hSw;(try dsimp only at hSw);go_simp;try with_reducible rfl)
      try simp only [Act.put,List.setIfInBounds_toArray,List.set_cons_zero,List.set_cons_succ]
      refine wpAnyH_take (i:=23) (oi:=⟨some 88,_,_,_,_,none⟩) (v:=?v23d) rfl (by kernel_rfl) (by kernel_rfl) (by kernel_rfl) (fun _ _ _ h=>h) (Or.inl ⟨by rfl,?h23d⟩) (by assumption) ?r23d
      case h23d=>(intro w hSw;(try dsimp only at hSw);go_simp;try with_reducible rfl)
      try simp only [Act.put,List.setIfInBounds_toArray,List.set_cons_zero,List.set_cons_succ]
      refine wpAnyH_take (i:=24) (oi:=⟨some 89,_,_,_,_,some (23,true)⟩) (v:=undef) rfl (by kernel_rfl) (by kernel_rfl) (by kernel_rfl) (fun _ _ _ h=>h) (Or.inr ⟨by rfl,rfl⟩) (by assumption) ?_
      try simp only [Act.put,List.setIfInBounds_toArray,List.set_cons_zero,List.set_cons_succ]
      refine wpAnyH_take (i:=25) (oi:=⟨some 90,_,_,_,_,some (23,true)⟩) (v:=undef) rfl (by kernel_rfl) (by kernel_rfl) (by kernel_rfl) (fun _ _ _ h=>h) (Or.inr ⟨by rfl,rfl⟩) (by assumption) ?_
      try simp only [Act.put,List.setIfInBounds_toArray,List.set_cons_zero,List.set_cons_succ]
      refine wpAnyH_take (i:=26) (oi:=⟨some 91,_,_,_,_,some (23,true)⟩) (v:=undef) rfl (by kernel_rfl) (by kernel_rfl) (by kernel_rfl) (fun _ _ _ h=>h) (Or.inr ⟨by rfl,rfl⟩) (by assumption) ?_
      try simp only [Act.put,List.setIfInBounds_toArray,List.set_cons_zero,List.set_cons_succ]
      refine wpAnyH_take (i:=27) (oi:=⟨some 92,_,_,_,_,some (23,true)⟩) (v:=undef) rfl (by kernel_rfl) (by kernel_rfl) (by kernel_rfl) (fun _ _ _ h=>h) (Or.inr ⟨by rfl,rfl⟩) (by assumption) ?_
      try simp only [Act.put,List.setIfInBounds_toArray,List.set_cons_zero,List.set_cons_succ]
      refine wpAnyH_take (i:=28) (oi:=⟨some 93,_,_,_,_,some (23,true)⟩) (v:=undef) rfl (by kernel_rfl) (by kernel_rfl) (by kernel_rfl) (fun _ _ _ h=>h) (Or.inr ⟨by rfl,rfl⟩) (by assumption) ?_
      try simp only [Act.put,List.setIfInBounds_toArray,List.set_cons_zero,List.set_cons_succ]
      refine wpAnyH_take (i:=29) (oi:=⟨some 94,_,_,_,_,some (23,true)⟩) (v:=undef) rfl (by kernel_rfl) (by kernel_rfl) (by kernel_rfl) (fun _ _ _ h=>h) (Or.inr ⟨by rfl,rfl⟩) (by assumption) ?_
      try simp only [Act.put,List.setIfInBounds_toArray,List.set_cons_zero,List.set_cons_succ]
      refine wpAnyH_take (i:=30) (oi:=⟨some 95,_,_,_,_,some (23,true)⟩) (v:=undef) rfl (by kernel_rfl) (by kernel_rfl) (by kernel_rfl) (fun _ _ _ h=>h) (Or.inr ⟨by rfl,rfl⟩) (by assumption) ?_
      try simp only [Act.put,List.setIfInBounds_toArray,List.set_cons_zero,List.set_cons_succ]
      refine wpAnyH_take (i:=31) (oi:=⟨some 96,_,_,_,_,some (23,true)⟩) (v:=undef) rfl (by kernel_rfl) (by kernel_rfl) (by kernel_rfl) (fun _ _ _ h=>h) (Or.inr ⟨by rfl,rfl⟩) (by assumption) ?_
      try simp only [Act.put,List.setIfInBounds_toArray,List.set_cons_zero,List.set_cons_succ]
      refine wpAnyH_take (i:=32) (oi:=⟨some 97,_,_,_,_,some (23,true)⟩) (v:=undef) rfl (by kernel_rfl) (by kernel_rfl) (by kernel_rfl) (fun _ _ _ h=>h) (Or.inr ⟨by rfl,rfl⟩) (by assumption) ?_
      try simp only [Act.put,List.setIfInBounds_toArray,List.set_cons_zero,List.set_cons_succ]
      refine wpAnyH_take (i:=33) (oi:=⟨some 98,_,_,_,_,some (23,true)⟩) (v:=undef) rfl (by kernel_rfl) (by kernel_rfl) (by kernel_rfl) (fun _ _ _ h=>h) (Or.inr ⟨by rfl,rfl⟩) (by assumption) ?_
      try simp only [Act.put,List.setIfInBounds_toArray,List.set_cons_zero,List.set_cons_succ]
      refine wpAnyH_take (i:=34) (oi:=⟨some 99,_,_,_,_,none⟩) (v:=?v34d) rfl (by kernel_rfl) (by kernel_rfl) (by kernel_rfl) (fun _ _ _ h=>h) (Or.inl ⟨by rfl,?h34d⟩) (by assumption) ?r34d
      case h34d=>(intro w hSw;(try dsimp only at hSw);go_simp;try with_reducible rfl)
      try simp only [Act.put,List.setIfInBounds_toArray,List.set_cons_zero,List.set_cons_succ]
      refine wpAnyH_take (i:=35) (oi:=⟨some 100,_,_,_,_,none⟩) (v:=?v35d) rfl (by kernel_rfl) (by kernel_rfl) (by kernel_rfl) (fun _ _ _ h=>h) (Or.inl ⟨by rfl,?h35d⟩) (by assumption) ?r35d
      case h35d=>(intro w hSw;(try dsimp only at hSw);go_simp;try with_reducible rfl)
      try simp only [Act.put,List.setIfInBounds_toArray,List.set_cons_zero,List.set_cons_succ]
      refine wpAnyH_take (i:=36) (oi:=⟨some 101,_,_,_,_,some (35,true)⟩) (v:=undef) rfl (by kernel_rfl) (by kernel_rfl) (by kernel_rfl) (fun _ _ _ h=>h) (Or.inr ⟨by rfl,rfl⟩) (by assumption) ?_
      try simp only [Act.put,List.setIfInBounds_toArray,List.set_cons_zero,List.set_cons_succ]
      refine wpAnyH_take (i:=37) (oi:=⟨some 102,_,_,_,_,some (35,true)⟩) (v:=undef) rfl (by kernel_rfl) (by kernel_rfl) (by kernel_rfl) (fun _ _ _ h=>h) (Or.inr ⟨by rfl,rfl⟩) (by assumption) ?_
      try simp only [Act.put,List.setIfInBounds_toArray,List.set_cons_zero,List.set_cons_succ]
      refine wpAnyH_take (i:=38) (oi:=⟨some 103,_,_,_,_,some (35,true)⟩) (v:=undef) rfl (by kernel_rfl) (by kernel_rfl) (by kernel_rfl) (fun _ _ _ h=>h) (Or.inr ⟨by rfl,rfl⟩) (by assumption) ?_
      try simp only [Act.put,List.setIfInBounds_toArray,List.set_cons_zero,List.set_cons_succ]
      refine wpAnyH_take (i:=39) (oi:=⟨some 104,_,_,_,_,some (35,true)⟩) (v:=undef) rfl (by kernel_rfl) (by kernel_rfl) (by kernel_rfl) (fun _ _ _ h=>h) (Or.inr ⟨by rfl,rfl⟩) (by assumption) ?_
      try simp only [Act.put,List.setIfInBounds_toArray,List.set_cons_zero,List.set_cons_succ]
      refine wpAnyH_take (i:=40) (oi:=⟨some 105,_,_,_,_,some (35,true)⟩) (v:=undef) rfl (by kernel_rfl) (by kernel_rfl) (by kernel_rfl) (fun _ _ _ h=>h) (Or.inr ⟨by rfl,rfl⟩) (by assumption) ?_
      try simp only [Act.put,List.setIfInBounds_toArray,List.set_cons_zero,List.set_cons_succ]
      refine wpAnyH_take (i:=41) (oi:=⟨some 106,_,_,_,_,some (35,true)⟩) (v:=undef) rfl (by kernel_rfl) (by kernel_rfl) (by kernel_rfl) (fun _ _ _ h=>h) (Or.inr ⟨by rfl,rfl⟩) (by assumption) ?_
      try simp only [Act.put,List.setIfInBounds_toArray,List.set_cons_zero,List.set_cons_succ]
      refine wpAnyH_take (i:=42) (oi:=⟨some 107,_,_,_,_,some (35,true)⟩) (v:=undef) rfl (by kernel_rfl) (by kernel_rfl) (by kernel_rfl) (fun _ _ _ h=>h) (Or.inr ⟨by rfl,rfl⟩) (by assumption) ?_
      try simp only [Act.put,List.setIfInBounds_toArray,List.set_cons_zero,List.set_cons_succ]
      refine wpAnyH_take (i:=43) (oi:=⟨some 108,_,_,_,_,some (35,true)⟩) (v:=undef) rfl (by kernel_rfl) (by kernel_rfl) (by kernel_rfl) (fun _ _ _ h=>h) (Or.inr ⟨by rfl,rfl⟩) (by assumption) ?_
      try simp only [Act.put,List.setIfInBounds_toArray,List.set_cons_zero,List.set_cons_succ]
      refine wpAnyH_take (i:=44) (oi:=⟨some 109,_,_,_,_,some (35,true)⟩) (v:=undef) rfl (by kernel_rfl) (by kernel_rfl) (by kernel_rfl) (fun _ _ _ h=>h) (Or.inr ⟨by rfl,rfl⟩) (by assumption) ?_
      try simp only [Act.put,List.setIfInBounds_toArray,List.set_cons_zero,List.set_cons_succ]
      refine wpAnyH_take (i:=45) (oi:=⟨some 110,_,_,_,_,some (35,true)⟩) (v:=undef) rfl (by kernel_rfl) (by kernel_rfl) (by kernel_rfl) (fun _ _ _ h=>h) (Or.inr ⟨by rfl,rfl⟩) (by assumption) ?_
      try simp only [Act.put,List.setIfInBounds_toArray,List.set_cons_zero,List.set_cons_succ]
      refine wpAnyH_take (i:=46) (oi:=⟨some 111,_,_,_,_,some (35,true)⟩) (v:=undef) rfl (by kernel_rfl) (by kernel_rfl) (by kernel_rfl) (fun _ _ _ h=>h) (Or.inr ⟨by rfl,rfl⟩) (by assumption) ?_
      try simp only [Act.put,List.setIfInBounds_toArray,List.set_cons_zero,List.set_cons_succ]
      refine wpAnyH_ready (rs:=[47]) (by kernel_rfl) (by simp) ?_;refine AllReadyH.cons (o:=⟨some 112,_,_,_,_,some (35,true)⟩) rfl (fun K hK=>?_) AllReadyH.nil;rw [if_neg (Bool.eq_false_iff.1 (by kernel_rfl))];refine hK.out _ _ (by assumption) (fun hHeld=>?_);clear hK K
      try simp only [Act.put,List.setIfInBounds_toArray,List.set_cons_zero,List.set_cons_succ]
      refine wpAnyH_ready (rs:=[48]) (by kernel_rfl) (by simp) ?_;refine AllReadyH.cons (o:=⟨some 113,_,_,_,_,some (35,true)⟩) rfl (fun K hK=>?_) AllReadyH.nil;rw [if_neg (Bool.eq_false_iff.1 (by kernel_rfl))];refine hK.out _ _ (by assumption) (fun hHeld=>?_);clear hK K
      try simp only [Act.put,List.setIfInBounds_toArray,List.set_cons_zero,List.set_cons_succ]
      refine wpAnyH_take (i:=49) (oi:=⟨some 114,_,_,_,_,none⟩) (v:=?v49d) rfl (by kernel_rfl) (by kernel_rfl) (by kernel_rfl) (fun _ _ _ h=>h) (Or.inl ⟨by rfl,?h49d⟩) (by assumption) ?r49d
      case h49d=>(intro w hSw;(try dsimp only at hSw);go_simp;try with_reducible rfl)
      try simp only [Act.put,List.setIfInBounds_toArray,List.set_cons_zero,List.set_cons_succ]
      refine wpAnyH_take (i:=50) (oi:=⟨some 4,_,_,_,_,none⟩) (v:=?v50d) rfl (by kernel_rfl) (by kernel_rfl) (by kernel_rfl) (fun _ _ _ h=>h) (Or.inl ⟨by rfl,?h50d⟩) (by assumption) ?r50d
      case h50d=>(intro w hSw;(try dsimp only at hSw);go_simp;try with_reducible rfl)
      try simp only [Act.put,List.setIfInBounds_toArray,List.set_cons_zero,List.set_cons_succ]
      refine wpAnyH_done (by kernel_rfl) ?_ _;refine NoPanic.normal ?_;go_wp2_with fail;go_ret;exact ⟨ret_bool HR2.out.symm,HK.out.trans kd⟩
     ·rw [decide_eq_false h8] at s8
      by_cases h9:L=9
      ·have HR2:Hid (R=false):=hid (by rw [HR.out,decide_eq_false (fun h=>h.2 h9)];rfl)
       rw [decide_eq_true h9] at s9;have HSS:=hid (fun W (kW:Keeps w2 W)=>(⟨kW.cell e0,trivial⟩:W.cell? ⟨r,0,none⟩=some (.string (syS L))∧True));clear HR HS HIR HGE b1 b2 b3 e0 e2 e3 i1 h8 h9;go_wp2_with fail;refine wp_region_noPanic ?_;refine wp_region_held_drew (S:=(fun w'=>w'.cell? ⟨r,0,none⟩=some (.string (syS L))∧True)) (by kernel_rfl) (HSS.out _ kd) (fun hHeld=>?_);refine wpAnyH_take (i:=0) (oi:=⟨some 65,_,_,_,_,none⟩) (v:=?v0e) rfl (by kernel_rfl) (by kernel_rfl) (by kernel_rfl) (fun _ _ _ h=>h) (Or.inl ⟨by rfl,?h0e⟩) (by assumption) ?r0e
       case h0e=>(intro w hSw;(try dsimp only at hSw);go_simp;try with_reducible rfl)
       try simp only [Act.put,List.setIfInBounds_toArray,List.set_cons_zero,List.set_cons_succ]
       refine wpAnyH_take (i:=1) (oi:=⟨some 66,_,_,_,_,none⟩) (v:=?v1e) rfl (by kernel_rfl) (by kernel_rfl) (by kernel_rfl) (fun _ _ _ h=>h) (Or.inl ⟨by rfl,?h1e⟩) (by assumption) ?r1e
       case h1e=>(intro w hSw;(try dsimp only at hSw);go_simp;try with_reducible rfl)
       try simp only [Act.put,List.setIfInBounds_toArray,List.set_cons_zero,List.set_cons_succ]
       refine wpAnyH_take (i:=2) (oi:=⟨some 67,_,_,_,_,none⟩) (v:=?v2e) rfl (by kernel_rfl) (by kernel_rfl) (by kernel_rfl) (fun _ _ _ h=>h) (Or.inl ⟨by rfl,?h2e⟩) (by assumption) ?r2e
       case h2e=>(intro w hSw;(try dsimp only at hSw);go_simp;try with_reducible rfl)
       try simp only [Act.put,List.setIfInBounds_toArray,List.set_cons_zero,List.set_cons_succ]
       refine wpAnyH_take (i:=3) (oi:=⟨some 68,_,_,_,_,none⟩) (v:=?v3e) rfl (by kernel_rfl) (by kernel_rfl) (by kernel_rfl) (fun _ _ _ h=>h) (Or.inl ⟨by rfl,?h3e⟩) (by assumption) ?r3e
       case h3e=>(intro w hSw;(try dsimp only at hSw);go_simp;try with_reducible rfl)
       try simp only [Act.put,List.setIfInBounds_toArray,List.set_cons_zero,List.set_cons_succ]
       refine wpAnyH_take (i:=4) (oi:=⟨some 69,_,_,_,_,none⟩) (v:=?v4e) rfl (by kernel_rfl) (by kernel_rfl) (by kernel_rfl) (fun _ _ _ h=>h) (Or.inl ⟨by rfl,?h4e⟩) (by assumption) ?r4e
       case h4e=>(intro w hSw;(try dsimp only at hSw);go_simp;try with_reducible rfl)
       try simp only [Act.put,List.setIfInBounds_toArray,List.set_cons_zero,List.set_cons_succ]
       refine wpAnyH_take (i:=5) (oi:=⟨some 70,_,_,_,_,none⟩) (v:=?v5e) rfl (by kernel_rfl) (by kernel_rfl) (by kernel_rfl) (fun _ _ _ h=>h) (Or.inl ⟨by rfl,?h5e⟩) (by assumption) ?r5e
       case h5e=>(intro w hSw;(try dsimp only at hSw);go_simp;try with_reducible rfl)
       try simp only [Act.put,List.setIfInBounds_toArray,List.set_cons_zero,List.set_cons_succ]
       refine wpAnyH_take (i:=6) (oi:=⟨some 71,_,_,_,_,some (5,true)⟩) (v:=?v6e) rfl (by kernel_rfl) (by kernel_rfl) (by kernel_rfl) (fun _ _ _ h=>h) (Or.inl ⟨by rfl,?h6e⟩) (by assumption) ?r6e
       case h6e=>(intro w hSw;(try dsimp only at hSw);go_simp;try with_reducible rfl)
       try simp only [Act.put,List.setIfInBounds_toArray,List.set_cons_zero,List.set_cons_succ]
       refine wpAnyH_take (i:=7) (oi:=⟨some 72,_,_,_,_,some (5,true)⟩) (v:=?v7e) rfl (by kernel_rfl) (by kernel_rfl) (by kernel_rfl) (fun _ _ _ h=>h) (Or.inl ⟨by rfl,?h7e⟩) (by assumption) ?r7e
       case h7e=>(intro w hSw;(try dsimp only at hSw);go_simp;try with_reducible rfl)
       try simp only [Act.put,List.setIfInBounds_toArray,List.set_cons_zero,List.set_cons_succ]
       refine wpAnyH_take (i:=8) (oi:=⟨some 73,_,_,_,_,some (5,true)⟩) (v:=?v8e) rfl (by kernel_rfl) (by kernel_rfl) (by kernel_rfl) (fun _ _ _ h=>h) (Or.inl ⟨by rfl,?h8e⟩) (by assumption) ?r8e
       case h8e=>(intro w hSw;(try dsimp only at hSw);go_simp;try with_reducible rfl)
       try simp only [Act.put,List.setIfInBounds_toArray,List.set_cons_zero,List.set_cons_succ]
       refine wpAnyH_take (i:=9) (oi:=⟨some 74,_,_,_,_,some (5,true)⟩) (v:=?v9e) rfl (by kernel_rfl) (by kernel_rfl) (by kernel_rfl) (fun _ _ _ h=>h) (Or.inl ⟨by rfl,?h9e⟩) (by assumption) ?r9e
       case h9e=>(intro w hSw;(try dsimp only at hSw);go_simp;try with_reducible rfl)
       try simp only [Act.put,List.setIfInBounds_toArray,List.set_cons_zero,List.set_cons_succ]
       refine wpAnyH_take (i:=10) (oi:=⟨some 75,_,_,_,_,some (5,true)⟩) (v:=?v10e) rfl (by kernel_rfl) (by kernel_rfl) (by kernel_rfl) (fun _ _ _ h=>h) (Or.inl ⟨by rfl,?h10e⟩) (by assumption) ?r10e
       case h10e=>(intro w hSw;(try dsimp only at hSw);go_simp;try with_reducible rfl)
       try simp only [Act.put,List.setIfInBounds_toArray,List.set_cons_zero,List.set_cons_succ]
       refine wpAnyH_take (i:=11) (oi:=⟨some 76,_,_,_,_,none⟩) (v:=?v11e) rfl (by kernel_rfl) (by kernel_rfl) (by kernel_rfl) (fun _ _ _ h=>h) (Or.inl ⟨by rfl,?h11e⟩) (by assumption) ?r11e
       case h11e=>(intro w hSw;(try dsimp only at hSw);go_simp;try with_reducible rfl)
       try simp only [Act.put,List.setIfInBounds_toArray,List.set_cons_zero,List.set_cons_succ]
       refine wpAnyH_take (i:=12) (oi:=⟨some 77,_,_,_,_,none⟩) (v:=?v12e) rfl (by kernel_rfl) (by kernel_rfl) (by kernel_rfl) (fun _ _ _ h=>h) (Or.inl ⟨by rfl,?h12e⟩) (by assumption) ?r12e
       case h12e=>(intro w hSw;(try dsimp only at hSw);go_simp;try with_reducible rfl)
       try simp only [Act.put,List.setIfInBounds_toArray,List.set_cons_zero,List.set_cons_succ]
       refine wpAnyH_take (i:=13) (oi:=⟨some 78,_,_,_,_,some (12,true)⟩) (v:=undef) rfl (by kernel_rfl) (by kernel_rfl) (by kernel_rfl) (fun _ _ _ h=>h) (Or.inr ⟨by rfl,rfl⟩) (by assumption) ?_
       try simp only [Act.put,List.setIfInBounds_toArray,List.set_cons_zero,List.set_cons_succ]
       refine wpAnyH_take (i:=14) (oi:=⟨some 79,_,_,_,_,some (12,true)⟩) (v:=undef) rfl (by kernel_rfl) (by kernel_rfl) (by kernel_rfl) (fun _ _ _ h=>h) (Or.inr ⟨by rfl,rfl⟩) (by assumption) ?_
       try simp only [Act.put,List.setIfInBounds_toArray,List.set_cons_zero,List.set_cons_succ]
       refine wpAnyH_take (i:=15) (oi:=⟨some 80,_,_,_,_,some (12,true)⟩) (v:=undef) rfl (by kernel_rfl) (by kernel_rfl) (by kernel_rfl) (fun _ _ _ h=>h) (Or.inr ⟨by rfl,rfl⟩) (by assumption) ?_
       try simp only [Act.put,List.setIfInBounds_toArray,List.set_cons_zero,List.set_cons_succ]
       refine wpAnyH_ready (rs:=[16]) (by kernel_rfl) (by simp) ?_;refine AllReadyH.cons (o:=⟨some 81,_,_,_,_,some (12,true)⟩) rfl (fun K hK=>?_) AllReadyH.nil;rw [if_neg (Bool.eq_false_iff.1 (by kernel_rfl))];refine hK.out _ _ (by assumption) (fun hHeld=>?_);clear hK K
       try simp only [Act.put,List.setIfInBounds_toArray,List.set_cons_zero,List.set_cons_succ]
       refine wpAnyH_take (i:=17) (oi:=⟨some 82,_,_,_,_,none⟩) (v:=?v17e) rfl (by kernel_rfl) (by kernel_rfl) (by kernel_rfl) (fun _ _ _ h=>h) (Or.inl ⟨by rfl,?h17e⟩) (by assumption) ?r17e
       case h17e=>(intro w hSw;(try dsimp only at hSw);go_simp;try with_reducible rfl)
       try simp only [Act.put,List.setIfInBounds_toArray,List.set_cons_zero,List.set_cons_succ]
       refine wpAnyH_take (i:=18) (oi:=⟨some 83,_,_,_,_,none⟩) (v:=?v18e) rfl (by kernel_rfl) (by kernel_rfl) (by kernel_rfl) (fun _ _ _ h=>h) (Or.inl ⟨by rfl,?h18e⟩) (by assumption) ?r18e
       case h18e=>(intro w hSw;(try dsimp only at hSw);go_simp;try with_reducible rfl)
       try simp only [Act.put,List.setIfInBounds_toArray,List.set_cons_zero,List.set_cons_succ]
       refine wpAnyH_take (i:=19) (oi:=⟨some 84,_,_,_,_,some (18,true)⟩) (v:=undef) rfl (by kernel_rfl) (by kernel_rfl) (by kernel_rfl) (fun _ _ _ h=>h) (Or.inr ⟨by rfl,rfl⟩) (by assumption) ?_
       try simp only [Act.put,List.setIfInBounds_toArray,List.set_cons_zero,List.set_cons_succ]
       refine wpAnyH_take (i:=20) (oi:=⟨some 85,_,_,_,_,some (18,true)⟩) (v:=undef) rfl (by kernel_rfl) (by kernel_rfl) (by kernel_rfl) (fun _ _ _ h=>h) (Or.inr ⟨by rfl,rfl⟩) (by assumption) ?_
       try simp only [Act.put,List.setIfInBounds_toArray,List.set_cons_zero,List.set_cons_succ]
       refine wpAnyH_take (i:=21) (oi:=⟨some 86,_,_,_,_,some (18,true)⟩) (v:=undef) rfl (by kernel_rfl) (by kernel_rfl) (by kernel_rfl) (fun _ _ _ h=>h) (Or.inr ⟨by rfl,rfl⟩) (by assumption) ?_
       try simp only [Act.put,List.setIfInBounds_toArray,List.set_cons_zero,List.set_cons_succ]
       refine wpAnyH_take (i:=22) (oi:=⟨some 87,_,_,_,_,none⟩) (v:=?v22e) rfl (by kernel_rfl) (by kernel_rfl) (by kernel_rfl) (fun _ _ _ h=>h) (Or.inl ⟨by rfl,?h22e⟩) (by assumption) ?r22e
       case h22e=>(intro w hSw;(try dsimp only at hSw);go_simp;try with_reducible rfl)
       try simp only [Act.put,List.setIfInBounds_toArray,List.set_cons_zero,List.set_cons_succ]
       refine wpAnyH_take (i:=23) (oi:=⟨some 88,_,_,_,_,none⟩) (v:=?v23e) rfl (by kernel_rfl) (by kernel_rfl) (by kernel_rfl) (fun _ _ _ h=>h) (Or.inl ⟨by rfl,?h23e⟩) (by assumption) ?r23e
       case h23e=>(intro w hSw;(try dsimp only at hSw);go_simp;try with_reducible rfl)
       try simp only [Act.put,List.setIfInBounds_toArray,List.set_cons_zero,List.set_cons_succ]
       refine wpAnyH_take (i:=24) (oi:=⟨some 89,_,_,_,_,some (23,true)⟩) (v:=undef) rfl (by kernel_rfl) (by kernel_rfl) (by kernel_rfl) (fun _ _ _ h=>h) (Or.inr ⟨by rfl,rfl⟩) (by assumption) ?_
       try simp only [Act.put,List.setIfInBounds_toArray,List.set_cons_zero,List.set_cons_succ]
       refine wpAnyH_take (i:=25) (oi:=⟨some 90,_,_,_,_,some (23,true)⟩) (v:=undef) rfl (by kernel_rfl) (by kernel_rfl) (by kernel_rfl) (fun _ _ _ h=>h) (Or.inr ⟨by rfl,rfl⟩) (by assumption) ?_
       try simp only [Act.put,List.setIfInBounds_toArray,List.set_cons_zero,List.set_cons_succ]
       refine wpAnyH_take (i:=26) (oi:=⟨some 91,_,_,_,_,some (23,true)⟩) (v:=undef) rfl (by kernel_rfl) (by kernel_rfl) (by kernel_rfl) (fun _ _ _ h=>h) (Or.inr ⟨by rfl,rfl⟩) (by assumption) ?_
       try simp only [Act.put,List.setIfInBounds_toArray,List.set_cons_zero,List.set_cons_succ]
       refine wpAnyH_take (i:=27) (oi:=⟨some 92,_,_,_,_,some (23,true)⟩) (v:=undef) rfl (by kernel_rfl) (by kernel_rfl) (by kernel_rfl) (fun _ _ _ h=>h) (Or.inr ⟨by rfl,rfl⟩) (by assumption) ?_
       try simp only [Act.put,List.setIfInBounds_toArray,List.set_cons_zero,List.set_cons_succ]
       refine wpAnyH_take (i:=28) (oi:=⟨some 93,_,_,_,_,some (23,true)⟩) (v:=undef) rfl (by kernel_rfl) (by kernel_rfl) (by kernel_rfl) (fun _ _ _ h=>h) (Or.inr ⟨by rfl,rfl⟩) (by assumption) ?_
       try simp only [Act.put,List.setIfInBounds_toArray,List.set_cons_zero,List.set_cons_succ]
       refine wpAnyH_take (i:=29) (oi:=⟨some 94,_,_,_,_,some (23,true)⟩) (v:=undef) rfl (by kernel_rfl) (by kernel_rfl) (by kernel_rfl) (fun _ _ _ h=>h) (Or.inr ⟨by rfl,rfl⟩) (by assumption) ?_
       try simp only [Act.put,List.setIfInBounds_toArray,List.set_cons_zero,List.set_cons_succ]
       refine wpAnyH_take (i:=30) (oi:=⟨some 95,_,_,_,_,some (23,true)⟩) (v:=undef) rfl (by kernel_rfl) (by kernel_rfl) (by kernel_rfl) (fun _ _ _ h=>h) (Or.inr ⟨by rfl,rfl⟩) (by assumption) ?_
       try simp only [Act.put,List.setIfInBounds_toArray,List.set_cons_zero,List.set_cons_succ]
       refine wpAnyH_take (i:=31) (oi:=⟨some 96,_,_,_,_,some (23,true)⟩) (v:=undef) rfl (by kernel_rfl) (by kernel_rfl) (by kernel_rfl) (fun _ _ _ h=>h) (Or.inr ⟨by rfl,rfl⟩) (by assumption) ?_
       try simp only [Act.put,List.setIfInBounds_toArray,List.set_cons_zero,List.set_cons_succ]
       refine wpAnyH_take (i:=32) (oi:=⟨some 97,_,_,_,_,some (23,true)⟩) (v:=undef) rfl (by kernel_rfl) (by kernel_rfl) (by kernel_rfl) (fun _ _ _ h=>h) (Or.inr ⟨by rfl,rfl⟩) (by assumption) ?_
       try simp only [Act.put,List.setIfInBounds_toArray,List.set_cons_zero,List.set_cons_succ]
       refine wpAnyH_take (i:=33) (oi:=⟨some 98,_,_,_,_,some (23,true)⟩) (v:=undef) rfl (by kernel_rfl) (by kernel_rfl) (by kernel_rfl) (fun _ _ _ h=>h) (Or.inr ⟨by rfl,rfl⟩) (by assumption) ?_
       try simp only [Act.put,List.setIfInBounds_toArray,List.set_cons_zero,List.set_cons_succ]
       refine wpAnyH_take (i:=34) (oi:=⟨some 99,_,_,_,_,none⟩) (v:=?v34e) rfl (by kernel_rfl) (by kernel_rfl) (by kernel_rfl) (fun _ _ _ h=>h) (Or.inl ⟨by rfl,?h34e⟩) (by assumption) ?r34e
       case h34e=>(intro w hSw;(try dsimp only at hSw);go_simp;try with_reducible rfl)
       try simp only [Act.put,List.setIfInBounds_toArray,List.set_cons_zero,List.set_cons_succ]
       refine wpAnyH_take (i:=35) (oi:=⟨some 100,_,_,_,_,none⟩) (v:=?v35e) rfl (by kernel_rfl) (by kernel_rfl) (by kernel_rfl) (fun _ _ _ h=>h) (Or.inl ⟨by rfl,?h35e⟩) (by assumption) ?r35e
       case h35e=>(intro w hSw;(try dsimp only at hSw);go_simp;try with_reducible rfl)
       try simp only [Act.put,List.setIfInBounds_toArray,List.set_cons_zero,List.set_cons_succ]
       refine wpAnyH_take (i:=36) (oi:=⟨some 101,_,_,_,_,some (35,true)⟩) (v:=undef) rfl (by kernel_rfl) (by kernel_rfl) (by kernel_rfl) (fun _ _ _ h=>h) (Or.inr ⟨by rfl,rfl⟩) (by assumption) ?_
       try simp only [Act.put,List.setIfInBounds_toArray,List.set_cons_zero,List.set_cons_succ]
       refine wpAnyH_take (i:=37) (oi:=⟨some 102,_,_,_,_,some (35,true)⟩) (v:=undef) rfl (by kernel_rfl) (by kernel_rfl) (by kernel_rfl) (fun _ _ _ h=>h) (Or.inr ⟨by rfl,rfl⟩) (by assumption) ?_
       try simp only [Act.put,List.setIfInBounds_toArray,List.set_cons_zero,List.set_cons_succ]
       refine wpAnyH_take (i:=38) (oi:=⟨some 103,_,_,_,_,some (35,true)⟩) (v:=undef) rfl (by kernel_rfl) (by kernel_rfl) (by kernel_rfl) (fun _ _ _ h=>h) (Or.inr ⟨by rfl,rfl⟩) (by assumption) ?_
       try simp only [Act.put,List.setIfInBounds_toArray,List.set_cons_zero,List.set_cons_succ]
       refine wpAnyH_take (i:=39) (oi:=⟨some 104,_,_,_,_,some (35,true)⟩) (v:=undef) rfl (by kernel_rfl) (by kernel_rfl) (by kernel_rfl) (fun _ _ _ h=>h) (Or.inr ⟨by rfl,rfl⟩) (by assumption) ?_
       try simp only [Act.put,List.setIfInBounds_toArray,List.set_cons_zero,List.set_cons_succ]
       refine wpAnyH_take (i:=40) (oi:=⟨some 105,_,_,_,_,some (35,true)⟩) (v:=undef) rfl (by kernel_rfl) (by kernel_rfl) (by kernel_rfl) (fun _ _ _ h=>h) (Or.inr ⟨by rfl,rfl⟩) (by assumption) ?_
       try simp only [Act.put,List.setIfInBounds_toArray,List.set_cons_zero,List.set_cons_succ]
       refine wpAnyH_take (i:=41) (oi:=⟨some 106,_,_,_,_,some (35,true)⟩) (v:=undef) rfl (by kernel_rfl) (by kernel_rfl) (by kernel_rfl) (fun _ _ _ h=>h) (Or.inr ⟨by rfl,rfl⟩) (by assumption) ?_
       try simp only [Act.put,List.setIfInBounds_toArray,List.set_cons_zero,List.set_cons_succ]
       refine wpAnyH_take (i:=42) (oi:=⟨some 107,_,_,_,_,some (35,true)⟩) (v:=undef) rfl (by kernel_rfl) (by kernel_rfl) (by kernel_rfl) (fun _ _ _ h=>h) (Or.inr ⟨by rfl,rfl⟩) (by assumption) ?_
       try simp only [Act.put,List.setIfInBounds_toArray,List.set_cons_zero,List.set_cons_succ]
       refine wpAnyH_take (i:=43) (oi:=⟨some 108,_,_,_,_,some (35,true)⟩) (v:=undef) rfl (by kernel_rfl) (by kernel_rfl) (by kernel_rfl) (fun _ _ _ h=>h) (Or.inr ⟨by rfl,rfl⟩) (by assumption) ?_
       try simp only [Act.put,List.setIfInBounds_toArray,List.set_cons_zero,List.set_cons_succ]
       refine wpAnyH_take (i:=44) (oi:=⟨some 109,_,_,_,_,some (35,true)⟩) (v:=undef) rfl (by kernel_rfl) (by kernel_rfl) (by kernel_rfl) (fun _ _ _ h=>h) (Or.inr ⟨by rfl,rfl⟩) (by assumption) ?_
       try simp only [Act.put,List.setIfInBounds_toArray,List.set_cons_zero,List.set_cons_succ]
       refine wpAnyH_take (i:=45) (oi:=⟨some 110,_,_,_,_,some (35,true)⟩) (v:=undef) rfl (by kernel_rfl) (by kernel_rfl) (by kernel_rfl) (fun _ _ _ h=>h) (Or.inr ⟨by rfl,rfl⟩) (by assumption) ?_
       try simp only [Act.put,List.setIfInBounds_toArray,List.set_cons_zero,List.set_cons_succ]
       refine wpAnyH_take (i:=46) (oi:=⟨some 111,_,_,_,_,some (35,true)⟩) (v:=undef) rfl (by kernel_rfl) (by kernel_rfl) (by kernel_rfl) (fun _ _ _ h=>h) (Or.inr ⟨by rfl,rfl⟩) (by assumption) ?_
       try simp only [Act.put,List.setIfInBounds_toArray,List.set_cons_zero,List.set_cons_succ]
       refine wpAnyH_ready (rs:=[47]) (by kernel_rfl) (by simp) ?_;refine AllReadyH.cons (o:=⟨some 112,_,_,_,_,some (35,true)⟩) rfl (fun K hK=>?_) AllReadyH.nil;rw [if_neg (Bool.eq_false_iff.1 (by kernel_rfl))];refine hK.out _ _ (by assumption) (fun hHeld=>?_);clear hK K
       try simp only [Act.put,List.setIfInBounds_toArray,List.set_cons_zero,List.set_cons_succ]
       refine wpAnyH_ready (rs:=[48]) (by kernel_rfl) (by simp) ?_;refine AllReadyH.cons (o:=⟨some 113,_,_,_,_,some (35,true)⟩) rfl (fun K hK=>?_) AllReadyH.nil;rw [if_neg (Bool.eq_false_iff.1 (by kernel_rfl))];refine hK.out _ _ (by assumption) (fun hHeld=>?_);clear hK K
       try simp only [Act.put,List.setIfInBounds_toArray,List.set_cons_zero,List.set_cons_succ]
       refine wpAnyH_take (i:=49) (oi:=⟨some 114,_,_,_,_,none⟩) (v:=?v49e) rfl (by kernel_rfl) (by kernel_rfl) (by kernel_rfl) (fun _ _ _ h=>h) (Or.inl ⟨by rfl,?h49e⟩) (by assumption) ?r49e
       case h49e=>(intro w hSw;(try dsimp only at hSw);go_simp;try with_reducible rfl)
       try simp only [Act.put,List.setIfInBounds_toArray,List.set_cons_zero,List.set_cons_succ]
       refine wpAnyH_take (i:=50) (oi:=⟨some 4,_,_,_,_,none⟩) (v:=?v50e) rfl (by kernel_rfl) (by kernel_rfl) (by kernel_rfl) (fun _ _ _ h=>h) (Or.inl ⟨by rfl,?h50e⟩) (by assumption) ?r50e
       case h50e=>(intro w hSw;(try dsimp only at hSw);go_simp;try with_reducible rfl)
       try simp only [Act.put,List.setIfInBounds_toArray,List.set_cons_zero,List.set_cons_succ]
       refine wpAnyH_done (by kernel_rfl) ?_ _;refine NoPanic.normal ?_;go_wp2_with fail;go_ret;exact ⟨ret_bool HR2.out.symm,HK.out.trans kd⟩
      ·rw [decide_eq_false h9] at s9
       rw [decide_eq_true ⟨h8,h9⟩,Bool.true_and] at HR;clear h8 h9
       by_cases hf:inR xf 0 ((k:Int)-1)=true
       ·rw [hf,Bool.true_and] at HR
        by_cases hs:xs=0
        ·subst hs
         rw [decide_eq_true rfl,Bool.true_and] at HR;obtain ⟨f0,f1⟩:=(HIR.out xf).1 hf;obtain ⟨jf,rfl⟩:=Int.eq_ofNat_of_zero_le f0
         have hjf:jf<k:=by omega
         rw [HGE.out jf hjf] at HR;have hD2:=HDD.out.keeps HK.out
         have hul:(usP (ls.take k)).length=k:=by rw [usP_len];simp;omega
         obtain ⟨pu0,cu,rfl,hu1,hu2⟩:=hD2.us.shape;obtain ⟨bu,ou,uu,epu,gu,hou⟩:=hD2.us.get jf (by omega)
         cases epu
         have hgu:getI [] (usP (ls.take k)) (jf:Int)=(usP (ls.take k))[jf]'(by omega):=by
          unfold getI;rw [Int.toNat_natCast,List.getD_eq_getElem?_getD,List.getElem?_eq_getElem (by omega)];rfl
         rw [hgu] at HR;obtain ⟨pu,qu,rfl,_⟩:=At.of_own hou;generalize hus:(usP (ls.take k))[jf]'(by omega)=U at*
         have hun:(zs U).length=U.length:=by simp [zs]
         rw [hun] at gu;rw [hul] at e3
         have hujf:((jf:Nat):Int)<k:=by omega
         obtain ⟨nu,hnu⟩:∃ n,n=U.length:=⟨_,rfl⟩
         obtain ⟨un,hunk⟩:∃ n,n=k:=⟨_,rfl⟩
         rw [←hnu] at gu;rw [←hunk] at e3 hujf
         by_cases hU:U=[]
         ·rw [decide_eq_true hU,Bool.true_and] at HR
          have hn0:(nu:Int)==0:=by rw [hnu,hU];rfl
          have hn1:((nu:Int)==0)=true:=hn0;obtain ⟨_,_,q1,m1,c1,ep,⟨-,-,-,g3⟩,hn2⟩:=hD2.ln.get jf (by omega)
          cases ep
          have hl1:ls[jf].a.length≤1000:=HMM.out _ (List.getElem_mem _);have HN1:=hid (fun wz (kz:Keeps w2 wz)=>hn2.keeps kz);have HPX:=hid (fun wz (kz:Keeps w2 wz)=>prefix_any 5 ls[jf].a _ wz (HN1.out wz kz) (by omega));have HSM:=hid (fun wz u (kz:Keeps w2 wz) (hu:Nds wz u (⟨5,0⟩::ls[jf].a))=>same_any xa (⟨5,0⟩::ls[jf].a) _ u wz (HA.out wz (HK.out.trans kz)) hu);have HL3:Hid ((⟨5,0⟩::ls[jf].a:List Nd).length≤2147483648):=hid (by simp;omega);have HSS:=hid (fun W (kW:Keeps w2 W)=>(⟨kW.cell e0,kW.cell b1,kW.cell b2,kW.cell e3,kW.cell gu,kW.cell b3,kW.cell e2,kW.cell g3⟩:W.cell? ⟨r,0,none⟩=some (.string (syS L))∧W.cell? ⟨wI.heap.size,1,none⟩=some (.int .i64 ((jf:Nat):Int))∧W.cell? ⟨wI.heap.size,2,none⟩=some (.int .i64 0)∧W.cell? ⟨r,3,none⟩=some (.slice (some ⟨bu,ou,none⟩) un cu)∧W.cell? ⟨bu,ou+jf,none⟩=some (.slice pu nu qu)∧W.cell? ⟨wI.heap.size,3,none⟩=some (.slice q m c)∧W.cell? ⟨r,2,none⟩=some (.slice (some ⟨bl,ol,none⟩) ls.length cl)∧W.cell? ⟨bl,ol+jf*4+3,none⟩=some (.slice q1 m1 c1)))
          have hfl:((jf:Nat):Int)<ls.length:=by omega
          clear hD2 HS HIR HGE b1 b2 b3 e0 e2 e3 i1 gu hou hU hnu hn0 hl1 hn2 g3;generalize (⟨5,0⟩::ls[jf].a:List Nd)=Z at*;generalize decide (xa=Z)=A at*;go_wp2_with fail;refine wp_region_noPanic ?_;refine wp_region_held_drew (S:=(fun w'=>w'.cell? ⟨r,0,none⟩=some (.string (syS L))∧w'.cell? ⟨wI.heap.size,1,none⟩=some (.int .i64 ((jf:Nat):Int))∧w'.cell? ⟨wI.heap.size,2,none⟩=some (.int .i64 0)∧w'.cell? ⟨r,3,none⟩=some (.slice (some ⟨bu,ou,none⟩) un cu)∧w'.cell? ⟨bu,ou+jf,none⟩=some (.slice pu nu qu)∧w'.cell? ⟨wI.heap.size,3,none⟩=some (.slice q m c)∧w'.cell? ⟨r,2,none⟩=some (.slice (some ⟨bl,ol,none⟩) ls.length cl)∧w'.cell? ⟨bl,ol+jf*4+3,none⟩=some (.slice q1 m1 c1))) (by kernel_rfl) (HSS.out _ kd) (fun hHeld=>?_);refine wpAnyH_take (i:=0) (oi:=⟨some 65,_,_,_,_,none⟩) (v:=?v0i) rfl (by kernel_rfl) (by kernel_rfl) (by kernel_rfl) (fun _ _ _ h=>h) (Or.inl ⟨by rfl,?h0i⟩) (by assumption) ?r0i
          case h0i=>(intro w hSw;(try dsimp only at hSw);go_simp;try with_reducible rfl)
          try simp only [Act.put,List.setIfInBounds_toArray,List.set_cons_zero,List.set_cons_succ]
          refine wpAnyH_take (i:=1) (oi:=⟨some 66,_,_,_,_,none⟩) (v:=?v1i) rfl (by kernel_rfl) (by kernel_rfl) (by kernel_rfl) (fun _ _ _ h=>h) (Or.inl ⟨by rfl,?h1i⟩) (by assumption) ?r1i
          case h1i=>(intro w hSw;(try dsimp only at hSw);go_simp;try with_reducible rfl)
          try simp only [Act.put,List.setIfInBounds_toArray,List.set_cons_zero,List.set_cons_succ]
          refine wpAnyH_take (i:=2) (oi:=⟨some 67,_,_,_,_,none⟩) (v:=?v2i) rfl (by kernel_rfl) (by kernel_rfl) (by kernel_rfl) (fun _ _ _ h=>h) (Or.inl ⟨by rfl,?h2i⟩) (by assumption) ?r2i
          case h2i=>(intro w hSw;(try dsimp only at hSw);go_simp;try with_reducible rfl)
          try simp only [Act.put,List.setIfInBounds_toArray,List.set_cons_zero,List.set_cons_succ]
          refine wpAnyH_take (i:=3) (oi:=⟨some 68,_,_,_,_,none⟩) (v:=?v3i) rfl (by kernel_rfl) (by kernel_rfl) (by kernel_rfl) (fun _ _ _ h=>h) (Or.inl ⟨by rfl,?h3i⟩) (by assumption) ?r3i
          case h3i=>(intro w hSw;(try dsimp only at hSw);go_simp;try with_reducible rfl)
          try simp only [Act.put,List.setIfInBounds_toArray,List.set_cons_zero,List.set_cons_succ]
          refine wpAnyH_take (i:=4) (oi:=⟨some 69,_,_,_,_,none⟩) (v:=?v4i) rfl (by kernel_rfl) (by kernel_rfl) (by kernel_rfl) (fun _ _ _ h=>h) (Or.inl ⟨by rfl,?h4i⟩) (by assumption) ?r4i
          case h4i=>(intro w hSw;(try dsimp only at hSw);go_simp;try with_reducible rfl)
          try simp only [Act.put,List.setIfInBounds_toArray,List.set_cons_zero,List.set_cons_succ]
          refine wpAnyH_take (i:=5) (oi:=⟨some 70,_,_,_,_,none⟩) (v:=?v5i) rfl (by kernel_rfl) (by kernel_rfl) (by kernel_rfl) (fun _ _ _ h=>h) (Or.inl ⟨by rfl,?h5i⟩) (by assumption) ?r5i
          case h5i=>(intro w hSw;(try dsimp only at hSw);go_simp;try with_reducible rfl)
          try simp only [Act.put,List.setIfInBounds_toArray,List.set_cons_zero,List.set_cons_succ]
          refine wpAnyH_take (i:=6) (oi:=⟨some 71,_,_,_,_,some (5,true)⟩) (v:=?v6i) rfl (by kernel_rfl) (by kernel_rfl) (by kernel_rfl) (fun _ _ _ h=>h) (Or.inl ⟨by rfl,?h6i⟩) (by assumption) ?r6i
          case h6i=>(intro w hSw;(try dsimp only at hSw);go_simp;try with_reducible rfl)
          try simp only [Act.put,List.setIfInBounds_toArray,List.set_cons_zero,List.set_cons_succ]
          refine wpAnyH_take (i:=7) (oi:=⟨some 72,_,_,_,_,some (5,true)⟩) (v:=?v7i) rfl (by kernel_rfl) (by kernel_rfl) (by kernel_rfl) (fun _ _ _ h=>h) (Or.inl ⟨by rfl,?h7i⟩) (by assumption) ?r7i
          case h7i=>(intro w hSw;(try dsimp only at hSw);go_simp;try with_reducible rfl)
          try simp only [Act.put,List.setIfInBounds_toArray,List.set_cons_zero,List.set_cons_succ]
          refine wpAnyH_take (i:=8) (oi:=⟨some 73,_,_,_,_,some (5,true)⟩) (v:=?v8i) rfl (by kernel_rfl) (by kernel_rfl) (by kernel_rfl) (fun _ _ _ h=>h) (Or.inl ⟨by rfl,?h8i⟩) (by assumption) ?r8i
          case h8i=>(intro w hSw;(try dsimp only at hSw);go_simp;try with_reducible rfl)
          try simp only [Act.put,List.setIfInBounds_toArray,List.set_cons_zero,List.set_cons_succ]
          refine wpAnyH_take (i:=9) (oi:=⟨some 74,_,_,_,_,some (5,true)⟩) (v:=?v9i) rfl (by kernel_rfl) (by kernel_rfl) (by kernel_rfl) (fun _ _ _ h=>h) (Or.inl ⟨by rfl,?h9i⟩) (by assumption) ?r9i
          case h9i=>(intro w hSw;(try dsimp only at hSw);go_simp;try with_reducible rfl)
          try simp only [Act.put,List.setIfInBounds_toArray,List.set_cons_zero,List.set_cons_succ]
          refine wpAnyH_take (i:=10) (oi:=⟨some 75,_,_,_,_,some (5,true)⟩) (v:=?v10i) rfl (by kernel_rfl) (by kernel_rfl) (by kernel_rfl) (fun _ _ _ h=>h) (Or.inl ⟨by rfl,?h10i⟩) (by assumption) ?r10i
          case h10i=>(intro w hSw;(try dsimp only at hSw);go_simp;try with_reducible rfl)
          try simp only [Act.put,List.setIfInBounds_toArray,List.set_cons_zero,List.set_cons_succ]
          refine wpAnyH_take (i:=11) (oi:=⟨some 76,_,_,_,_,none⟩) (v:=?v11i) rfl (by kernel_rfl) (by kernel_rfl) (by kernel_rfl) (fun _ _ _ h=>h) (Or.inl ⟨by rfl,?h11i⟩) (by assumption) ?r11i
          case h11i=>(intro w hSw;(try dsimp only at hSw);go_simp;try with_reducible rfl)
          try simp only [Act.put,List.setIfInBounds_toArray,List.set_cons_zero,List.set_cons_succ]
          refine wpAnyH_take (i:=12) (oi:=⟨some 77,_,_,_,_,none⟩) (v:=?v12i) rfl (by kernel_rfl) (by kernel_rfl) (by kernel_rfl) (fun _ _ _ h=>h) (Or.inl ⟨by rfl,?h12i⟩) (by assumption) ?r12i
          case h12i=>(intro w hSw;(try dsimp only at hSw);go_simp;try with_reducible rfl)
          try simp only [Act.put,List.setIfInBounds_toArray,List.set_cons_zero,List.set_cons_succ]
          refine wpAnyH_take (i:=13) (oi:=⟨some 78,_,_,_,_,some (12,true)⟩) (v:=?v13i) rfl (by kernel_rfl) (by kernel_rfl) (by kernel_rfl) (fun _ _ _ h=>h) (Or.inl ⟨by rfl,?h13i⟩) (by assumption) ?r13i
          case h13i=>(intro w hSw;(try dsimp only at hSw);go_simp;try with_reducible rfl)
          try simp only [Act.put,List.setIfInBounds_toArray,List.set_cons_zero,List.set_cons_succ]
          refine wpAnyH_take (i:=14) (oi:=⟨some 79,_,_,_,_,some (12,true)⟩) (v:=?v14i) rfl (by kernel_rfl) (by kernel_rfl) (by kernel_rfl) (fun _ _ _ h=>h) (Or.inl ⟨by rfl,?h14i⟩) (by assumption) ?r14i
          case h14i=>(intro w hSw;(try dsimp only at hSw);go_simp;try with_reducible rfl)
          try simp only [Act.put,List.setIfInBounds_toArray,List.set_cons_zero,List.set_cons_succ]
          refine wpAnyH_take (i:=15) (oi:=⟨some 80,_,_,_,_,some (12,true)⟩) (v:=?v15i) rfl (by kernel_rfl) (by kernel_rfl) (by kernel_rfl) (fun _ _ _ h=>h) (Or.inl ⟨by rfl,?h15i⟩) (by assumption) ?r15i
          case h15i=>(intro w hSw;(try dsimp only at hSw);go_simp;try with_reducible rfl)
          try simp only [Act.put,List.setIfInBounds_toArray,List.set_cons_zero,List.set_cons_succ]
          refine wpAnyH_ready (rs:=[16]) (by kernel_rfl) (by simp) ?_;refine AllReadyH.cons (o:=⟨some 81,_,_,_,_,some (12,true)⟩) rfl (fun K hK=>?_) AllReadyH.nil;rw [if_pos (by kernel_rfl)]
          go_simp
          refine (HCL.out _ _ (HI1.out _ kd)).mono ?_;rintro e w5 ⟨rfl,rfl⟩;rw [hf];refine hK.out _ _ (hHeld) (fun hHeld=>?_);clear hK K
          try simp only [Act.put,List.setIfInBounds_toArray,List.set_cons_zero,List.set_cons_succ]
          refine wpAnyH_take (i:=17) (oi:=⟨some 82,_,_,_,_,none⟩) (v:=?v17i) rfl (by kernel_rfl) (by kernel_rfl) (by kernel_rfl) (fun _ _ _ h=>h) (Or.inl ⟨by rfl,?h17i⟩) (by assumption) ?r17i
          case h17i=>(intro w hSw;(try dsimp only at hSw);go_simp;try with_reducible rfl)
          try simp only [Act.put,List.setIfInBounds_toArray,List.set_cons_zero,List.set_cons_succ]
          refine wpAnyH_take (i:=18) (oi:=⟨some 83,_,_,_,_,none⟩) (v:=?v18i) rfl (by kernel_rfl) (by kernel_rfl) (by kernel_rfl) (fun _ _ _ h=>h) (Or.inl ⟨by rfl,?h18i⟩) (by assumption) ?r18i
          case h18i=>(intro w hSw;(try dsimp only at hSw);go_simp;try with_reducible rfl)
          try simp only [Act.put,List.setIfInBounds_toArray,List.set_cons_zero,List.set_cons_succ]
          refine wpAnyH_take (i:=19) (oi:=⟨some 84,_,_,_,_,some (18,true)⟩) (v:=?v19i) rfl (by kernel_rfl) (by kernel_rfl) (by kernel_rfl) (fun _ _ _ h=>h) (Or.inl ⟨by rfl,?h19i⟩) (by assumption) ?r19i
          case h19i=>(intro w hSw;(try dsimp only at hSw);go_simp;try with_reducible rfl)
          try simp only [Act.put,List.setIfInBounds_toArray,List.set_cons_zero,List.set_cons_succ]
          refine wpAnyH_take (i:=20) (oi:=⟨some 85,_,_,_,_,some (18,true)⟩) (v:=?v20i) rfl (by kernel_rfl) (by kernel_rfl) (by kernel_rfl) (fun _ _ _ h=>h) (Or.inl ⟨by rfl,?h20i⟩) (by assumption) ?r20i
          case h20i=>(intro w hSw;(try dsimp only at hSw);go_simp;try with_reducible rfl)
          try simp only [Act.put,List.setIfInBounds_toArray,List.set_cons_zero,List.set_cons_succ]
          refine wpAnyH_take (i:=21) (oi:=⟨some 86,_,_,_,_,some (18,true)⟩) (v:=?v21i) rfl (by kernel_rfl) (by kernel_rfl) (by kernel_rfl) (fun _ _ _ h=>h) (Or.inl ⟨by rfl,?h21i⟩) (by assumption) ?r21i
          case h21i=>(intro w hSw;(try dsimp only at hSw);go_simp;try with_reducible rfl)
          try simp only [Act.put,List.setIfInBounds_toArray,List.set_cons_zero,List.set_cons_succ]
          refine wpAnyH_take (i:=22) (oi:=⟨some 87,_,_,_,_,none⟩) (v:=?v22i) rfl (by kernel_rfl) (by kernel_rfl) (by kernel_rfl) (fun _ _ _ h=>h) (Or.inl ⟨by rfl,?h22i⟩) (by assumption) ?r22i
          case h22i=>(intro w hSw;(try dsimp only at hSw);go_simp;try with_reducible rfl)
          try simp only [Act.put,List.setIfInBounds_toArray,List.set_cons_zero,List.set_cons_succ]
          refine wpAnyH_take (i:=23) (oi:=⟨some 88,_,_,_,_,none⟩) (v:=?v23i) rfl (by kernel_rfl) (by kernel_rfl) (by kernel_rfl) (fun _ _ _ h=>h) (Or.inl ⟨by rfl,?h23i⟩) (by assumption) ?r23i
          case h23i=>(intro w hSw;(try dsimp only at hSw);go_simp;try with_reducible rfl)
          try simp only [Act.put,List.setIfInBounds_toArray,List.set_cons_zero,List.set_cons_succ]
          refine wpAnyH_take (i:=24) (oi:=⟨some 89,_,_,_,_,some (23,true)⟩) (v:=?v24i) rfl (by kernel_rfl) (by kernel_rfl) (by kernel_rfl) (fun _ _ _ h=>h) (Or.inl ⟨by rfl,?h24i⟩) (by assumption) ?r24i
          case h24i=>(intro w hSw;(try dsimp only at hSw);go_simp;try with_reducible rfl)
          try simp only [Act.put,List.setIfInBounds_toArray,List.set_cons_zero,List.set_cons_succ]
          refine wpAnyH_take (i:=25) (oi:=⟨some 90,_,_,_,_,some (23,true)⟩) (v:=?v25i) rfl (by kernel_rfl) (by kernel_rfl) (by kernel_rfl) (fun _ _ _ h=>h) (Or.inl ⟨by rfl,?h25i⟩) (by assumption) ?r25i
          case h25i=>(intro w hSw;(try dsimp only at hSw);go_simp;try with_reducible rfl)
          try simp only [Act.put,List.setIfInBounds_toArray,List.set_cons_zero,List.set_cons_succ]
          refine wpAnyH_take (i:=26) (oi:=⟨some 91,_,_,_,_,some (23,true)⟩) (v:=?v26i) rfl (by kernel_rfl) (by kernel_rfl) (by kernel_rfl) (fun _ _ _ h=>h) (Or.inl ⟨by rfl,?h26i⟩) (by assumption) ?r26i
          case h26i=>(intro w hSw;(try dsimp only at hSw);go_simp;try with_reducible rfl)
          try simp only [Act.put,List.setIfInBounds_toArray,List.set_cons_zero,List.set_cons_succ]
          refine wpAnyH_take (i:=27) (oi:=⟨some 92,_,_,_,_,some (23,true)⟩) (v:=?v27i) rfl (by kernel_rfl) (by kernel_rfl) (by kernel_rfl) (fun _ _ _ h=>h) (Or.inl ⟨by rfl,?h27i⟩) (by assumption) ?r27i
          case h27i=>(intro w hSw;(try dsimp only at hSw);go_simp;try with_reducible rfl)
          try simp only [Act.put,List.setIfInBounds_toArray,List.set_cons_zero,List.set_cons_succ]
          refine wpAnyH_take (i:=28) (oi:=⟨some 93,_,_,_,_,some (23,true)⟩) (v:=?v28i) rfl (by kernel_rfl) (by kernel_rfl) (by kernel_rfl) (fun _ _ _ h=>h) (Or.inl ⟨by rfl,?h28i⟩) (by assumption) ?r28i
          case h28i=>(intro w hSw;(try dsimp only at hSw);go_simp;try with_reducible rfl)
          try simp only [Act.put,List.setIfInBounds_toArray,List.set_cons_zero,List.set_cons_succ]
          refine wpAnyH_take (i:=29) (oi:=⟨some 94,_,_,_,_,some (23,true)⟩) (v:=?v29i) rfl (by kernel_rfl) (by kernel_rfl) (by kernel_rfl) (fun _ _ _ h=>h) (Or.inl ⟨by rfl,?h29i⟩) (by assumption) ?r29i
          case h29i=>(intro w hSw;(try dsimp only at hSw);go_simp;try with_reducible rfl)
          try simp only [Act.put,List.setIfInBounds_toArray,List.set_cons_zero,List.set_cons_succ]
          refine wpAnyH_take (i:=30) (oi:=⟨some 95,_,_,_,_,some (23,true)⟩) (v:=?v30i) rfl (by kernel_rfl) (by kernel_rfl) (by kernel_rfl) (fun _ _ _ h=>h) (Or.inl ⟨by rfl,?h30i⟩) (by assumption) ?r30i
          case h30i=>(intro w hSw;(try dsimp only at hSw);go_simp;try with_reducible rfl)
          try simp only [Act.put,List.setIfInBounds_toArray,List.set_cons_zero,List.set_cons_succ]
          refine wpAnyH_take (i:=31) (oi:=⟨some 96,_,_,_,_,some (23,true)⟩) (v:=?v31i) rfl (by kernel_rfl) (by kernel_rfl) (by kernel_rfl) (fun _ _ _ h=>h) (Or.inl ⟨by rfl,?h31i⟩) (by assumption) ?r31i
          case h31i=>(intro w hSw;(try dsimp only at hSw);go_simp;try with_reducible rfl)
          try simp only [Act.put,List.setIfInBounds_toArray,List.set_cons_zero,List.set_cons_succ]
          refine wpAnyH_take (i:=32) (oi:=⟨some 97,_,_,_,_,some (23,true)⟩) (v:=?v32i) rfl (by kernel_rfl) (by kernel_rfl) (by kernel_rfl) (fun _ _ _ h=>h) (Or.inl ⟨by rfl,?h32i⟩) (by assumption) ?r32i
          case h32i=>(intro w hSw;(try dsimp only at hSw);go_simp;try with_reducible rfl)
          try simp only [Act.put,List.setIfInBounds_toArray,List.set_cons_zero,List.set_cons_succ]
          refine wpAnyH_take (i:=33) (oi:=⟨some 98,_,_,_,_,some (23,true)⟩) (v:=?v33i) rfl (by kernel_rfl) (by kernel_rfl) (by kernel_rfl) (fun _ _ _ h=>h) (Or.inl ⟨by rfl,?h33i⟩) (by assumption) ?r33i
          case h33i=>(intro w hSw;(try dsimp only at hSw);go_simp;try with_reducible rfl)
          try simp only [Act.put,List.setIfInBounds_toArray,List.set_cons_zero,List.set_cons_succ]
          refine wpAnyH_take (i:=34) (oi:=⟨some 99,_,_,_,_,none⟩) (v:=?v34i) rfl (by kernel_rfl) (by kernel_rfl) (by kernel_rfl) (fun _ _ _ h=>h) (Or.inl ⟨by rfl,?h34i⟩) (by assumption) ?r34i
          case h34i=>(intro w hSw;(try dsimp only at hSw);go_simp;try with_reducible rfl)
          try simp only [Act.put,List.setIfInBounds_toArray,List.set_cons_zero,List.set_cons_succ]
          refine wpAnyH_take (i:=35) (oi:=⟨some 100,_,_,_,_,none⟩) (v:=?v35i) rfl (by kernel_rfl) (by kernel_rfl) (by kernel_rfl) (fun _ _ _ h=>h) (Or.inl ⟨by rfl,?h35i⟩) (by assumption) ?r35i
          case h35i=>(intro w hSw;(try dsimp only at hSw);go_simp;try with_reducible rfl)
          try simp only [Act.put,List.setIfInBounds_toArray,List.set_cons_zero,List.set_cons_succ]
          refine wpAnyH_take (i:=36) (oi:=⟨some 101,_,_,_,_,some (35,true)⟩) (v:=?v36i) rfl (by kernel_rfl) (by kernel_rfl) (by kernel_rfl) (fun _ _ _ h=>h) (Or.inl ⟨by rfl,?h36i⟩) (by assumption) ?r36i
          case h36i=>(intro w hSw;(try dsimp only at hSw);go_simp;try with_reducible rfl)
          try simp only [Act.put,List.setIfInBounds_toArray,List.set_cons_zero,List.set_cons_succ]
          refine wpAnyH_take (i:=37) (oi:=⟨some 102,_,_,_,_,some (35,true)⟩) (v:=?v37i) rfl (by kernel_rfl) (by kernel_rfl) (by kernel_rfl) (fun _ _ _ h=>h) (Or.inl ⟨by rfl,?h37i⟩) (by assumption) ?r37i
          case h37i=>(intro w hSw;(try dsimp only at hSw);go_simp;try with_reducible rfl)
          try simp only [Act.put,List.setIfInBounds_toArray,List.set_cons_zero,List.set_cons_succ]
          refine wpAnyH_take (i:=38) (oi:=⟨some 103,_,_,_,_,some (35,true)⟩) (v:=?v38i) rfl (by kernel_rfl) (by kernel_rfl) (by kernel_rfl) (fun _ _ _ h=>h) (Or.inl ⟨by rfl,?h38i⟩) (by assumption) ?r38i
          case h38i=>(intro w hSw;(try dsimp only at hSw);go_simp;try with_reducible rfl)
          try simp only [Act.put,List.setIfInBounds_toArray,List.set_cons_zero,List.set_cons_succ]
          refine wpAnyH_take (i:=39) (oi:=⟨some 104,_,_,_,_,some (35,true)⟩) (v:=?v39i) rfl (by kernel_rfl) (by kernel_rfl) (by kernel_rfl) (fun _ _ _ h=>h) (Or.inl ⟨by rfl,?h39i⟩) (by assumption) ?r39i
          case h39i=>(intro w hSw;(try dsimp only at hSw);go_simp;try with_reducible rfl)
          try simp only [Act.put,List.setIfInBounds_toArray,List.set_cons_zero,List.set_cons_succ]
          refine wpAnyH_take (i:=40) (oi:=⟨some 105,_,_,_,_,some (35,true)⟩) (v:=?v40i) rfl (by kernel_rfl) (by kernel_rfl) (by kernel_rfl) (fun _ _ _ h=>h) (Or.inl ⟨by rfl,?h40i⟩) (by assumption) ?r40i
          case h40i=>(intro w hSw;(try dsimp only at hSw);go_simp;try with_reducible rfl)
          try simp only [Act.put,List.setIfInBounds_toArray,List.set_cons_zero,List.set_cons_succ]
          refine wpAnyH_take (i:=41) (oi:=⟨some 106,_,_,_,_,some (35,true)⟩) (v:=?v41i) rfl (by kernel_rfl) (by kernel_rfl) (by kernel_rfl) (fun _ _ _ h=>h) (Or.inl ⟨by rfl,?h41i⟩) (by assumption) ?r41i
          case h41i=>(intro w hSw;(try dsimp only at hSw);go_simp;try with_reducible rfl)
          try simp only [Act.put,List.setIfInBounds_toArray,List.set_cons_zero,List.set_cons_succ]
          refine wpAnyH_take (i:=42) (oi:=⟨some 107,_,_,_,_,some (35,true)⟩) (v:=?v42i) rfl (by kernel_rfl) (by kernel_rfl) (by kernel_rfl) (fun _ _ _ h=>h) (Or.inl ⟨by rfl,?h42i⟩) (by assumption) ?r42i
          case h42i=>(intro w hSw;(try dsimp only at hSw);go_simp;try with_reducible rfl)
          try simp only [Act.put,List.setIfInBounds_toArray,List.set_cons_zero,List.set_cons_succ]
          refine wpAnyH_take (i:=43) (oi:=⟨some 108,_,_,_,_,some (35,true)⟩) (v:=?v43i) rfl (by kernel_rfl) (by kernel_rfl) (by kernel_rfl) (fun _ _ _ h=>h) (Or.inl ⟨by rfl,?h43i⟩) (by assumption) ?r43i
          case h43i=>(intro w hSw;(try dsimp only at hSw);go_simp;try with_reducible rfl)
          try simp only [Act.put,List.setIfInBounds_toArray,List.set_cons_zero,List.set_cons_succ]
          refine wpAnyH_take (i:=44) (oi:=⟨some 109,_,_,_,_,some (35,true)⟩) (v:=?v44i) rfl (by kernel_rfl) (by kernel_rfl) (by kernel_rfl) (fun _ _ _ h=>h) (Or.inl ⟨by rfl,?h44i⟩) (by assumption) ?r44i
          case h44i=>(intro w hSw;(try dsimp only at hSw);go_simp;try with_reducible rfl)
          try simp only [Act.put,List.setIfInBounds_toArray,List.set_cons_zero,List.set_cons_succ]
          refine wpAnyH_take (i:=45) (oi:=⟨some 110,_,_,_,_,some (35,true)⟩) (v:=?v45i) rfl (by kernel_rfl) (by kernel_rfl) (by kernel_rfl) (fun _ _ _ h=>h) (Or.inl ⟨by rfl,?h45i⟩) (by assumption) ?r45i
          case h45i=>(intro w hSw;(try dsimp only at hSw);go_simp;try with_reducible rfl)
          try simp only [Act.put,List.setIfInBounds_toArray,List.set_cons_zero,List.set_cons_succ]
          refine wpAnyH_take (i:=46) (oi:=⟨some 111,_,_,_,_,some (35,true)⟩) (v:=?v46i) rfl (by kernel_rfl) (by kernel_rfl) (by kernel_rfl) (fun _ _ _ h=>h) (Or.inl ⟨by rfl,?h46i⟩) (by assumption) ?r46i
          case h46i=>(intro w hSw;(try dsimp only at hSw);go_simp;try with_reducible rfl)
          try simp only [Act.put,List.setIfInBounds_toArray,List.set_cons_zero,List.set_cons_succ]
          refine wpAnyH_ready (rs:=[47]) (by kernel_rfl) (by simp) ?_;refine AllReadyH.cons (o:=⟨some 112,_,_,_,_,some (35,true)⟩) rfl (fun K hK=>?_) AllReadyH.nil;rw [if_pos (by kernel_rfl)]
          go_simp
          refine (HPX.out _ kd).mono ?_;rintro e w5 ⟨vj,rfl,hvj,k5⟩;have hvn:=hvj.nds HL3.out;obtain ⟨pj,nj,cj,rfl⟩:=hvn.shape;refine hK.out _ _ (HSS.out _ (kd.trans k5)) (fun hHeld=>?_);clear hK K
          try simp only [Act.put,List.setIfInBounds_toArray,List.set_cons_zero,List.set_cons_succ]
          refine wpAnyH_ready (rs:=[48]) (by kernel_rfl) (by simp) ?_;refine AllReadyH.cons (o:=⟨some 113,_,_,_,_,some (35,true)⟩) rfl (fun K hK=>?_) AllReadyH.nil;rw [if_pos (by kernel_rfl)]
          go_simp
          refine (HSM.out _ _ (kd.trans k5) hvn).mono ?_;rintro e w6 ⟨rfl,k6⟩;refine hK.out _ _ (HSS.out _ (kd.trans (k5.trans k6))) (fun hHeld=>?_);clear hK K
          try simp only [Act.put,List.setIfInBounds_toArray,List.set_cons_zero,List.set_cons_succ]
          refine wpAnyH_take (i:=49) (oi:=⟨some 114,_,_,_,_,none⟩) (v:=?v49i) rfl (by kernel_rfl) (by kernel_rfl) (by kernel_rfl) (fun _ _ _ h=>h) (Or.inl ⟨by rfl,?h49i⟩) (by assumption) ?r49i
          case h49i=>(intro w hSw;(try dsimp only at hSw);go_simp;try with_reducible rfl)
          try simp only [Act.put,List.setIfInBounds_toArray,List.set_cons_zero,List.set_cons_succ]
          refine wpAnyH_take (i:=50) (oi:=⟨some 4,_,_,_,_,none⟩) (v:=?v50i) rfl (by kernel_rfl) (by kernel_rfl) (by kernel_rfl) (fun _ _ _ h=>h) (Or.inl ⟨by rfl,?h50i⟩) (by assumption) ?r50i
          case h50i=>(intro w hSw;(try dsimp only at hSw);go_simp;try with_reducible rfl)
          try simp only [Act.put,List.setIfInBounds_toArray,List.set_cons_zero,List.set_cons_succ]
          refine wpAnyH_done (by kernel_rfl) ?_ _;refine NoPanic.normal ?_;go_wp2_with fail;go_ret;exact ⟨ret_bool HR.out.symm,HK.out.trans (kd.trans (k5.trans k6))⟩
         ·have HR2:Hid (R=false):=hid (by rw [HR.out,decide_eq_false hU];rfl)
          have hn1:((nu:Int)==0)=false:=by
           have:U.length≠0:=fun e=>hU (List.eq_nil_of_length_eq_zero e)
           simp;omega
          have HSS:=hid (fun W (kW:Keeps w2 W)=>(⟨kW.cell e0,kW.cell b1,kW.cell b2,kW.cell e3,kW.cell gu⟩:W.cell? ⟨r,0,none⟩=some (.string (syS L))∧W.cell? ⟨wI.heap.size,1,none⟩=some (.int .i64 ((jf:Nat):Int))∧W.cell? ⟨wI.heap.size,2,none⟩=some (.int .i64 0)∧W.cell? ⟨r,3,none⟩=some (.slice (some ⟨bu,ou,none⟩) un cu)∧W.cell? ⟨bu,ou+jf,none⟩=some (.slice pu nu qu)));clear HR hD2 HS HIR HGE b1 b2 b3 e0 e2 e3 i1 gu hou hU hnu;go_wp2_with fail;refine wp_region_noPanic ?_;refine wp_region_held_drew (S:=(fun w'=>w'.cell? ⟨r,0,none⟩=some (.string (syS L))∧w'.cell? ⟨wI.heap.size,1,none⟩=some (.int .i64 ((jf:Nat):Int))∧w'.cell? ⟨wI.heap.size,2,none⟩=some (.int .i64 0)∧w'.cell? ⟨r,3,none⟩=some (.slice (some ⟨bu,ou,none⟩) un cu)∧w'.cell? ⟨bu,ou+jf,none⟩=some (.slice pu nu qu))) (by kernel_rfl) (HSS.out _ kd) (fun hHeld=>?_);refine wpAnyH_take (i:=0) (oi:=⟨some 65,_,_,_,_,none⟩) (v:=?v0h) rfl (by kernel_rfl) (by kernel_rfl) (by kernel_rfl) (fun _ _ _ h=>h) (Or.inl ⟨by rfl,?h0h⟩) (by assumption) ?r0h
          case h0h=>(intro w hSw;(try dsimp only at hSw);go_simp;try with_reducible rfl)
          try simp only [Act.put,List.setIfInBounds_toArray,List.set_cons_zero,List.set_cons_succ]
          refine wpAnyH_take (i:=1) (oi:=⟨some 66,_,_,_,_,none⟩) (v:=?v1h) rfl (by kernel_rfl) (by kernel_rfl) (by kernel_rfl) (fun _ _ _ h=>h) (Or.inl ⟨by rfl,?h1h⟩) (by assumption) ?r1h
          case h1h=>(intro w hSw;(try dsimp only at hSw);go_simp;try with_reducible rfl)
          try simp only [Act.put,List.setIfInBounds_toArray,List.set_cons_zero,List.set_cons_succ]
          refine wpAnyH_take (i:=2) (oi:=⟨some 67,_,_,_,_,none⟩) (v:=?v2h) rfl (by kernel_rfl) (by kernel_rfl) (by kernel_rfl) (fun _ _ _ h=>h) (Or.inl ⟨by rfl,?h2h⟩) (by assumption) ?r2h
          case h2h=>(intro w hSw;(try dsimp only at hSw);go_simp;try with_reducible rfl)
          try simp only [Act.put,List.setIfInBounds_toArray,List.set_cons_zero,List.set_cons_succ]
          refine wpAnyH_take (i:=3) (oi:=⟨some 68,_,_,_,_,none⟩) (v:=?v3h) rfl (by kernel_rfl) (by kernel_rfl) (by kernel_rfl) (fun _ _ _ h=>h) (Or.inl ⟨by rfl,?h3h⟩) (by assumption) ?r3h
          case h3h=>(intro w hSw;(try dsimp only at hSw);go_simp;try with_reducible rfl)
          try simp only [Act.put,List.setIfInBounds_toArray,List.set_cons_zero,List.set_cons_succ]
          refine wpAnyH_take (i:=4) (oi:=⟨some 69,_,_,_,_,none⟩) (v:=?v4h) rfl (by kernel_rfl) (by kernel_rfl) (by kernel_rfl) (fun _ _ _ h=>h) (Or.inl ⟨by rfl,?h4h⟩) (by assumption) ?r4h
          case h4h=>(intro w hSw;(try dsimp only at hSw);go_simp;try with_reducible rfl)
          try simp only [Act.put,List.setIfInBounds_toArray,List.set_cons_zero,List.set_cons_succ]
          refine wpAnyH_take (i:=5) (oi:=⟨some 70,_,_,_,_,none⟩) (v:=?v5h) rfl (by kernel_rfl) (by kernel_rfl) (by kernel_rfl) (fun _ _ _ h=>h) (Or.inl ⟨by rfl,?h5h⟩) (by assumption) ?r5h
          case h5h=>(intro w hSw;(try dsimp only at hSw);go_simp;try with_reducible rfl)
          try simp only [Act.put,List.setIfInBounds_toArray,List.set_cons_zero,List.set_cons_succ]
          refine wpAnyH_take (i:=6) (oi:=⟨some 71,_,_,_,_,some (5,true)⟩) (v:=?v6h) rfl (by kernel_rfl) (by kernel_rfl) (by kernel_rfl) (fun _ _ _ h=>h) (Or.inl ⟨by rfl,?h6h⟩) (by assumption) ?r6h
          case h6h=>(intro w hSw;(try dsimp only at hSw);go_simp;try with_reducible rfl)
          try simp only [Act.put,List.setIfInBounds_toArray,List.set_cons_zero,List.set_cons_succ]
          refine wpAnyH_take (i:=7) (oi:=⟨some 72,_,_,_,_,some (5,true)⟩) (v:=?v7h) rfl (by kernel_rfl) (by kernel_rfl) (by kernel_rfl) (fun _ _ _ h=>h) (Or.inl ⟨by rfl,?h7h⟩) (by assumption) ?r7h
          case h7h=>(intro w hSw;(try dsimp only at hSw);go_simp;try with_reducible rfl)
          try simp only [Act.put,List.setIfInBounds_toArray,List.set_cons_zero,List.set_cons_succ]
          refine wpAnyH_take (i:=8) (oi:=⟨some 73,_,_,_,_,some (5,true)⟩) (v:=?v8h) rfl (by kernel_rfl) (by kernel_rfl) (by kernel_rfl) (fun _ _ _ h=>h) (Or.inl ⟨by rfl,?h8h⟩) (by assumption) ?r8h
          case h8h=>(intro w hSw;(try dsimp only at hSw);go_simp;try with_reducible rfl)
          try simp only [Act.put,List.setIfInBounds_toArray,List.set_cons_zero,List.set_cons_succ]
          refine wpAnyH_take (i:=9) (oi:=⟨some 74,_,_,_,_,some (5,true)⟩) (v:=?v9h) rfl (by kernel_rfl) (by kernel_rfl) (by kernel_rfl) (fun _ _ _ h=>h) (Or.inl ⟨by rfl,?h9h⟩) (by assumption) ?r9h
          case h9h=>(intro w hSw;(try dsimp only at hSw);go_simp;try with_reducible rfl)
          try simp only [Act.put,List.setIfInBounds_toArray,List.set_cons_zero,List.set_cons_succ]
          refine wpAnyH_take (i:=10) (oi:=⟨some 75,_,_,_,_,some (5,true)⟩) (v:=?v10h) rfl (by kernel_rfl) (by kernel_rfl) (by kernel_rfl) (fun _ _ _ h=>h) (Or.inl ⟨by rfl,?h10h⟩) (by assumption) ?r10h
          case h10h=>(intro w hSw;(try dsimp only at hSw);go_simp;try with_reducible rfl)
          try simp only [Act.put,List.setIfInBounds_toArray,List.set_cons_zero,List.set_cons_succ]
          refine wpAnyH_take (i:=11) (oi:=⟨some 76,_,_,_,_,none⟩) (v:=?v11h) rfl (by kernel_rfl) (by kernel_rfl) (by kernel_rfl) (fun _ _ _ h=>h) (Or.inl ⟨by rfl,?h11h⟩) (by assumption) ?r11h
          case h11h=>(intro w hSw;(try dsimp only at hSw);go_simp;try with_reducible rfl)
          try simp only [Act.put,List.setIfInBounds_toArray,List.set_cons_zero,List.set_cons_succ]
          refine wpAnyH_take (i:=12) (oi:=⟨some 77,_,_,_,_,none⟩) (v:=?v12h) rfl (by kernel_rfl) (by kernel_rfl) (by kernel_rfl) (fun _ _ _ h=>h) (Or.inl ⟨by rfl,?h12h⟩) (by assumption) ?r12h
          case h12h=>(intro w hSw;(try dsimp only at hSw);go_simp;try with_reducible rfl)
          try simp only [Act.put,List.setIfInBounds_toArray,List.set_cons_zero,List.set_cons_succ]
          refine wpAnyH_take (i:=13) (oi:=⟨some 78,_,_,_,_,some (12,true)⟩) (v:=?v13h) rfl (by kernel_rfl) (by kernel_rfl) (by kernel_rfl) (fun _ _ _ h=>h) (Or.inl ⟨by rfl,?h13h⟩) (by assumption) ?r13h
          case h13h=>(intro w hSw;(try dsimp only at hSw);go_simp;try with_reducible rfl)
          try simp only [Act.put,List.setIfInBounds_toArray,List.set_cons_zero,List.set_cons_succ]
          refine wpAnyH_take (i:=14) (oi:=⟨some 79,_,_,_,_,some (12,true)⟩) (v:=?v14h) rfl (by kernel_rfl) (by kernel_rfl) (by kernel_rfl) (fun _ _ _ h=>h) (Or.inl ⟨by rfl,?h14h⟩) (by assumption) ?r14h
          case h14h=>(intro w hSw;(try dsimp only at hSw);go_simp;try with_reducible rfl)
          try simp only [Act.put,List.setIfInBounds_toArray,List.set_cons_zero,List.set_cons_succ]
          refine wpAnyH_take (i:=15) (oi:=⟨some 80,_,_,_,_,some (12,true)⟩) (v:=?v15h) rfl (by kernel_rfl) (by kernel_rfl) (by kernel_rfl) (fun _ _ _ h=>h) (Or.inl ⟨by rfl,?h15h⟩) (by assumption) ?r15h
          case h15h=>(intro w hSw;(try dsimp only at hSw);go_simp;try with_reducible rfl)
          try simp only [Act.put,List.setIfInBounds_toArray,List.set_cons_zero,List.set_cons_succ]
          refine wpAnyH_ready (rs:=[16]) (by kernel_rfl) (by simp) ?_;refine AllReadyH.cons (o:=⟨some 81,_,_,_,_,some (12,true)⟩) rfl (fun K hK=>?_) AllReadyH.nil;rw [if_pos (by kernel_rfl)]
          go_simp
          refine (HCL.out _ _ (HI1.out _ kd)).mono ?_;rintro e w5 ⟨rfl,rfl⟩;rw [hf];refine hK.out _ _ (hHeld) (fun hHeld=>?_);clear hK K
          try simp only [Act.put,List.setIfInBounds_toArray,List.set_cons_zero,List.set_cons_succ]
          refine wpAnyH_take (i:=17) (oi:=⟨some 82,_,_,_,_,none⟩) (v:=?v17h) rfl (by kernel_rfl) (by kernel_rfl) (by kernel_rfl) (fun _ _ _ h=>h) (Or.inl ⟨by rfl,?h17h⟩) (by assumption) ?r17h
          case h17h=>(intro w hSw;(try dsimp only at hSw);go_simp;try with_reducible rfl)
          try simp only [Act.put,List.setIfInBounds_toArray,List.set_cons_zero,List.set_cons_succ]
          refine wpAnyH_take (i:=18) (oi:=⟨some 83,_,_,_,_,none⟩) (v:=?v18h) rfl (by kernel_rfl) (by kernel_rfl) (by kernel_rfl) (fun _ _ _ h=>h) (Or.inl ⟨by rfl,?h18h⟩) (by assumption) ?r18h
          case h18h=>(intro w hSw;(try dsimp only at hSw);go_simp;try with_reducible rfl)
          try simp only [Act.put,List.setIfInBounds_toArray,List.set_cons_zero,List.set_cons_succ]
          refine wpAnyH_take (i:=19) (oi:=⟨some 84,_,_,_,_,some (18,true)⟩) (v:=?v19h) rfl (by kernel_rfl) (by kernel_rfl) (by kernel_rfl) (fun _ _ _ h=>h) (Or.inl ⟨by rfl,?h19h⟩) (by assumption) ?r19h
          case h19h=>(intro w hSw;(try dsimp only at hSw);go_simp;try with_reducible rfl)
          try simp only [Act.put,List.setIfInBounds_toArray,List.set_cons_zero,List.set_cons_succ]
          refine wpAnyH_take (i:=20) (oi:=⟨some 85,_,_,_,_,some (18,true)⟩) (v:=?v20h) rfl (by kernel_rfl) (by kernel_rfl) (by kernel_rfl) (fun _ _ _ h=>h) (Or.inl ⟨by rfl,?h20h⟩) (by assumption) ?r20h
          case h20h=>(intro w hSw;(try dsimp only at hSw);go_simp;try with_reducible rfl)
          try simp only [Act.put,List.setIfInBounds_toArray,List.set_cons_zero,List.set_cons_succ]
          refine wpAnyH_take (i:=21) (oi:=⟨some 86,_,_,_,_,some (18,true)⟩) (v:=?v21h) rfl (by kernel_rfl) (by kernel_rfl) (by kernel_rfl) (fun _ _ _ h=>h) (Or.inl ⟨by rfl,?h21h⟩) (by assumption) ?r21h
          case h21h=>(intro w hSw;(try dsimp only at hSw);go_simp;try with_reducible rfl)
          try simp only [Act.put,List.setIfInBounds_toArray,List.set_cons_zero,List.set_cons_succ]
          refine wpAnyH_take (i:=22) (oi:=⟨some 87,_,_,_,_,none⟩) (v:=?v22h) rfl (by kernel_rfl) (by kernel_rfl) (by kernel_rfl) (fun _ _ _ h=>h) (Or.inl ⟨by rfl,?h22h⟩) (by assumption) ?r22h
          case h22h=>(intro w hSw;(try dsimp only at hSw);go_simp;try with_reducible rfl)
          try simp only [Act.put,List.setIfInBounds_toArray,List.set_cons_zero,List.set_cons_succ]
          refine wpAnyH_take (i:=23) (oi:=⟨some 88,_,_,_,_,none⟩) (v:=?v23h) rfl (by kernel_rfl) (by kernel_rfl) (by kernel_rfl) (fun _ _ _ h=>h) (Or.inl ⟨by rfl,?h23h⟩) (by assumption) ?r23h
          case h23h=>(intro w hSw;(try dsimp only at hSw);go_simp;try with_reducible rfl)
          try simp only [Act.put,List.setIfInBounds_toArray,List.set_cons_zero,List.set_cons_succ]
          refine wpAnyH_take (i:=24) (oi:=⟨some 89,_,_,_,_,some (23,true)⟩) (v:=?v24h) rfl (by kernel_rfl) (by kernel_rfl) (by kernel_rfl) (fun _ _ _ h=>h) (Or.inl ⟨by rfl,?h24h⟩) (by assumption) ?r24h
          case h24h=>(intro w hSw;(try dsimp only at hSw);go_simp;try with_reducible rfl)
          try simp only [Act.put,List.setIfInBounds_toArray,List.set_cons_zero,List.set_cons_succ]
          refine wpAnyH_take (i:=25) (oi:=⟨some 90,_,_,_,_,some (23,true)⟩) (v:=?v25h) rfl (by kernel_rfl) (by kernel_rfl) (by kernel_rfl) (fun _ _ _ h=>h) (Or.inl ⟨by rfl,?h25h⟩) (by assumption) ?r25h
          case h25h=>(intro w hSw;(try dsimp only at hSw);go_simp;try with_reducible rfl)
          try simp only [Act.put,List.setIfInBounds_toArray,List.set_cons_zero,List.set_cons_succ]
          refine wpAnyH_take (i:=26) (oi:=⟨some 91,_,_,_,_,some (23,true)⟩) (v:=?v26h) rfl (by kernel_rfl) (by kernel_rfl) (by kernel_rfl) (fun _ _ _ h=>h) (Or.inl ⟨by rfl,?h26h⟩) (by assumption) ?r26h
          case h26h=>(intro w hSw;(try dsimp only at hSw);go_simp;try with_reducible rfl)
          try simp only [Act.put,List.setIfInBounds_toArray,List.set_cons_zero,List.set_cons_succ]
          refine wpAnyH_take (i:=27) (oi:=⟨some 92,_,_,_,_,some (23,true)⟩) (v:=?v27h) rfl (by kernel_rfl) (by kernel_rfl) (by kernel_rfl) (fun _ _ _ h=>h) (Or.inl ⟨by rfl,?h27h⟩) (by assumption) ?r27h
          case h27h=>(intro w hSw;(try dsimp only at hSw);go_simp;try with_reducible rfl)
          try simp only [Act.put,List.setIfInBounds_toArray,List.set_cons_zero,List.set_cons_succ]
          refine wpAnyH_take (i:=28) (oi:=⟨some 93,_,_,_,_,some (23,true)⟩) (v:=?v28h) rfl (by kernel_rfl) (by kernel_rfl) (by kernel_rfl) (fun _ _ _ h=>h) (Or.inl ⟨by rfl,?h28h⟩) (by assumption) ?r28h
          case h28h=>(intro w hSw;(try dsimp only at hSw);go_simp;try with_reducible rfl)
          try simp only [Act.put,List.setIfInBounds_toArray,List.set_cons_zero,List.set_cons_succ]
          refine wpAnyH_take (i:=29) (oi:=⟨some 94,_,_,_,_,some (23,true)⟩) (v:=?v29h) rfl (by kernel_rfl) (by kernel_rfl) (by kernel_rfl) (fun _ _ _ h=>h) (Or.inl ⟨by rfl,?h29h⟩) (by assumption) ?r29h
          case h29h=>(intro w hSw;(try dsimp only at hSw);go_simp;try with_reducible rfl)
          try simp only [Act.put,List.setIfInBounds_toArray,List.set_cons_zero,List.set_cons_succ]
          refine wpAnyH_take (i:=30) (oi:=⟨some 95,_,_,_,_,some (23,true)⟩) (v:=?v30h) rfl (by kernel_rfl) (by kernel_rfl) (by kernel_rfl) (fun _ _ _ h=>h) (Or.inl ⟨by rfl,?h30h⟩) (by assumption) ?r30h
          case h30h=>(intro w hSw;(try dsimp only at hSw);go_simp;try with_reducible rfl)
          try simp only [Act.put,List.setIfInBounds_toArray,List.set_cons_zero,List.set_cons_succ]
          refine wpAnyH_take (i:=31) (oi:=⟨some 96,_,_,_,_,some (23,true)⟩) (v:=?v31h) rfl (by kernel_rfl) (by kernel_rfl) (by kernel_rfl) (fun _ _ _ h=>h) (Or.inl ⟨by rfl,?h31h⟩) (by assumption) ?r31h
          case h31h=>(intro w hSw;(try dsimp only at hSw);go_simp;try with_reducible rfl)
          try simp only [Act.put,List.setIfInBounds_toArray,List.set_cons_zero,List.set_cons_succ]
          refine wpAnyH_take (i:=32) (oi:=⟨some 97,_,_,_,_,some (23,true)⟩) (v:=?v32h) rfl (by kernel_rfl) (by kernel_rfl) (by kernel_rfl) (fun _ _ _ h=>h) (Or.inl ⟨by rfl,?h32h⟩) (by assumption) ?r32h
          case h32h=>(intro w hSw;(try dsimp only at hSw);go_simp;try with_reducible rfl)
          try simp only [Act.put,List.setIfInBounds_toArray,List.set_cons_zero,List.set_cons_succ]
          refine wpAnyH_take (i:=33) (oi:=⟨some 98,_,_,_,_,some (23,true)⟩) (v:=?v33h) rfl (by kernel_rfl) (by kernel_rfl) (by kernel_rfl) (fun _ _ _ h=>h) (Or.inl ⟨by rfl,?h33h⟩) (by assumption) ?r33h
          case h33h=>(intro w hSw;(try dsimp only at hSw);go_simp;try with_reducible rfl)
          try simp only [Act.put,List.setIfInBounds_toArray,List.set_cons_zero,List.set_cons_succ]
          refine wpAnyH_take (i:=34) (oi:=⟨some 99,_,_,_,_,none⟩) (v:=?v34h) rfl (by kernel_rfl) (by kernel_rfl) (by kernel_rfl) (fun _ _ _ h=>h) (Or.inl ⟨by rfl,?h34h⟩) (by assumption) ?r34h
          case h34h=>(intro w hSw;(try dsimp only at hSw);go_simp;try with_reducible rfl)
          try simp only [Act.put,List.setIfInBounds_toArray,List.set_cons_zero,List.set_cons_succ]
          refine wpAnyH_take (i:=35) (oi:=⟨some 100,_,_,_,_,none⟩) (v:=?v35h) rfl (by kernel_rfl) (by kernel_rfl) (by kernel_rfl) (fun _ _ _ h=>h) (Or.inl ⟨by rfl,?h35h⟩) (by assumption) ?r35h
          case h35h=>(intro w hSw;(try dsimp only at hSw);go_simp;try with_reducible rfl)
          try simp only [Act.put,List.setIfInBounds_toArray,List.set_cons_zero,List.set_cons_succ]
          refine wpAnyH_take (i:=36) (oi:=⟨some 101,_,_,_,_,some (35,true)⟩) (v:=undef) rfl (by kernel_rfl) (by kernel_rfl) (by kernel_rfl) (fun _ _ _ h=>h) (Or.inr ⟨by rfl,rfl⟩) (by assumption) ?_
          try simp only [Act.put,List.setIfInBounds_toArray,List.set_cons_zero,List.set_cons_succ]
          refine wpAnyH_take (i:=37) (oi:=⟨some 102,_,_,_,_,some (35,true)⟩) (v:=undef) rfl (by kernel_rfl) (by kernel_rfl) (by kernel_rfl) (fun _ _ _ h=>h) (Or.inr ⟨by rfl,rfl⟩) (by assumption) ?_
          try simp only [Act.put,List.setIfInBounds_toArray,List.set_cons_zero,List.set_cons_succ]
          refine wpAnyH_take (i:=38) (oi:=⟨some 103,_,_,_,_,some (35,true)⟩) (v:=undef) rfl (by kernel_rfl) (by kernel_rfl) (by kernel_rfl) (fun _ _ _ h=>h) (Or.inr ⟨by rfl,rfl⟩) (by assumption) ?_
          try simp only [Act.put,List.setIfInBounds_toArray,List.set_cons_zero,List.set_cons_succ]
          refine wpAnyH_take (i:=39) (oi:=⟨some 104,_,_,_,_,some (35,true)⟩) (v:=undef) rfl (by kernel_rfl) (by kernel_rfl) (by kernel_rfl) (fun _ _ _ h=>h) (Or.inr ⟨by rfl,rfl⟩) (by assumption) ?_
          try simp only [Act.put,List.setIfInBounds_toArray,List.set_cons_zero,List.set_cons_succ]
          refine wpAnyH_take (i:=40) (oi:=⟨some 105,_,_,_,_,some (35,true)⟩) (v:=undef) rfl (by kernel_rfl) (by kernel_rfl) (by kernel_rfl) (fun _ _ _ h=>h) (Or.inr ⟨by rfl,rfl⟩) (by assumption) ?_
          try simp only [Act.put,List.setIfInBounds_toArray,List.set_cons_zero,List.set_cons_succ]
          refine wpAnyH_take (i:=41) (oi:=⟨some 106,_,_,_,_,some (35,true)⟩) (v:=undef) rfl (by kernel_rfl) (by kernel_rfl) (by kernel_rfl) (fun _ _ _ h=>h) (Or.inr ⟨by rfl,rfl⟩) (by assumption) ?_
          try simp only [Act.put,List.setIfInBounds_toArray,List.set_cons_zero,List.set_cons_succ]
          refine wpAnyH_take (i:=42) (oi:=⟨some 107,_,_,_,_,some (35,true)⟩) (v:=undef) rfl (by kernel_rfl) (by kernel_rfl) (by kernel_rfl) (fun _ _ _ h=>h) (Or.inr ⟨by rfl,rfl⟩) (by assumption) ?_
          try simp only [Act.put,List.setIfInBounds_toArray,List.set_cons_zero,List.set_cons_succ]
          refine wpAnyH_take (i:=43) (oi:=⟨some 108,_,_,_,_,some (35,true)⟩) (v:=undef) rfl (by kernel_rfl) (by kernel_rfl) (by kernel_rfl) (fun _ _ _ h=>h) (Or.inr ⟨by rfl,rfl⟩) (by assumption) ?_
          try simp only [Act.put,List.setIfInBounds_toArray,List.set_cons_zero,List.set_cons_succ]
          refine wpAnyH_take (i:=44) (oi:=⟨some 109,_,_,_,_,some (35,true)⟩) (v:=undef) rfl (by kernel_rfl) (by kernel_rfl) (by kernel_rfl) (fun _ _ _ h=>h) (Or.inr ⟨by rfl,rfl⟩) (by assumption) ?_
          try simp only [Act.put,List.setIfInBounds_toArray,List.set_cons_zero,List.set_cons_succ]
          refine wpAnyH_take (i:=45) (oi:=⟨some 110,_,_,_,_,some (35,true)⟩) (v:=undef) rfl (by kernel_rfl) (by kernel_rfl) (by kernel_rfl) (fun _ _ _ h=>h) (Or.inr ⟨by rfl,rfl⟩) (by assumption) ?_
          try simp only [Act.put,List.setIfInBounds_toArray,List.set_cons_zero,List.set_cons_succ]
          refine wpAnyH_take (i:=46) (oi:=⟨some 111,_,_,_,_,some (35,true)⟩) (v:=undef) rfl (by kernel_rfl) (by kernel_rfl) (by kernel_rfl) (fun _ _ _ h=>h) (Or.inr ⟨by rfl,rfl⟩) (by assumption) ?_
          try simp only [Act.put,List.setIfInBounds_toArray,List.set_cons_zero,List.set_cons_succ]
          refine wpAnyH_ready (rs:=[47]) (by kernel_rfl) (by simp) ?_;refine AllReadyH.cons (o:=⟨some 112,_,_,_,_,some (35,true)⟩) rfl (fun K hK=>?_) AllReadyH.nil;rw [if_neg (Bool.eq_false_iff.1 (by kernel_rfl))];refine hK.out _ _ (by assumption) (fun hHeld=>?_);clear hK K
          try simp only [Act.put,List.setIfInBounds_toArray,List.set_cons_zero,List.set_cons_succ]
          refine wpAnyH_ready (rs:=[48]) (by kernel_rfl) (by simp) ?_;refine AllReadyH.cons (o:=⟨some 113,_,_,_,_,some (35,true)⟩) rfl (fun K hK=>?_) AllReadyH.nil;rw [if_neg (Bool.eq_false_iff.1 (by kernel_rfl))];refine hK.out _ _ (by assumption) (fun hHeld=>?_);clear hK K
          try simp only [Act.put,List.setIfInBounds_toArray,List.set_cons_zero,List.set_cons_succ]
          refine wpAnyH_take (i:=49) (oi:=⟨some 114,_,_,_,_,none⟩) (v:=?v49h) rfl (by kernel_rfl) (by kernel_rfl) (by kernel_rfl) (fun _ _ _ h=>h) (Or.inl ⟨by rfl,?h49h⟩) (by assumption) ?r49h
          case h49h=>(intro w hSw;(try dsimp only at hSw);go_simp;try with_reducible rfl)
          try simp only [Act.put,List.setIfInBounds_toArray,List.set_cons_zero,List.set_cons_succ]
          refine wpAnyH_take (i:=50) (oi:=⟨some 4,_,_,_,_,none⟩) (v:=?v50h) rfl (by kernel_rfl) (by kernel_rfl) (by kernel_rfl) (fun _ _ _ h=>h) (Or.inl ⟨by rfl,?h50h⟩) (by assumption) ?r50h
          case h50h=>(intro w hSw;(try dsimp only at hSw);go_simp;try with_reducible rfl)
          try simp only [Act.put,List.setIfInBounds_toArray,List.set_cons_zero,List.set_cons_succ]
          refine wpAnyH_done (by kernel_rfl) ?_ _;refine NoPanic.normal ?_;go_wp2_with fail;go_ret;exact ⟨ret_bool HR2.out.symm,HK.out.trans kd⟩
        ·have HR2:Hid (R=false):=hid (by rw [HR.out,decide_eq_false hs];rfl)
         have z0:(xs==0)=false:=by simpa using hs
         have HSS:=hid (fun W (kW:Keeps w2 W)=>(⟨kW.cell e0,kW.cell b1,kW.cell b2⟩:W.cell? ⟨r,0,none⟩=some (.string (syS L))∧W.cell? ⟨wI.heap.size,1,none⟩=some (.int .i64 xf)∧W.cell? ⟨wI.heap.size,2,none⟩=some (.int .i64 xs)));clear HR HS HIR HGE b1 b2 b3 e0 e2 e3 i1 hs;go_wp2_with fail;refine wp_region_noPanic ?_;refine wp_region_held_drew (S:=(fun w'=>w'.cell? ⟨r,0,none⟩=some (.string (syS L))∧w'.cell? ⟨wI.heap.size,1,none⟩=some (.int .i64 xf)∧w'.cell? ⟨wI.heap.size,2,none⟩=some (.int .i64 xs))) (by kernel_rfl) (HSS.out _ kd) (fun hHeld=>?_);refine wpAnyH_take (i:=0) (oi:=⟨some 65,_,_,_,_,none⟩) (v:=?v0g) rfl (by kernel_rfl) (by kernel_rfl) (by kernel_rfl) (fun _ _ _ h=>h) (Or.inl ⟨by rfl,?h0g⟩) (by assumption) ?r0g
         case h0g=>(intro w hSw;(try dsimp only at hSw);go_simp;try with_reducible rfl)
         try simp only [Act.put,List.setIfInBounds_toArray,List.set_cons_zero,List.set_cons_succ]
         refine wpAnyH_take (i:=1) (oi:=⟨some 66,_,_,_,_,none⟩) (v:=?v1g) rfl (by kernel_rfl) (by kernel_rfl) (by kernel_rfl) (fun _ _ _ h=>h) (Or.inl ⟨by rfl,?h1g⟩) (by assumption) ?r1g
         case h1g=>(intro w hSw;(try dsimp only at hSw);go_simp;try with_reducible rfl)
         try simp only [Act.put,List.setIfInBounds_toArray,List.set_cons_zero,List.set_cons_succ]
         refine wpAnyH_take (i:=2) (oi:=⟨some 67,_,_,_,_,none⟩) (v:=?v2g) rfl (by kernel_rfl) (by kernel_rfl) (by kernel_rfl) (fun _ _ _ h=>h) (Or.inl ⟨by rfl,?h2g⟩) (by assumption) ?r2g
         case h2g=>(intro w hSw;(try dsimp only at hSw);go_simp;try with_reducible rfl)
         try simp only [Act.put,List.setIfInBounds_toArray,List.set_cons_zero,List.set_cons_succ]
         refine wpAnyH_take (i:=3) (oi:=⟨some 68,_,_,_,_,none⟩) (v:=?v3g) rfl (by kernel_rfl) (by kernel_rfl) (by kernel_rfl) (fun _ _ _ h=>h) (Or.inl ⟨by rfl,?h3g⟩) (by assumption) ?r3g
         case h3g=>(intro w hSw;(try dsimp only at hSw);go_simp;try with_reducible rfl)
         try simp only [Act.put,List.setIfInBounds_toArray,List.set_cons_zero,List.set_cons_succ]
         refine wpAnyH_take (i:=4) (oi:=⟨some 69,_,_,_,_,none⟩) (v:=?v4g) rfl (by kernel_rfl) (by kernel_rfl) (by kernel_rfl) (fun _ _ _ h=>h) (Or.inl ⟨by rfl,?h4g⟩) (by assumption) ?r4g
         case h4g=>(intro w hSw;(try dsimp only at hSw);go_simp;try with_reducible rfl)
         try simp only [Act.put,List.setIfInBounds_toArray,List.set_cons_zero,List.set_cons_succ]
         refine wpAnyH_take (i:=5) (oi:=⟨some 70,_,_,_,_,none⟩) (v:=?v5g) rfl (by kernel_rfl) (by kernel_rfl) (by kernel_rfl) (fun _ _ _ h=>h) (Or.inl ⟨by rfl,?h5g⟩) (by assumption) ?r5g
         case h5g=>(intro w hSw;(try dsimp only at hSw);go_simp;try with_reducible rfl)
         try simp only [Act.put,List.setIfInBounds_toArray,List.set_cons_zero,List.set_cons_succ]
         refine wpAnyH_take (i:=6) (oi:=⟨some 71,_,_,_,_,some (5,true)⟩) (v:=?v6g) rfl (by kernel_rfl) (by kernel_rfl) (by kernel_rfl) (fun _ _ _ h=>h) (Or.inl ⟨by rfl,?h6g⟩) (by assumption) ?r6g
         case h6g=>(intro w hSw;(try dsimp only at hSw);go_simp;try with_reducible rfl)
         try simp only [Act.put,List.setIfInBounds_toArray,List.set_cons_zero,List.set_cons_succ]
         refine wpAnyH_take (i:=7) (oi:=⟨some 72,_,_,_,_,some (5,true)⟩) (v:=?v7g) rfl (by kernel_rfl) (by kernel_rfl) (by kernel_rfl) (fun _ _ _ h=>h) (Or.inl ⟨by rfl,?h7g⟩) (by assumption) ?r7g
         case h7g=>(intro w hSw;(try dsimp only at hSw);go_simp;try with_reducible rfl)
         try simp only [Act.put,List.setIfInBounds_toArray,List.set_cons_zero,List.set_cons_succ]
         refine wpAnyH_take (i:=8) (oi:=⟨some 73,_,_,_,_,some (5,true)⟩) (v:=?v8g) rfl (by kernel_rfl) (by kernel_rfl) (by kernel_rfl) (fun _ _ _ h=>h) (Or.inl ⟨by rfl,?h8g⟩) (by assumption) ?r8g
         case h8g=>(intro w hSw;(try dsimp only at hSw);go_simp;try with_reducible rfl)
         try simp only [Act.put,List.setIfInBounds_toArray,List.set_cons_zero,List.set_cons_succ]
         refine wpAnyH_take (i:=9) (oi:=⟨some 74,_,_,_,_,some (5,true)⟩) (v:=?v9g) rfl (by kernel_rfl) (by kernel_rfl) (by kernel_rfl) (fun _ _ _ h=>h) (Or.inl ⟨by rfl,?h9g⟩) (by assumption) ?r9g
         case h9g=>(intro w hSw;(try dsimp only at hSw);go_simp;try with_reducible rfl)
         try simp only [Act.put,List.setIfInBounds_toArray,List.set_cons_zero,List.set_cons_succ]
         refine wpAnyH_take (i:=10) (oi:=⟨some 75,_,_,_,_,some (5,true)⟩) (v:=?v10g) rfl (by kernel_rfl) (by kernel_rfl) (by kernel_rfl) (fun _ _ _ h=>h) (Or.inl ⟨by rfl,?h10g⟩) (by assumption) ?r10g
         case h10g=>(intro w hSw;(try dsimp only at hSw);go_simp;try with_reducible rfl)
         try simp only [Act.put,List.setIfInBounds_toArray,List.set_cons_zero,List.set_cons_succ]
         refine wpAnyH_take (i:=11) (oi:=⟨some 76,_,_,_,_,none⟩) (v:=?v11g) rfl (by kernel_rfl) (by kernel_rfl) (by kernel_rfl) (fun _ _ _ h=>h) (Or.inl ⟨by rfl,?h11g⟩) (by assumption) ?r11g
         case h11g=>(intro w hSw;(try dsimp only at hSw);go_simp;try with_reducible rfl)
         try simp only [Act.put,List.setIfInBounds_toArray,List.set_cons_zero,List.set_cons_succ]
         refine wpAnyH_take (i:=12) (oi:=⟨some 77,_,_,_,_,none⟩) (v:=?v12g) rfl (by kernel_rfl) (by kernel_rfl) (by kernel_rfl) (fun _ _ _ h=>h) (Or.inl ⟨by rfl,?h12g⟩) (by assumption) ?r12g
         case h12g=>(intro w hSw;(try dsimp only at hSw);go_simp;try with_reducible rfl)
         try simp only [Act.put,List.setIfInBounds_toArray,List.set_cons_zero,List.set_cons_succ]
         refine wpAnyH_take (i:=13) (oi:=⟨some 78,_,_,_,_,some (12,true)⟩) (v:=?v13g) rfl (by kernel_rfl) (by kernel_rfl) (by kernel_rfl) (fun _ _ _ h=>h) (Or.inl ⟨by rfl,?h13g⟩) (by assumption) ?r13g
         case h13g=>(intro w hSw;(try dsimp only at hSw);go_simp;try with_reducible rfl)
         try simp only [Act.put,List.setIfInBounds_toArray,List.set_cons_zero,List.set_cons_succ]
         refine wpAnyH_take (i:=14) (oi:=⟨some 79,_,_,_,_,some (12,true)⟩) (v:=?v14g) rfl (by kernel_rfl) (by kernel_rfl) (by kernel_rfl) (fun _ _ _ h=>h) (Or.inl ⟨by rfl,?h14g⟩) (by assumption) ?r14g
         case h14g=>(intro w hSw;(try dsimp only at hSw);go_simp;try with_reducible rfl)
         try simp only [Act.put,List.setIfInBounds_toArray,List.set_cons_zero,List.set_cons_succ]
         refine wpAnyH_take (i:=15) (oi:=⟨some 80,_,_,_,_,some (12,true)⟩) (v:=?v15g) rfl (by kernel_rfl) (by kernel_rfl) (by kernel_rfl) (fun _ _ _ h=>h) (Or.inl ⟨by rfl,?h15g⟩) (by assumption) ?r15g
         case h15g=>(intro w hSw;(try dsimp only at hSw);go_simp;try with_reducible rfl)
         try simp only [Act.put,List.setIfInBounds_toArray,List.set_cons_zero,List.set_cons_succ]
         refine wpAnyH_ready (rs:=[16]) (by kernel_rfl) (by simp) ?_;refine AllReadyH.cons (o:=⟨some 81,_,_,_,_,some (12,true)⟩) rfl (fun K hK=>?_) AllReadyH.nil;rw [if_pos (by kernel_rfl)]
         go_simp
         refine (HCL.out _ _ (HI1.out _ kd)).mono ?_;rintro e w5 ⟨rfl,rfl⟩;rw [hf];refine hK.out _ _ (hHeld) (fun hHeld=>?_);clear hK K
         try simp only [Act.put,List.setIfInBounds_toArray,List.set_cons_zero,List.set_cons_succ]
         refine wpAnyH_take (i:=17) (oi:=⟨some 82,_,_,_,_,none⟩) (v:=?v17g) rfl (by kernel_rfl) (by kernel_rfl) (by kernel_rfl) (fun _ _ _ h=>h) (Or.inl ⟨by rfl,?h17g⟩) (by assumption) ?r17g
         case h17g=>(intro w hSw;(try dsimp only at hSw);go_simp;try with_reducible rfl)
         try simp only [Act.put,List.setIfInBounds_toArray,List.set_cons_zero,List.set_cons_succ]
         refine wpAnyH_take (i:=18) (oi:=⟨some 83,_,_,_,_,none⟩) (v:=?v18g) rfl (by kernel_rfl) (by kernel_rfl) (by kernel_rfl) (fun _ _ _ h=>h) (Or.inl ⟨by rfl,?h18g⟩) (by assumption) ?r18g
         case h18g=>(intro w hSw;(try dsimp only at hSw);go_simp;try with_reducible rfl)
         try simp only [Act.put,List.setIfInBounds_toArray,List.set_cons_zero,List.set_cons_succ]
         refine wpAnyH_take (i:=19) (oi:=⟨some 84,_,_,_,_,some (18,true)⟩) (v:=?v19g) rfl (by kernel_rfl) (by kernel_rfl) (by kernel_rfl) (fun _ _ _ h=>h) (Or.inl ⟨by rfl,?h19g⟩) (by assumption) ?r19g
         case h19g=>(intro w hSw;(try dsimp only at hSw);go_simp;try with_reducible rfl)
         try simp only [Act.put,List.setIfInBounds_toArray,List.set_cons_zero,List.set_cons_succ]
         refine wpAnyH_take (i:=20) (oi:=⟨some 85,_,_,_,_,some (18,true)⟩) (v:=?v20g) rfl (by kernel_rfl) (by kernel_rfl) (by kernel_rfl) (fun _ _ _ h=>h) (Or.inl ⟨by rfl,?h20g⟩) (by assumption) ?r20g
         case h20g=>(intro w hSw;(try dsimp only at hSw);go_simp;try with_reducible rfl)
         try simp only [Act.put,List.setIfInBounds_toArray,List.set_cons_zero,List.set_cons_succ]
         refine wpAnyH_take (i:=21) (oi:=⟨some 86,_,_,_,_,some (18,true)⟩) (v:=?v21g) rfl (by kernel_rfl) (by kernel_rfl) (by kernel_rfl) (fun _ _ _ h=>h) (Or.inl ⟨by rfl,?h21g⟩) (by assumption) ?r21g
         case h21g=>(intro w hSw;(try dsimp only at hSw);go_simp;try with_reducible rfl)
         try simp only [Act.put,List.setIfInBounds_toArray,List.set_cons_zero,List.set_cons_succ]
         refine wpAnyH_take (i:=22) (oi:=⟨some 87,_,_,_,_,none⟩) (v:=?v22g) rfl (by kernel_rfl) (by kernel_rfl) (by kernel_rfl) (fun _ _ _ h=>h) (Or.inl ⟨by rfl,?h22g⟩) (by assumption) ?r22g
         case h22g=>(intro w hSw;(try dsimp only at hSw);go_simp;try with_reducible rfl)
         try simp only [Act.put,List.setIfInBounds_toArray,List.set_cons_zero,List.set_cons_succ]
         refine wpAnyH_take (i:=23) (oi:=⟨some 88,_,_,_,_,none⟩) (v:=?v23g) rfl (by kernel_rfl) (by kernel_rfl) (by kernel_rfl) (fun _ _ _ h=>h) (Or.inl ⟨by rfl,?h23g⟩) (by assumption) ?r23g
         case h23g=>(intro w hSw;(try dsimp only at hSw);go_simp;try with_reducible rfl)
         try simp only [Act.put,List.setIfInBounds_toArray,List.set_cons_zero,List.set_cons_succ]
         refine wpAnyH_take (i:=24) (oi:=⟨some 89,_,_,_,_,some (23,true)⟩) (v:=undef) rfl (by kernel_rfl) (by kernel_rfl) (by kernel_rfl) (fun _ _ _ h=>h) (Or.inr ⟨by rfl,rfl⟩) (by assumption) ?_
         try simp only [Act.put,List.setIfInBounds_toArray,List.set_cons_zero,List.set_cons_succ]
         refine wpAnyH_take (i:=25) (oi:=⟨some 90,_,_,_,_,some (23,true)⟩) (v:=undef) rfl (by kernel_rfl) (by kernel_rfl) (by kernel_rfl) (fun _ _ _ h=>h) (Or.inr ⟨by rfl,rfl⟩) (by assumption) ?_
         try simp only [Act.put,List.setIfInBounds_toArray,List.set_cons_zero,List.set_cons_succ]
         refine wpAnyH_take (i:=26) (oi:=⟨some 91,_,_,_,_,some (23,true)⟩) (v:=undef) rfl (by kernel_rfl) (by kernel_rfl) (by kernel_rfl) (fun _ _ _ h=>h) (Or.inr ⟨by rfl,rfl⟩) (by assumption) ?_
         try simp only [Act.put,List.setIfInBounds_toArray,List.set_cons_zero,List.set_cons_succ]
         refine wpAnyH_take (i:=27) (oi:=⟨some 92,_,_,_,_,some (23,true)⟩) (v:=undef) rfl (by kernel_rfl) (by kernel_rfl) (by kernel_rfl) (fun _ _ _ h=>h) (Or.inr ⟨by rfl,rfl⟩) (by assumption) ?_
         try simp only [Act.put,List.setIfInBounds_toArray,List.set_cons_zero,List.set_cons_succ]
         refine wpAnyH_take (i:=28) (oi:=⟨some 93,_,_,_,_,some (23,true)⟩) (v:=undef) rfl (by kernel_rfl) (by kernel_rfl) (by kernel_rfl) (fun _ _ _ h=>h) (Or.inr ⟨by rfl,rfl⟩) (by assumption) ?_
         try simp only [Act.put,List.setIfInBounds_toArray,List.set_cons_zero,List.set_cons_succ]
         refine wpAnyH_take (i:=29) (oi:=⟨some 94,_,_,_,_,some (23,true)⟩) (v:=undef) rfl (by kernel_rfl) (by kernel_rfl) (by kernel_rfl) (fun _ _ _ h=>h) (Or.inr ⟨by rfl,rfl⟩) (by assumption) ?_
         try simp only [Act.put,List.setIfInBounds_toArray,List.set_cons_zero,List.set_cons_succ]
         refine wpAnyH_take (i:=30) (oi:=⟨some 95,_,_,_,_,some (23,true)⟩) (v:=undef) rfl (by kernel_rfl) (by kernel_rfl) (by kernel_rfl) (fun _ _ _ h=>h) (Or.inr ⟨by rfl,rfl⟩) (by assumption) ?_
         try simp only [Act.put,List.setIfInBounds_toArray,List.set_cons_zero,List.set_cons_succ]
         refine wpAnyH_take (i:=31) (oi:=⟨some 96,_,_,_,_,some (23,true)⟩) (v:=undef) rfl (by kernel_rfl) (by kernel_rfl) (by kernel_rfl) (fun _ _ _ h=>h) (Or.inr ⟨by rfl,rfl⟩) (by assumption) ?_
         try simp only [Act.put,List.setIfInBounds_toArray,List.set_cons_zero,List.set_cons_succ]
         refine wpAnyH_take (i:=32) (oi:=⟨some 97,_,_,_,_,some (23,true)⟩) (v:=undef) rfl (by kernel_rfl) (by kernel_rfl) (by kernel_rfl) (fun _ _ _ h=>h) (Or.inr ⟨by rfl,rfl⟩) (by assumption) ?_
         try simp only [Act.put,List.setIfInBounds_toArray,List.set_cons_zero,List.set_cons_succ]
         refine wpAnyH_take (i:=33) (oi:=⟨some 98,_,_,_,_,some (23,true)⟩) (v:=undef) rfl (by kernel_rfl) (by kernel_rfl) (by kernel_rfl) (fun _ _ _ h=>h) (Or.inr ⟨by rfl,rfl⟩) (by assumption) ?_
         try simp only [Act.put,List.setIfInBounds_toArray,List.set_cons_zero,List.set_cons_succ]
         refine wpAnyH_take (i:=34) (oi:=⟨some 99,_,_,_,_,none⟩) (v:=?v34g) rfl (by kernel_rfl) (by kernel_rfl) (by kernel_rfl) (fun _ _ _ h=>h) (Or.inl ⟨by rfl,?h34g⟩) (by assumption) ?r34g
         case h34g=>(intro w hSw;(try dsimp only at hSw);go_simp;try with_reducible rfl)
         try simp only [Act.put,List.setIfInBounds_toArray,List.set_cons_zero,List.set_cons_succ]
         refine wpAnyH_take (i:=35) (oi:=⟨some 100,_,_,_,_,none⟩) (v:=?v35g) rfl (by kernel_rfl) (by kernel_rfl) (by kernel_rfl) (fun _ _ _ h=>h) (Or.inl ⟨by rfl,?h35g⟩) (by assumption) ?r35g
         case h35g=>(intro w hSw;(try dsimp only at hSw);go_simp;try with_reducible rfl)
         try simp only [Act.put,List.setIfInBounds_toArray,List.set_cons_zero,List.set_cons_succ]
         refine wpAnyH_take (i:=36) (oi:=⟨some 101,_,_,_,_,some (35,true)⟩) (v:=undef) rfl (by kernel_rfl) (by kernel_rfl) (by kernel_rfl) (fun _ _ _ h=>h) (Or.inr ⟨by rfl,rfl⟩) (by assumption) ?_
         try simp only [Act.put,List.setIfInBounds_toArray,List.set_cons_zero,List.set_cons_succ]
         refine wpAnyH_take (i:=37) (oi:=⟨some 102,_,_,_,_,some (35,true)⟩) (v:=undef) rfl (by kernel_rfl) (by kernel_rfl) (by kernel_rfl) (fun _ _ _ h=>h) (Or.inr ⟨by rfl,rfl⟩) (by assumption) ?_
         try simp only [Act.put,List.setIfInBounds_toArray,List.set_cons_zero,List.set_cons_succ]
         refine wpAnyH_take (i:=38) (oi:=⟨some 103,_,_,_,_,some (35,true)⟩) (v:=undef) rfl (by kernel_rfl) (by kernel_rfl) (by kernel_rfl) (fun _ _ _ h=>h) (Or.inr ⟨by rfl,rfl⟩) (by assumption) ?_
         try simp only [Act.put,List.setIfInBounds_toArray,List.set_cons_zero,List.set_cons_succ]
         refine wpAnyH_take (i:=39) (oi:=⟨some 104,_,_,_,_,some (35,true)⟩) (v:=undef) rfl (by kernel_rfl) (by kernel_rfl) (by kernel_rfl) (fun _ _ _ h=>h) (Or.inr ⟨by rfl,rfl⟩) (by assumption) ?_
         try simp only [Act.put,List.setIfInBounds_toArray,List.set_cons_zero,List.set_cons_succ]
         refine wpAnyH_take (i:=40) (oi:=⟨some 105,_,_,_,_,some (35,true)⟩) (v:=undef) rfl (by kernel_rfl) (by kernel_rfl) (by kernel_rfl) (fun _ _ _ h=>h) (Or.inr ⟨by rfl,rfl⟩) (by assumption) ?_
         try simp only [Act.put,List.setIfInBounds_toArray,List.set_cons_zero,List.set_cons_succ]
         refine wpAnyH_take (i:=41) (oi:=⟨some 106,_,_,_,_,some (35,true)⟩) (v:=undef) rfl (by kernel_rfl) (by kernel_rfl) (by kernel_rfl) (fun _ _ _ h=>h) (Or.inr ⟨by rfl,rfl⟩) (by assumption) ?_
         try simp only [Act.put,List.setIfInBounds_toArray,List.set_cons_zero,List.set_cons_succ]
         refine wpAnyH_take (i:=42) (oi:=⟨some 107,_,_,_,_,some (35,true)⟩) (v:=undef) rfl (by kernel_rfl) (by kernel_rfl) (by kernel_rfl) (fun _ _ _ h=>h) (Or.inr ⟨by rfl,rfl⟩) (by assumption) ?_
         try simp only [Act.put,List.setIfInBounds_toArray,List.set_cons_zero,List.set_cons_succ]
         refine wpAnyH_take (i:=43) (oi:=⟨some 108,_,_,_,_,some (35,true)⟩) (v:=undef) rfl (by kernel_rfl) (by kernel_rfl) (by kernel_rfl) (fun _ _ _ h=>h) (Or.inr ⟨by rfl,rfl⟩) (by assumption) ?_
         try simp only [Act.put,List.setIfInBounds_toArray,List.set_cons_zero,List.set_cons_succ]
         refine wpAnyH_take (i:=44) (oi:=⟨some 109,_,_,_,_,some (35,true)⟩) (v:=undef) rfl (by kernel_rfl) (by kernel_rfl) (by kernel_rfl) (fun _ _ _ h=>h) (Or.inr ⟨by rfl,rfl⟩) (by assumption) ?_
         try simp only [Act.put,List.setIfInBounds_toArray,List.set_cons_zero,List.set_cons_succ]
         refine wpAnyH_take (i:=45) (oi:=⟨some 110,_,_,_,_,some (35,true)⟩) (v:=undef) rfl (by kernel_rfl) (by kernel_rfl) (by kernel_rfl) (fun _ _ _ h=>h) (Or.inr ⟨by rfl,rfl⟩) (by assumption) ?_
         try simp only [Act.put,List.setIfInBounds_toArray,List.set_cons_zero,List.set_cons_succ]
         refine wpAnyH_take (i:=46) (oi:=⟨some 111,_,_,_,_,some (35,true)⟩) (v:=undef) rfl (by kernel_rfl) (by kernel_rfl) (by kernel_rfl) (fun _ _ _ h=>h) (Or.inr ⟨by rfl,rfl⟩) (by assumption) ?_
         try simp only [Act.put,List.setIfInBounds_toArray,List.set_cons_zero,List.set_cons_succ]
         refine wpAnyH_ready (rs:=[47]) (by kernel_rfl) (by simp) ?_;refine AllReadyH.cons (o:=⟨some 112,_,_,_,_,some (35,true)⟩) rfl (fun K hK=>?_) AllReadyH.nil;rw [if_neg (Bool.eq_false_iff.1 (by kernel_rfl))];refine hK.out _ _ (by assumption) (fun hHeld=>?_);clear hK K
         try simp only [Act.put,List.setIfInBounds_toArray,List.set_cons_zero,List.set_cons_succ]
         refine wpAnyH_ready (rs:=[48]) (by kernel_rfl) (by simp) ?_;refine AllReadyH.cons (o:=⟨some 113,_,_,_,_,some (35,true)⟩) rfl (fun K hK=>?_) AllReadyH.nil;rw [if_neg (Bool.eq_false_iff.1 (by kernel_rfl))];refine hK.out _ _ (by assumption) (fun hHeld=>?_);clear hK K
         try simp only [Act.put,List.setIfInBounds_toArray,List.set_cons_zero,List.set_cons_succ]
         refine wpAnyH_take (i:=49) (oi:=⟨some 114,_,_,_,_,none⟩) (v:=?v49g) rfl (by kernel_rfl) (by kernel_rfl) (by kernel_rfl) (fun _ _ _ h=>h) (Or.inl ⟨by rfl,?h49g⟩) (by assumption) ?r49g
         case h49g=>(intro w hSw;(try dsimp only at hSw);go_simp;try with_reducible rfl)
         try simp only [Act.put,List.setIfInBounds_toArray,List.set_cons_zero,List.set_cons_succ]
         refine wpAnyH_take (i:=50) (oi:=⟨some 4,_,_,_,_,none⟩) (v:=?v50g) rfl (by kernel_rfl) (by kernel_rfl) (by kernel_rfl) (fun _ _ _ h=>h) (Or.inl ⟨by rfl,?h50g⟩) (by assumption) ?r50g
         case h50g=>(intro w hSw;(try dsimp only at hSw);go_simp;try with_reducible rfl)
         try simp only [Act.put,List.setIfInBounds_toArray,List.set_cons_zero,List.set_cons_succ]
         refine wpAnyH_done (by kernel_rfl) ?_ _;refine NoPanic.normal ?_;go_wp2_with fail;go_ret;exact ⟨ret_bool HR2.out.symm,HK.out.trans kd⟩
       ·have hf':inR xf 0 ((k:Int)-1)=false:=by simpa using hf
        have HR2:Hid (R=false):=hid (by rw [HR.out,hf'];rfl);have HSS:=hid (fun W (kW:Keeps w2 W)=>(⟨kW.cell e0,kW.cell b1,kW.cell b2⟩:W.cell? ⟨r,0,none⟩=some (.string (syS L))∧W.cell? ⟨wI.heap.size,1,none⟩=some (.int .i64 xf)∧W.cell? ⟨wI.heap.size,2,none⟩=some (.int .i64 xs)));clear HR HS HIR HGE b1 b2 b3 e0 e2 e3 i1 hf;go_wp2_with fail;refine wp_region_noPanic ?_;refine wp_region_held_drew (S:=(fun w'=>w'.cell? ⟨r,0,none⟩=some (.string (syS L))∧w'.cell? ⟨wI.heap.size,1,none⟩=some (.int .i64 xf)∧w'.cell? ⟨wI.heap.size,2,none⟩=some (.int .i64 xs))) (by kernel_rfl) (HSS.out _ kd) (fun hHeld=>?_);refine wpAnyH_take (i:=0) (oi:=⟨some 65,_,_,_,_,none⟩) (v:=?v0f) rfl (by kernel_rfl) (by kernel_rfl) (by kernel_rfl) (fun _ _ _ h=>h) (Or.inl ⟨by rfl,?h0f⟩) (by assumption) ?r0f
        case h0f=>(intro w hSw;(try dsimp only at hSw);go_simp;try with_reducible rfl)
        try simp only [Act.put,List.setIfInBounds_toArray,List.set_cons_zero,List.set_cons_succ]
        refine wpAnyH_take (i:=1) (oi:=⟨some 66,_,_,_,_,none⟩) (v:=?v1f) rfl (by kernel_rfl) (by kernel_rfl) (by kernel_rfl) (fun _ _ _ h=>h) (Or.inl ⟨by rfl,?h1f⟩) (by assumption) ?r1f
        case h1f=>(intro w hSw;(try dsimp only at hSw);go_simp;try with_reducible rfl)
        try simp only [Act.put,List.setIfInBounds_toArray,List.set_cons_zero,List.set_cons_succ]
        refine wpAnyH_take (i:=2) (oi:=⟨some 67,_,_,_,_,none⟩) (v:=?v2f) rfl (by kernel_rfl) (by kernel_rfl) (by kernel_rfl) (fun _ _ _ h=>h) (Or.inl ⟨by rfl,?h2f⟩) (by assumption) ?r2f
        case h2f=>(intro w hSw;(try dsimp only at hSw);go_simp;try with_reducible rfl)
        try simp only [Act.put,List.setIfInBounds_toArray,List.set_cons_zero,List.set_cons_succ]
        refine wpAnyH_take (i:=3) (oi:=⟨some 68,_,_,_,_,none⟩) (v:=?v3f) rfl (by kernel_rfl) (by kernel_rfl) (by kernel_rfl) (fun _ _ _ h=>h) (Or.inl ⟨by rfl,?h3f⟩) (by assumption) ?r3f
        case h3f=>(intro w hSw;(try dsimp only at hSw);go_simp;try with_reducible rfl)
        try simp only [Act.put,List.setIfInBounds_toArray,List.set_cons_zero,List.set_cons_succ]
        refine wpAnyH_take (i:=4) (oi:=⟨some 69,_,_,_,_,none⟩) (v:=?v4f) rfl (by kernel_rfl) (by kernel_rfl) (by kernel_rfl) (fun _ _ _ h=>h) (Or.inl ⟨by rfl,?h4f⟩) (by assumption) ?r4f
        case h4f=>(intro w hSw;(try dsimp only at hSw);go_simp;try with_reducible rfl)
        try simp only [Act.put,List.setIfInBounds_toArray,List.set_cons_zero,List.set_cons_succ]
        refine wpAnyH_take (i:=5) (oi:=⟨some 70,_,_,_,_,none⟩) (v:=?v5f) rfl (by kernel_rfl) (by kernel_rfl) (by kernel_rfl) (fun _ _ _ h=>h) (Or.inl ⟨by rfl,?h5f⟩) (by assumption) ?r5f
        case h5f=>(intro w hSw;(try dsimp only at hSw);go_simp;try with_reducible rfl)
        try simp only [Act.put,List.setIfInBounds_toArray,List.set_cons_zero,List.set_cons_succ]
        refine wpAnyH_take (i:=6) (oi:=⟨some 71,_,_,_,_,some (5,true)⟩) (v:=?v6f) rfl (by kernel_rfl) (by kernel_rfl) (by kernel_rfl) (fun _ _ _ h=>h) (Or.inl ⟨by rfl,?h6f⟩) (by assumption) ?r6f
        case h6f=>(intro w hSw;(try dsimp only at hSw);go_simp;try with_reducible rfl)
        try simp only [Act.put,List.setIfInBounds_toArray,List.set_cons_zero,List.set_cons_succ]
        refine wpAnyH_take (i:=7) (oi:=⟨some 72,_,_,_,_,some (5,true)⟩) (v:=?v7f) rfl (by kernel_rfl) (by kernel_rfl) (by kernel_rfl) (fun _ _ _ h=>h) (Or.inl ⟨by rfl,?h7f⟩) (by assumption) ?r7f
        case h7f=>(intro w hSw;(try dsimp only at hSw);go_simp;try with_reducible rfl)
        try simp only [Act.put,List.setIfInBounds_toArray,List.set_cons_zero,List.set_cons_succ]
        refine wpAnyH_take (i:=8) (oi:=⟨some 73,_,_,_,_,some (5,true)⟩) (v:=?v8f) rfl (by kernel_rfl) (by kernel_rfl) (by kernel_rfl) (fun _ _ _ h=>h) (Or.inl ⟨by rfl,?h8f⟩) (by assumption) ?r8f
        case h8f=>(intro w hSw;(try dsimp only at hSw);go_simp;try with_reducible rfl)
        try simp only [Act.put,List.setIfInBounds_toArray,List.set_cons_zero,List.set_cons_succ]
        refine wpAnyH_take (i:=9) (oi:=⟨some 74,_,_,_,_,some (5,true)⟩) (v:=?v9f) rfl (by kernel_rfl) (by kernel_rfl) (by kernel_rfl) (fun _ _ _ h=>h) (Or.inl ⟨by rfl,?h9f⟩) (by assumption) ?r9f
        case h9f=>(intro w hSw;(try dsimp only at hSw);go_simp;try with_reducible rfl)
        try simp only [Act.put,List.setIfInBounds_toArray,List.set_cons_zero,List.set_cons_succ]
        refine wpAnyH_take (i:=10) (oi:=⟨some 75,_,_,_,_,some (5,true)⟩) (v:=?v10f) rfl (by kernel_rfl) (by kernel_rfl) (by kernel_rfl) (fun _ _ _ h=>h) (Or.inl ⟨by rfl,?h10f⟩) (by assumption) ?r10f
        case h10f=>(intro w hSw;(try dsimp only at hSw);go_simp;try with_reducible rfl)
        try simp only [Act.put,List.setIfInBounds_toArray,List.set_cons_zero,List.set_cons_succ]
        refine wpAnyH_take (i:=11) (oi:=⟨some 76,_,_,_,_,none⟩) (v:=?v11f) rfl (by kernel_rfl) (by kernel_rfl) (by kernel_rfl) (fun _ _ _ h=>h) (Or.inl ⟨by rfl,?h11f⟩) (by assumption) ?r11f
        case h11f=>(intro w hSw;(try dsimp only at hSw);go_simp;try with_reducible rfl)
        try simp only [Act.put,List.setIfInBounds_toArray,List.set_cons_zero,List.set_cons_succ]
        refine wpAnyH_take (i:=12) (oi:=⟨some 77,_,_,_,_,none⟩) (v:=?v12f) rfl (by kernel_rfl) (by kernel_rfl) (by kernel_rfl) (fun _ _ _ h=>h) (Or.inl ⟨by rfl,?h12f⟩) (by assumption) ?r12f
        case h12f=>(intro w hSw;(try dsimp only at hSw);go_simp;try with_reducible rfl)
        try simp only [Act.put,List.setIfInBounds_toArray,List.set_cons_zero,List.set_cons_succ]
        refine wpAnyH_take (i:=13) (oi:=⟨some 78,_,_,_,_,some (12,true)⟩) (v:=?v13f) rfl (by kernel_rfl) (by kernel_rfl) (by kernel_rfl) (fun _ _ _ h=>h) (Or.inl ⟨by rfl,?h13f⟩) (by assumption) ?r13f
        case h13f=>(intro w hSw;(try dsimp only at hSw);go_simp;try with_reducible rfl)
        try simp only [Act.put,List.setIfInBounds_toArray,List.set_cons_zero,List.set_cons_succ]
        refine wpAnyH_take (i:=14) (oi:=⟨some 79,_,_,_,_,some (12,true)⟩) (v:=?v14f) rfl (by kernel_rfl) (by kernel_rfl) (by kernel_rfl) (fun _ _ _ h=>h) (Or.inl ⟨by rfl,?h14f⟩) (by assumption) ?r14f
        case h14f=>(intro w hSw;(try dsimp only at hSw);go_simp;try with_reducible rfl)
        try simp only [Act.put,List.setIfInBounds_toArray,List.set_cons_zero,List.set_cons_succ]
        refine wpAnyH_take (i:=15) (oi:=⟨some 80,_,_,_,_,some (12,true)⟩) (v:=?v15f) rfl (by kernel_rfl) (by kernel_rfl) (by kernel_rfl) (fun _ _ _ h=>h) (Or.inl ⟨by rfl,?h15f⟩) (by assumption) ?r15f
        case h15f=>(intro w hSw;(try dsimp only at hSw);go_simp;try with_reducible rfl)
        try simp only [Act.put,List.setIfInBounds_toArray,List.set_cons_zero,List.set_cons_succ]
        refine wpAnyH_ready (rs:=[16]) (by kernel_rfl) (by simp) ?_;refine AllReadyH.cons (o:=⟨some 81,_,_,_,_,some (12,true)⟩) rfl (fun K hK=>?_) AllReadyH.nil;rw [if_pos (by kernel_rfl)]
        go_simp
        refine (HCL.out _ _ (HI1.out _ kd)).mono ?_;rintro e w5 ⟨rfl,rfl⟩;rw [hf'];refine hK.out _ _ (hHeld) (fun hHeld=>?_);clear hK K
        try simp only [Act.put,List.setIfInBounds_toArray,List.set_cons_zero,List.set_cons_succ]
        refine wpAnyH_take (i:=17) (oi:=⟨some 82,_,_,_,_,none⟩) (v:=?v17f) rfl (by kernel_rfl) (by kernel_rfl) (by kernel_rfl) (fun _ _ _ h=>h) (Or.inl ⟨by rfl,?h17f⟩) (by assumption) ?r17f
        case h17f=>(intro w hSw;(try dsimp only at hSw);go_simp;try with_reducible rfl)
        try simp only [Act.put,List.setIfInBounds_toArray,List.set_cons_zero,List.set_cons_succ]
        refine wpAnyH_take (i:=18) (oi:=⟨some 83,_,_,_,_,none⟩) (v:=?v18f) rfl (by kernel_rfl) (by kernel_rfl) (by kernel_rfl) (fun _ _ _ h=>h) (Or.inl ⟨by rfl,?h18f⟩) (by assumption) ?r18f
        case h18f=>(intro w hSw;(try dsimp only at hSw);go_simp;try with_reducible rfl)
        try simp only [Act.put,List.setIfInBounds_toArray,List.set_cons_zero,List.set_cons_succ]
        refine wpAnyH_take (i:=19) (oi:=⟨some 84,_,_,_,_,some (18,true)⟩) (v:=undef) rfl (by kernel_rfl) (by kernel_rfl) (by kernel_rfl) (fun _ _ _ h=>h) (Or.inr ⟨by rfl,rfl⟩) (by assumption) ?_
        try simp only [Act.put,List.setIfInBounds_toArray,List.set_cons_zero,List.set_cons_succ]
        refine wpAnyH_take (i:=20) (oi:=⟨some 85,_,_,_,_,some (18,true)⟩) (v:=undef) rfl (by kernel_rfl) (by kernel_rfl) (by kernel_rfl) (fun _ _ _ h=>h) (Or.inr ⟨by rfl,rfl⟩) (by assumption) ?_
        try simp only [Act.put,List.setIfInBounds_toArray,List.set_cons_zero,List.set_cons_succ]
        refine wpAnyH_take (i:=21) (oi:=⟨some 86,_,_,_,_,some (18,true)⟩) (v:=undef) rfl (by kernel_rfl) (by kernel_rfl) (by kernel_rfl) (fun _ _ _ h=>h) (Or.inr ⟨by rfl,rfl⟩) (by assumption) ?_
        try simp only [Act.put,List.setIfInBounds_toArray,List.set_cons_zero,List.set_cons_succ]
        refine wpAnyH_take (i:=22) (oi:=⟨some 87,_,_,_,_,none⟩) (v:=?v22f) rfl (by kernel_rfl) (by kernel_rfl) (by kernel_rfl) (fun _ _ _ h=>h) (Or.inl ⟨by rfl,?h22f⟩) (by assumption) ?r22f
        case h22f=>(intro w hSw;(try dsimp only at hSw);go_simp;try with_reducible rfl)
        try simp only [Act.put,List.setIfInBounds_toArray,List.set_cons_zero,List.set_cons_succ]
        refine wpAnyH_take (i:=23) (oi:=⟨some 88,_,_,_,_,none⟩) (v:=?v23f) rfl (by kernel_rfl) (by kernel_rfl) (by kernel_rfl) (fun _ _ _ h=>h) (Or.inl ⟨by rfl,?h23f⟩) (by assumption) ?r23f
        case h23f=>(intro w hSw;(try dsimp only at hSw);go_simp;try with_reducible rfl)
        try simp only [Act.put,List.setIfInBounds_toArray,List.set_cons_zero,List.set_cons_succ]
        refine wpAnyH_take (i:=24) (oi:=⟨some 89,_,_,_,_,some (23,true)⟩) (v:=undef) rfl (by kernel_rfl) (by kernel_rfl) (by kernel_rfl) (fun _ _ _ h=>h) (Or.inr ⟨by rfl,rfl⟩) (by assumption) ?_
        try simp only [Act.put,List.setIfInBounds_toArray,List.set_cons_zero,List.set_cons_succ]
        refine wpAnyH_take (i:=25) (oi:=⟨some 90,_,_,_,_,some (23,true)⟩) (v:=undef) rfl (by kernel_rfl) (by kernel_rfl) (by kernel_rfl) (fun _ _ _ h=>h) (Or.inr ⟨by rfl,rfl⟩) (by assumption) ?_
        try simp only [Act.put,List.setIfInBounds_toArray,List.set_cons_zero,List.set_cons_succ]
        refine wpAnyH_take (i:=26) (oi:=⟨some 91,_,_,_,_,some (23,true)⟩) (v:=undef) rfl (by kernel_rfl) (by kernel_rfl) (by kernel_rfl) (fun _ _ _ h=>h) (Or.inr ⟨by rfl,rfl⟩) (by assumption) ?_
        try simp only [Act.put,List.setIfInBounds_toArray,List.set_cons_zero,List.set_cons_succ]
        refine wpAnyH_take (i:=27) (oi:=⟨some 92,_,_,_,_,some (23,true)⟩) (v:=undef) rfl (by kernel_rfl) (by kernel_rfl) (by kernel_rfl) (fun _ _ _ h=>h) (Or.inr ⟨by rfl,rfl⟩) (by assumption) ?_
        try simp only [Act.put,List.setIfInBounds_toArray,List.set_cons_zero,List.set_cons_succ]
        refine wpAnyH_take (i:=28) (oi:=⟨some 93,_,_,_,_,some (23,true)⟩) (v:=undef) rfl (by kernel_rfl) (by kernel_rfl) (by kernel_rfl) (fun _ _ _ h=>h) (Or.inr ⟨by rfl,rfl⟩) (by assumption) ?_
        try simp only [Act.put,List.setIfInBounds_toArray,List.set_cons_zero,List.set_cons_succ]
        refine wpAnyH_take (i:=29) (oi:=⟨some 94,_,_,_,_,some (23,true)⟩) (v:=undef) rfl (by kernel_rfl) (by kernel_rfl) (by kernel_rfl) (fun _ _ _ h=>h) (Or.inr ⟨by rfl,rfl⟩) (by assumption) ?_
        try simp only [Act.put,List.setIfInBounds_toArray,List.set_cons_zero,List.set_cons_succ]
        refine wpAnyH_take (i:=30) (oi:=⟨some 95,_,_,_,_,some (23,true)⟩) (v:=undef) rfl (by kernel_rfl) (by kernel_rfl) (by kernel_rfl) (fun _ _ _ h=>h) (Or.inr ⟨by rfl,rfl⟩) (by assumption) ?_
        try simp only [Act.put,List.setIfInBounds_toArray,List.set_cons_zero,List.set_cons_succ]
        refine wpAnyH_take (i:=31) (oi:=⟨some 96,_,_,_,_,some (23,true)⟩) (v:=undef) rfl (by kernel_rfl) (by kernel_rfl) (by kernel_rfl) (fun _ _ _ h=>h) (Or.inr ⟨by rfl,rfl⟩) (by assumption) ?_
        try simp only [Act.put,List.setIfInBounds_toArray,List.set_cons_zero,List.set_cons_succ]
        refine wpAnyH_take (i:=32) (oi:=⟨some 97,_,_,_,_,some (23,true)⟩) (v:=undef) rfl (by kernel_rfl) (by kernel_rfl) (by kernel_rfl) (fun _ _ _ h=>h) (Or.inr ⟨by rfl,rfl⟩) (by assumption) ?_
        try simp only [Act.put,List.setIfInBounds_toArray,List.set_cons_zero,List.set_cons_succ]
        refine wpAnyH_take (i:=33) (oi:=⟨some 98,_,_,_,_,some (23,true)⟩) (v:=undef) rfl (by kernel_rfl) (by kernel_rfl) (by kernel_rfl) (fun _ _ _ h=>h) (Or.inr ⟨by rfl,rfl⟩) (by assumption) ?_
        try simp only [Act.put,List.setIfInBounds_toArray,List.set_cons_zero,List.set_cons_succ]
        refine wpAnyH_take (i:=34) (oi:=⟨some 99,_,_,_,_,none⟩) (v:=?v34f) rfl (by kernel_rfl) (by kernel_rfl) (by kernel_rfl) (fun _ _ _ h=>h) (Or.inl ⟨by rfl,?h34f⟩) (by assumption) ?r34f
        case h34f=>(intro w hSw;(try dsimp only at hSw);go_simp;try with_reducible rfl)
        try simp only [Act.put,List.setIfInBounds_toArray,List.set_cons_zero,List.set_cons_succ]
        refine wpAnyH_take (i:=35) (oi:=⟨some 100,_,_,_,_,none⟩) (v:=?v35f) rfl (by kernel_rfl) (by kernel_rfl) (by kernel_rfl) (fun _ _ _ h=>h) (Or.inl ⟨by rfl,?h35f⟩) (by assumption) ?r35f
        case h35f=>(intro w hSw;(try dsimp only at hSw);go_simp;try with_reducible rfl)
        try simp only [Act.put,List.setIfInBounds_toArray,List.set_cons_zero,List.set_cons_succ]
        refine wpAnyH_take (i:=36) (oi:=⟨some 101,_,_,_,_,some (35,true)⟩) (v:=undef) rfl (by kernel_rfl) (by kernel_rfl) (by kernel_rfl) (fun _ _ _ h=>h) (Or.inr ⟨by rfl,rfl⟩) (by assumption) ?_
        try simp only [Act.put,List.setIfInBounds_toArray,List.set_cons_zero,List.set_cons_succ]
        refine wpAnyH_take (i:=37) (oi:=⟨some 102,_,_,_,_,some (35,true)⟩) (v:=undef) rfl (by kernel_rfl) (by kernel_rfl) (by kernel_rfl) (fun _ _ _ h=>h) (Or.inr ⟨by rfl,rfl⟩) (by assumption) ?_
        try simp only [Act.put,List.setIfInBounds_toArray,List.set_cons_zero,List.set_cons_succ]
        refine wpAnyH_take (i:=38) (oi:=⟨some 103,_,_,_,_,some (35,true)⟩) (v:=undef) rfl (by kernel_rfl) (by kernel_rfl) (by kernel_rfl) (fun _ _ _ h=>h) (Or.inr ⟨by rfl,rfl⟩) (by assumption) ?_
        try simp only [Act.put,List.setIfInBounds_toArray,List.set_cons_zero,List.set_cons_succ]
        refine wpAnyH_take (i:=39) (oi:=⟨some 104,_,_,_,_,some (35,true)⟩) (v:=undef) rfl (by kernel_rfl) (by kernel_rfl) (by kernel_rfl) (fun _ _ _ h=>h) (Or.inr ⟨by rfl,rfl⟩) (by assumption) ?_
        try simp only [Act.put,List.setIfInBounds_toArray,List.set_cons_zero,List.set_cons_succ]
        refine wpAnyH_take (i:=40) (oi:=⟨some 105,_,_,_,_,some (35,true)⟩) (v:=undef) rfl (by kernel_rfl) (by kernel_rfl) (by kernel_rfl) (fun _ _ _ h=>h) (Or.inr ⟨by rfl,rfl⟩) (by assumption) ?_
        try simp only [Act.put,List.setIfInBounds_toArray,List.set_cons_zero,List.set_cons_succ]
        refine wpAnyH_take (i:=41) (oi:=⟨some 106,_,_,_,_,some (35,true)⟩) (v:=undef) rfl (by kernel_rfl) (by kernel_rfl) (by kernel_rfl) (fun _ _ _ h=>h) (Or.inr ⟨by rfl,rfl⟩) (by assumption) ?_
        try simp only [Act.put,List.setIfInBounds_toArray,List.set_cons_zero,List.set_cons_succ]
        refine wpAnyH_take (i:=42) (oi:=⟨some 107,_,_,_,_,some (35,true)⟩) (v:=undef) rfl (by kernel_rfl) (by kernel_rfl) (by kernel_rfl) (fun _ _ _ h=>h) (Or.inr ⟨by rfl,rfl⟩) (by assumption) ?_
        try simp only [Act.put,List.setIfInBounds_toArray,List.set_cons_zero,List.set_cons_succ]
        refine wpAnyH_take (i:=43) (oi:=⟨some 108,_,_,_,_,some (35,true)⟩) (v:=undef) rfl (by kernel_rfl) (by kernel_rfl) (by kernel_rfl) (fun _ _ _ h=>h) (Or.inr ⟨by rfl,rfl⟩) (by assumption) ?_
        try simp only [Act.put,List.setIfInBounds_toArray,List.set_cons_zero,List.set_cons_succ]
        refine wpAnyH_take (i:=44) (oi:=⟨some 109,_,_,_,_,some (35,true)⟩) (v:=undef) rfl (by kernel_rfl) (by kernel_rfl) (by kernel_rfl) (fun _ _ _ h=>h) (Or.inr ⟨by rfl,rfl⟩) (by assumption) ?_
        try simp only [Act.put,List.setIfInBounds_toArray,List.set_cons_zero,List.set_cons_succ]
        refine wpAnyH_take (i:=45) (oi:=⟨some 110,_,_,_,_,some (35,true)⟩) (v:=undef) rfl (by kernel_rfl) (by kernel_rfl) (by kernel_rfl) (fun _ _ _ h=>h) (Or.inr ⟨by rfl,rfl⟩) (by assumption) ?_
        try simp only [Act.put,List.setIfInBounds_toArray,List.set_cons_zero,List.set_cons_succ]
        refine wpAnyH_take (i:=46) (oi:=⟨some 111,_,_,_,_,some (35,true)⟩) (v:=undef) rfl (by kernel_rfl) (by kernel_rfl) (by kernel_rfl) (fun _ _ _ h=>h) (Or.inr ⟨by rfl,rfl⟩) (by assumption) ?_
        try simp only [Act.put,List.setIfInBounds_toArray,List.set_cons_zero,List.set_cons_succ]
        refine wpAnyH_ready (rs:=[47]) (by kernel_rfl) (by simp) ?_;refine AllReadyH.cons (o:=⟨some 112,_,_,_,_,some (35,true)⟩) rfl (fun K hK=>?_) AllReadyH.nil;rw [if_neg (Bool.eq_false_iff.1 (by kernel_rfl))];refine hK.out _ _ (by assumption) (fun hHeld=>?_);clear hK K
        try simp only [Act.put,List.setIfInBounds_toArray,List.set_cons_zero,List.set_cons_succ]
        refine wpAnyH_ready (rs:=[48]) (by kernel_rfl) (by simp) ?_;refine AllReadyH.cons (o:=⟨some 113,_,_,_,_,some (35,true)⟩) rfl (fun K hK=>?_) AllReadyH.nil;rw [if_neg (Bool.eq_false_iff.1 (by kernel_rfl))];refine hK.out _ _ (by assumption) (fun hHeld=>?_);clear hK K
        try simp only [Act.put,List.setIfInBounds_toArray,List.set_cons_zero,List.set_cons_succ]
        refine wpAnyH_take (i:=49) (oi:=⟨some 114,_,_,_,_,none⟩) (v:=?v49f) rfl (by kernel_rfl) (by kernel_rfl) (by kernel_rfl) (fun _ _ _ h=>h) (Or.inl ⟨by rfl,?h49f⟩) (by assumption) ?r49f
        case h49f=>(intro w hSw;(try dsimp only at hSw);go_simp;try with_reducible rfl)
        try simp only [Act.put,List.setIfInBounds_toArray,List.set_cons_zero,List.set_cons_succ]
        refine wpAnyH_take (i:=50) (oi:=⟨some 4,_,_,_,_,none⟩) (v:=?v50f) rfl (by kernel_rfl) (by kernel_rfl) (by kernel_rfl) (fun _ _ _ h=>h) (Or.inl ⟨by rfl,?h50f⟩) (by assumption) ?r50f
        case h50f=>(intro w hSw;(try dsimp only at hSw);go_simp;try with_reducible rfl)
        try simp only [Act.put,List.setIfInBounds_toArray,List.set_cons_zero,List.set_cons_succ]
        refine wpAnyH_done (by kernel_rfl) ?_ _;refine NoPanic.normal ?_;go_wp2_with fail;go_ret;exact ⟨ret_bool HR2.out.symm,HK.out.trans kd⟩
    ·rw [if_neg r4] at HR
     have HR2:Hid (R=false):=hid HR.out
     have z1:(xr==1)=false:=by simpa using q1
     have z2:(xr==2)=false:=by simpa using q2
     have z3:(xr==3)=false:=by simpa using r3
     have z4:(xr==4)=false:=by simpa using r4
     clear HR b1 b2 b3 e0 e2 e3 i1 q1 q2 r3 r4;go_wp2_with fail;go_ret;exact ⟨ret_bool HR2.out.symm,HK.out⟩
end Go.Proofs.YtbccmdfdclomiaaGreatDoor
