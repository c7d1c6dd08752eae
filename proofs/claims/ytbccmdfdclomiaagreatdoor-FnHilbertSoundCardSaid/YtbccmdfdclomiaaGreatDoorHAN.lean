import Derived.Test.YtbccmdfdclomiaaGreatDoorHBG
/- own -/
namespace Go.Proofs.YtbccmdfdclomiaaGreatDoor
set_option maxRecDepth 20000
set_option maxHeartbeats 8000000
open Go.RowKit
theorem syS_int (L:Nat) (h:L≤9):((syS L).toList==[73,110,116])=decide (L=8)∧((syS L).toList==[67,76])=decide (L=9):=by
 have h8:L=0∨L=1∨L=2∨L=3∨L=4∨L=5∨L=6∨L=7∨L=8∨L=9:=by omega
 rcases h8 with rfl | rfl | rfl | rfl | rfl | rfl | rfl | rfl | rfl | rfl<;>exact ⟨by kernel_rfl,by kernel_rfl⟩
theorem wrapI (x:Int) (h1 : -9223372036854775808≤x) (h2:x≤9223372036854775807):IntKind.i64.wrap x=x:=by
 simp [IntKind.wrap,IntKind.bits,IntKind.signed];omega
def MidLn (xs:List Ln):Prop:=∀ x∈xs,x.a.length≤1000
structure DvB (w:World) (r L:Nat) (hv lv uv:Value) (H:List (List Nd)) (ls:List Ln) (us:List (List Nat)) (B:Nat):Prop where
 box:BoxG w r 60 [.string (syS L),hv,lv,uv]
 hs:NdsL w hv H
 ln:LnL w lv ls
 us:OwnLI w B uv us
theorem DvB.keeps {w w':World} {r L B:Nat} {hv lv uv:Value} {H:List (List Nd)} {ls:List Ln} {us:List (List Nat)} (h:DvB w r L hv lv uv H ls us B) (k:Keeps w w'):DvB w' r L hv lv uv H ls us B:=⟨h.box.keeps k,h.hs.keeps k,h.ln.keeps k,h.us.keeps k⟩
theorem DvB.cells {w:World} {r L B:Nat} {hv lv uv:Value} {H:List (List Nd)} {ls:List Ln} {us:List (List Nat)} (h:DvB w r L hv lv uv H ls us B):w.cell? ⟨r,0,none⟩=some (.string (syS L))∧w.cell? ⟨r,1,none⟩=some hv∧w.cell? ⟨r,2,none⟩=some lv∧w.cell? ⟨r,3,none⟩=some uv:=
 ⟨h.box.cell 0 (by simp),h.box.cell 1 (by simp),h.box.cell 2 (by simp),h.box.cell 3 (by simp)⟩
noncomputable def axB (L:Nat) (H:List (List Nd)) (x:Ln):Bool:=decide (x.s=0)&&(if x.r=2 then (inR x.f 0 (H.length-1)&&decide (getI [] H x.f=x.a)) else ((schS L).contains x.f&&insL x.f x.a))
theorem schS_lt {L:Nat} {z:Int} (h:(schS L).contains z=true):∃ k:Nat,z=k∧k<19:=by
 have h:=List.contains_iff_mem.1 h;unfold schS at h;have hl:=lastS_le L
 rcases List.mem_append.1 h with h | h
 ·obtain ⟨j,hj,rfl⟩:=List.mem_map.1 h
  exact ⟨j,rfl,by have:=List.mem_range.1 hj;omega⟩
 ·have:z=13∨z=14∨z=15∨z=16∨z=17∨z=18:=by
   unfold moreS at h
   repeat' (split at h)
   all_goals simp at h
   all_goals omega
  exact ⟨z.toNat,by omega,by omega⟩
theorem isAxiomatic_any (r L B:Nat) (hL:L≤9) (hv lv uv:Value) (H:List (List Nd)) (ls:List Ln) (us:List (List Nat)) (x:Ln) (p:Option Addr) (n c:Nat) (w:World) (hD:DvB w r L hv lv uv H ls us B) (ha:Nds w (.slice p n c) x.a) (hf:isFm x.a=true) (hr:x.r=1∨x.r=2)
  (hN:LaidS 0 texts19 w):
  Calls Tryz.prog 118 #[.pointer (some ⟨r,0,none⟩),.agg #[.int .i64 x.r,.int .i64 x.f,.int .i64 x.s,.slice p n c]] w fun e w'=>e=.returned (.bool (axB L H x))∧Keeps w w':=by
 obtain ⟨xr,xf,xs,xa⟩:=x
 simp only at ha hf hr
 have kA:=(Keeps.refl w).alloc (.cells #[.int .i64 xr,.int .i64 xf,.int .i64 xs,.slice p n c] 72)
 have b0:(w.alloc (.cells #[.int .i64 xr,.int .i64 xf,.int .i64 xs,.slice p n c] 72)).cell? ⟨w.heap.size,0,none⟩=some (.int .i64 xr):=by simp
 have b1:(w.alloc (.cells #[.int .i64 xr,.int .i64 xf,.int .i64 xs,.slice p n c] 72)).cell? ⟨w.heap.size,1,none⟩=some (.int .i64 xf):=by simp
 have b2:(w.alloc (.cells #[.int .i64 xr,.int .i64 xf,.int .i64 xs,.slice p n c] 72)).cell? ⟨w.heap.size,2,none⟩=some (.int .i64 xs):=by simp
 have b3:(w.alloc (.cells #[.int .i64 xr,.int .i64 xf,.int .i64 xs,.slice p n c] 72)).cell? ⟨w.heap.size,3,none⟩=some (.slice p n c):=by simp
 have hD2:=hD.keeps kA;obtain ⟨d0,d1,d2,d3⟩:=hD2.cells;have HH:=hid (fun wz (kz:Keeps w wz)=>hD.hs.keeps kz);have HA:=hid (fun wz (kz:Keeps w wz)=>ha.keeps kz)
 obtain ⟨pH,cH,rfl,hle,hmx,hhl⟩:∃ p cap,hv=.slice p H.length cap∧H.length≤cap∧cap≤maxLen∧H.length≤2147483648:=by
  obtain ⟨p,cap,e,h1,h2,h3,_⟩:=hD.hs;exact ⟨p,cap,e,h1,h2,h3⟩
 unfold maxLen at hmx;have HR:Hid (axB L H ⟨xr,xf,xs,xa⟩=(decide (xs=0)&&(if xr=2 then (inR xf 0 (H.length-1)&&decide (getI [] H xf=xa)) else ((schS L).contains xf&&insL xf xa)))):=hid rfl;generalize axB L H ⟨xr,xf,xs,xa⟩=R at*;have HNN:=hid (fun wz (kz:Keeps w wz)=>hN.keeps kz);clear hN ha hD hD2;go_enter Tryz.func118,Tryz.ntmps118
 go_upto_region 1 with fail
 have HKA:=hid kA;clear kA;generalize w.alloc (.cells #[.int .i64 xr,.int .i64 xf,.int .i64 xs,.slice p n c] 72)=wA at*
 by_cases hs:xs=0
 ·subst hs
  rw [decide_eq_true rfl,Bool.true_and] at HR
  rcases hr with rfl | rfl
  ·rw [if_neg (by omega)] at HR
   have HSC:=hid (fun wz=>schemesOf_any L hL wz)
   have hsl:(schS L).length≤100:=by unfold schS;have:=lastS_le L;have:=moreS_len L;simp;omega
   have HLT:=hid (fun h=>schS_lt (L:=L) (z:=xf) h);have HCO:=hid (fun wz u (hu:Ints wz u (schS L))=>containsZ_any (schS L) xf u wz hu);generalize (schS L).contains xf=cs at*;clear d1 d2 d3;go_wp2_with fail;refine (HSC.out _).mono ?_;rintro e w2 ⟨u,rfl,hu,k2⟩;have c1:=k2.cell b1;have c3:=k2.cell b3;have HU:=hid (hu.ints (by omega));obtain ⟨pu,cu,eu,_⟩:=hu.ints (by omega);subst eu;clear b0 b1 b2 b3 hu HSC;go_wp2_with fail;refine (HCO.out w2 _ HU.out).mono ?_;rintro e w3 ⟨rfl,rfl⟩;clear HCO HU
   cases cs
   ·have HR2:Hid (R=false):=hid (by rw [HR.out];rfl)
    clear HR;go_wp2_with fail;go_ret;exact ⟨ret_bool HR2.out.symm,HKA.out.trans k2⟩
   ·obtain ⟨k,rfl,hk⟩:=HLT.out rfl
    unfold isFm at hf;rw [Bool.and_eq_true,decide_eq_true_eq] at hf;obtain ⟨t,hw,rfl⟩:=isTree_enc hf.2;have hfl:=hf.1;have HR2:Hid (R=insT k t):=hid (by rw [HR.out,insL_enc];simp);have HIN:=hid (isInstance_any k hk t hfl (.slice p n c) w2 (HA.out w2 (HKA.out.trans k2)) (HNN.out w2 (HKA.out.trans k2)));clear HR HLT;go_wp2_with fail;refine HIN.out.mono ?_;rintro e w4 ⟨rfl,k4⟩;go_wp2_with fail;go_ret;exact ⟨ret_bool HR2.out.symm,(HKA.out.trans k2).trans k4⟩
  ·rw [if_pos rfl] at HR
   have hIN:=inRange_any xf 0 ((H.length:Int)-1);have HIN:=hid (fun wz=>hIN wz);have HSZ:=hid (fun wz=>sizeNL_any pH H.length cH wz);have HAG:=hid (fun (h:inR xf 0 ((H.length:Int)-1)=true)=>inR_iff.1 h);clear hIN;generalize hir:inR xf 0 ((H.length:Int)-1)=ir at*
   cases ir
   ·have HR2:Hid (R=false):=hid (by rw [HR.out];rfl)
    clear HR HAG;go_wp2_with fail
    go_quiet (first | (go_at_call 151;refine quietS (HSZ.out _)) | (go_at_call 76;refine quietS (HIN.out _)))
    go_wp2_with fail;go_ret;exact ⟨ret_bool HR2.out.symm,HKA.out.drewN _⟩
   ·obtain ⟨h0,h1⟩:=HAG.out rfl
    obtain ⟨k,rfl⟩:=Int.eq_ofNat_of_zero_le h0
    have hk:k<H.length:=by omega
    have hk':((k:Nat):Int)<H.length:=by omega
    obtain ⟨bH,oH,uk,epH,hck,hnk⟩:=(HH.out wA HKA.out).get k hk
    cases epH
    obtain ⟨pk,nk,ck,rfl⟩:=hnk.shape
    have hgk:getI [] H (k:Int)=H[k]:=by unfold getI;rw [Int.toNat_natCast,List.getD_eq_getElem?_getD,List.getElem?_eq_getElem hk];rfl
    have HR2:=hid (show R=decide (H[k]=xa) from by rw [HR.out,hgk];simp);have HSM:=hid (fun wz (kz:Keeps wA wz)=>same_any H[k] xa _ _ wz (hnk.keeps kz) (HA.out wz (HKA.out.trans kz)));have HCX:=hid (fun W (kz:Keeps wA W)=>(⟨kz.cell b1,kz.cell b3,kz.cell d1,kz.cell hck⟩:W.cell? ⟨w.heap.size,1,none⟩=some (.int .i64 ((k:Nat):Int))∧W.cell? ⟨w.heap.size,3,none⟩=some (.slice p n c)∧W.cell? ⟨r,1,none⟩=some (.slice (some ⟨bH,oH,none⟩) H.length cH)∧W.cell? ⟨bH,oH+k,none⟩=some (.slice pk nk ck)));have kd:=(Keeps.refl wA).drew;have HIN2:=hid (fun wz y (hy:y=(H.length:Int)-1)=>(by subst hy;exact HIN.out wz:Calls Tryz.prog 76 #[.int .i64 ((k:Nat):Int),.int .i64 0,.int .i64 y] wz fun e w'=>e=.returned (.bool true)∧wz=w'));clear HR HAG hgk hck hnk d0 d1 d2 d3 b1 b3 HIN;generalize decide (H[k]=xa)=R2 at*;generalize H.length=hn at*;go_wp2_with fail;refine wp_region_noPanic ?_;refine wp_region_held_drew (S:=(fun w'=>w'.cell? ⟨w.heap.size,1,none⟩=some (.int .i64 ((k:Nat):Int))∧w'.cell? ⟨w.heap.size,3,none⟩=some (.slice p n c)∧w'.cell? ⟨r,1,none⟩=some (.slice (some ⟨bH,oH,none⟩) hn cH)∧w'.cell? ⟨bH,oH+k,none⟩=some (.slice pk nk ck))) (by kernel_rfl) (HCX.out _ kd) (fun hHeld=>?_);refine wpAnyH_take (i:=0) (oi:=⟨some 13,_,_,_,_,none⟩) (v:=?v0q) rfl (by kernel_rfl) (by kernel_rfl) (by kernel_rfl) (fun _ _ _ h=>h) (Or.inl ⟨by rfl,?h0q⟩) (by assumption) ?r0q
    case h0q=>(intro w hSw;(try dsimp only at hSw);go_simp;try with_reducible rfl)
    try simp only [Act.put,List.setIfInBounds_toArray,List.set_cons_zero,List.set_cons_succ]
    refine wpAnyH_take (i:=1) (oi:=⟨some 14,_,_,_,_,none⟩) (v:=?v1q) rfl (by kernel_rfl) (by kernel_rfl) (by kernel_rfl) (fun _ _ _ h=>h) (Or.inl ⟨by rfl,?h1q⟩) (by assumption) ?r1q
    case h1q=>(intro w hSw;(try dsimp only at hSw);go_simp;try with_reducible rfl)
    try simp only [Act.put,List.setIfInBounds_toArray,List.set_cons_zero,List.set_cons_succ]
    refine wpAnyH_take (i:=2) (oi:=⟨some 15,_,_,_,_,none⟩) (v:=?v2q) rfl (by kernel_rfl) (by kernel_rfl) (by kernel_rfl) (fun _ _ _ h=>h) (Or.inl ⟨by rfl,?h2q⟩) (by assumption) ?r2q
    case h2q=>(intro w hSw;(try dsimp only at hSw);go_simp;try with_reducible rfl)
    try simp only [Act.put,List.setIfInBounds_toArray,List.set_cons_zero,List.set_cons_succ]
    refine wpAnyH_take (i:=3) (oi:=⟨some 16,_,_,_,_,none⟩) (v:=?v3q) rfl (by kernel_rfl) (by kernel_rfl) (by kernel_rfl) (fun _ _ _ h=>h) (Or.inl ⟨by rfl,?h3q⟩) (by assumption) ?r3q
    case h3q=>(intro w hSw;(try dsimp only at hSw);go_simp;try with_reducible rfl)
    try simp only [Act.put,List.setIfInBounds_toArray,List.set_cons_zero,List.set_cons_succ]
    refine wpAnyH_take (i:=4) (oi:=⟨some 17,_,_,_,_,none⟩) (v:=?v4q) rfl (by kernel_rfl) (by kernel_rfl) (by kernel_rfl) (fun _ _ _ h=>h) (Or.inl ⟨by rfl,?h4q⟩) (by assumption) ?r4q
    case h4q=>(intro w hSw;(try dsimp only at hSw);go_simp;try with_reducible rfl)
    try simp only [Act.put,List.setIfInBounds_toArray,List.set_cons_zero,List.set_cons_succ]
    refine wpAnyH_take (i:=5) (oi:=⟨some 18,_,_,_,_,none⟩) (v:=?v5q) rfl (by kernel_rfl) (by kernel_rfl) (by kernel_rfl) (fun _ _ _ h=>h) (Or.inl ⟨by rfl,?h5q⟩) (by assumption) ?r5q
    case h5q=>(intro w hSw;(try dsimp only at hSw);go_simp;try with_reducible rfl)
    try simp only [Act.put,List.setIfInBounds_toArray,List.set_cons_zero,List.set_cons_succ]
    refine wpAnyH_ready (rs:=[6]) (by kernel_rfl) (by simp) ?_;refine AllReadyH.cons (o:=⟨some 19,_,_,_,_,none⟩) rfl (fun K hK=>?_) AllReadyH.nil
    go_simp
    refine (HSZ.out _).mono ?_;rintro e w2 ⟨rfl,rfl⟩;refine hK.out _ _ (hHeld) (fun hHeld=>?_);clear hK K
    try simp only [Act.put,List.setIfInBounds_toArray,List.set_cons_zero,List.set_cons_succ]
    refine wpAnyH_take (i:=7) (oi:=⟨some 20,_,_,_,_,none⟩) (v:=?v7q) rfl (by kernel_rfl) (by kernel_rfl) (by kernel_rfl) (fun _ _ _ h=>h) (Or.inl ⟨by rfl,?h7q⟩) (by assumption) ?r7q
    case h7q=>(intro w hSw;(try dsimp only at hSw);go_simp;try with_reducible rfl)
    try simp only [Act.put,List.setIfInBounds_toArray,List.set_cons_zero,List.set_cons_succ]
    refine wpAnyH_ready (rs:=[8]) (by kernel_rfl) (by simp) ?_;refine AllReadyH.cons (o:=⟨some 21,_,_,_,_,none⟩) rfl (fun K hK=>?_) AllReadyH.nil
    go_simp
    refine (HIN2.out _ _ (by first | rfl | (exact wrapI _ (by omega) (by omega)))).mono ?_;rintro e w2 ⟨rfl,rfl⟩;refine hK.out _ _ (hHeld) (fun hHeld=>?_);clear hK K
    try simp only [Act.put,List.setIfInBounds_toArray,List.set_cons_zero,List.set_cons_succ]
    refine wpAnyH_take (i:=9) (oi:=⟨some 22,_,_,_,_,none⟩) (v:=?v9q) rfl (by kernel_rfl) (by kernel_rfl) (by kernel_rfl) (fun _ _ _ h=>h) (Or.inl ⟨by rfl,?h9q⟩) (by assumption) ?r9q
    case h9q=>(intro w hSw;(try dsimp only at hSw);go_simp;try with_reducible rfl)
    try simp only [Act.put,List.setIfInBounds_toArray,List.set_cons_zero,List.set_cons_succ]
    refine wpAnyH_take (i:=10) (oi:=⟨some 23,_,_,_,_,some (9,true)⟩) (v:=?v10q) rfl (by kernel_rfl) (by kernel_rfl) (by kernel_rfl) (fun _ _ _ h=>h) (Or.inl ⟨by rfl,?h10q⟩) (by assumption) ?r10q
    case h10q=>(intro w hSw;(try dsimp only at hSw);go_simp;try with_reducible rfl)
    try simp only [Act.put,List.setIfInBounds_toArray,List.set_cons_zero,List.set_cons_succ]
    refine wpAnyH_take (i:=11) (oi:=⟨some 24,_,_,_,_,some (9,true)⟩) (v:=?v11q) rfl (by kernel_rfl) (by kernel_rfl) (by kernel_rfl) (fun _ _ _ h=>h) (Or.inl ⟨by rfl,?h11q⟩) (by assumption) ?r11q
    case h11q=>(intro w hSw;(try dsimp only at hSw);go_simp;try with_reducible rfl)
    try simp only [Act.put,List.setIfInBounds_toArray,List.set_cons_zero,List.set_cons_succ]
    refine wpAnyH_take (i:=12) (oi:=⟨some 25,_,_,_,_,some (9,true)⟩) (v:=?v12q) rfl (by kernel_rfl) (by kernel_rfl) (by kernel_rfl) (fun _ _ _ h=>h) (Or.inl ⟨by rfl,?h12q⟩) (by assumption) ?r12q
    case h12q=>(intro w hSw;(try dsimp only at hSw);go_simp;try with_reducible rfl)
    try simp only [Act.put,List.setIfInBounds_toArray,List.set_cons_zero,List.set_cons_succ]
    refine wpAnyH_take (i:=13) (oi:=⟨some 26,_,_,_,_,some (9,true)⟩) (v:=?v13q) rfl (by kernel_rfl) (by kernel_rfl) (by kernel_rfl) (fun _ _ _ h=>h) (Or.inl ⟨by rfl,?h13q⟩) (by assumption) ?r13q
    case h13q=>(intro w hSw;(try dsimp only at hSw);go_simp;try with_reducible rfl)
    try simp only [Act.put,List.setIfInBounds_toArray,List.set_cons_zero,List.set_cons_succ]
    refine wpAnyH_take (i:=14) (oi:=⟨some 27,_,_,_,_,some (9,true)⟩) (v:=?v14q) rfl (by kernel_rfl) (by kernel_rfl) (by kernel_rfl) (fun _ _ _ h=>h) (Or.inl ⟨by rfl,?h14q⟩) (by assumption) ?r14q
    case h14q=>(intro w hSw;(try dsimp only at hSw);go_simp;try with_reducible rfl)
    try simp only [Act.put,List.setIfInBounds_toArray,List.set_cons_zero,List.set_cons_succ]
    refine wpAnyH_take (i:=15) (oi:=⟨some 28,_,_,_,_,some (9,true)⟩) (v:=?v15q) rfl (by kernel_rfl) (by kernel_rfl) (by kernel_rfl) (fun _ _ _ h=>h) (Or.inl ⟨by rfl,?h15q⟩) (by assumption) ?r15q
    case h15q=>(intro w hSw;(try dsimp only at hSw);go_simp;try with_reducible rfl)
    try simp only [Act.put,List.setIfInBounds_toArray,List.set_cons_zero,List.set_cons_succ]
    refine wpAnyH_take (i:=16) (oi:=⟨some 29,_,_,_,_,some (9,true)⟩) (v:=?v16q) rfl (by kernel_rfl) (by kernel_rfl) (by kernel_rfl) (fun _ _ _ h=>h) (Or.inl ⟨by rfl,?h16q⟩) (by assumption) ?r16q
    case h16q=>(intro w hSw;(try dsimp only at hSw);go_simp;try with_reducible rfl)
    try simp only [Act.put,List.setIfInBounds_toArray,List.set_cons_zero,List.set_cons_succ]
    refine wpAnyH_take (i:=17) (oi:=⟨some 30,_,_,_,_,some (9,true)⟩) (v:=?v17q) rfl (by kernel_rfl) (by kernel_rfl) (by kernel_rfl) (fun _ _ _ h=>h) (Or.inl ⟨by rfl,?h17q⟩) (by assumption) ?r17q
    case h17q=>(intro w hSw;(try dsimp only at hSw);go_simp;try with_reducible rfl)
    try simp only [Act.put,List.setIfInBounds_toArray,List.set_cons_zero,List.set_cons_succ]
    refine wpAnyH_take (i:=18) (oi:=⟨some 31,_,_,_,_,some (9,true)⟩) (v:=?v18q) rfl (by kernel_rfl) (by kernel_rfl) (by kernel_rfl) (fun _ _ _ h=>h) (Or.inl ⟨by rfl,?h18q⟩) (by assumption) ?r18q
    case h18q=>(intro w hSw;(try dsimp only at hSw);go_simp;try with_reducible rfl)
    try simp only [Act.put,List.setIfInBounds_toArray,List.set_cons_zero,List.set_cons_succ]
    refine wpAnyH_take (i:=19) (oi:=⟨some 32,_,_,_,_,some (9,true)⟩) (v:=?v19q) rfl (by kernel_rfl) (by kernel_rfl) (by kernel_rfl) (fun _ _ _ h=>h) (Or.inl ⟨by rfl,?h19q⟩) (by assumption) ?r19q
    case h19q=>(intro w hSw;(try dsimp only at hSw);go_simp;try with_reducible rfl)
    try simp only [Act.put,List.setIfInBounds_toArray,List.set_cons_zero,List.set_cons_succ]
    refine wpAnyH_ready (rs:=[20]) (by kernel_rfl) (by simp) ?_;refine AllReadyH.cons (o:=⟨some 33,_,_,_,_,some (9,true)⟩) rfl (fun K hK=>?_) AllReadyH.nil;rw [if_pos (by kernel_rfl)]
    go_simp
    refine (HSM.out _ kd).mono ?_;rintro e w5 ⟨rfl,k5⟩;refine hK.out _ _ (HCX.out _ (kd.trans k5)) (fun hHeld=>?_);clear hK K
    try simp only [Act.put,List.setIfInBounds_toArray,List.set_cons_zero,List.set_cons_succ]
    refine wpAnyH_take (i:=21) (oi:=⟨some 34,_,_,_,_,none⟩) (v:=?v21q) rfl (by kernel_rfl) (by kernel_rfl) (by kernel_rfl) (fun _ _ _ h=>h) (Or.inl ⟨by rfl,?h21q⟩) (by assumption) ?r21q
    case h21q=>(intro w hSw;(try dsimp only at hSw);go_simp;try with_reducible rfl)
    try simp only [Act.put,List.setIfInBounds_toArray,List.set_cons_zero,List.set_cons_succ]
    refine wpAnyH_take (i:=22) (oi:=⟨some 4,_,_,_,_,none⟩) (v:=?v22q) rfl (by kernel_rfl) (by kernel_rfl) (by kernel_rfl) (fun _ _ _ h=>h) (Or.inl ⟨by rfl,?h22q⟩) (by assumption) ?r22q
    case h22q=>(intro w hSw;(try dsimp only at hSw);go_simp;try with_reducible rfl)
    try simp only [Act.put,List.setIfInBounds_toArray,List.set_cons_zero,List.set_cons_succ]
    refine wpAnyH_done (by kernel_rfl) ?_ _;refine NoPanic.normal ?_;go_wp2_with fail;go_ret;exact ⟨ret_bool HR2.out.symm,(HKA.out.trans kd).trans k5⟩
 ·have hs':(xs != 0)=true:=by simpa using hs
  have HR2:=hid (show R=false from by rw [HR.out,decide_eq_false hs];rfl);clear d0 d1 d2 d3;go_wp2_with fail;go_ret;exact ⟨ret_bool HR2.out.symm,HKA.out⟩
def preI (x:Ln):List Int:=if x.r=3 then [x.f,x.s] else if x.r=4 then [x.f] else []
theorem premisesLn_any (x:Ln) (p:Option Addr) (n c:Nat) (w:World):Calls Tryz.prog 59 #[.agg #[.int .i64 x.r,.int .i64 x.f,.int .i64 x.s,.slice p n c]] w (RetI w (preI x)):=by
 obtain ⟨xr,xf,xs,xa⟩:=x;have kA:=(Keeps.refl w).alloc (.cells #[.int .i64 xr,.int .i64 xf,.int .i64 xs,.slice p n c] 72)
 by_cases r3:xr=3
 ·subst r3
  go_enter Tryz.func59,Tryz.ntmps59;go_wp2_with fail;go_ret;exact ⟨_,rfl,(OwnI.lit2N _ _ _ _ (by simp)).mono kA.size,kA.alloc _⟩
 ·by_cases r4:xr=4
  ·subst r4
   go_enter Tryz.func59,Tryz.ntmps59;go_wp2_with fail;go_ret;exact ⟨_,rfl,(OwnI.lit1N _ _ _ (by simp)).mono kA.size,kA.alloc _⟩
  ·have z3:(xr==3)=false:=by simpa using r3
   have z4:(xr==4)=false:=by simpa using r4
   have hp:preI ⟨xr,xf,xs,xa⟩=[]:=by unfold preI;rw [if_neg r3,if_neg r4]
   rw [hp];clear r3 r4 hp;go_enter Tryz.func59,Tryz.ntmps59;go_wp2_with fail;go_ret;exact ⟨_,rfl,OwnI.nil _ _,kA⟩
theorem run_append_zero {P:Program} (w:World) (t ty e:TypeId) (i:TypeInfo) (ht:P.underlying t=some (.slice e)) (hi:P.info? e=some i) (base:Option Addr) (n cap:Nat) (h:n≤cap) (ad:Addr) (c:Nat):
  (Builtin.append_ #[t,t] ty #[.slice base n cap,.slice (some ad) 0 c]).run P w=.ok (.slice base n cap) w:=by
 cases base<;>simp [Builtin.append_,run_underlying ht,sizeOf,typeInfo,hi,Builtin.lenOf,Builtin.firstCells,h,storeCells,loadCells,loadCellsFrom]
theorem appZLK {w:World} {o:Oper} {a:Act} {K:Act→World→Prop} {Q:Exit→Act→World→Prop} (s x:Operand)
  (ho:o.op=.call { callee:=.builtin .append,args:=#[s,x],argTypes:=#[28,28] }) (base:Nat) (v:Value) (xs:List Int) (hs:a.eval s=v) (hown:OwnI w base v xs)
  (u:Value) (ys:List Int) (hx:a.eval x=u) (hu:Ints w u ys) (hbase:base≤w.heap.size) (hlen:xs.length+ys.length≤1000000)
  (h:∀ v' w',OwnI w' base v' (xs++ys)→w.grownBy w' v.ownBlock→(∀ k,v.ownBlock=some k→base≤k)→(∀ k,v'.ownBlock=some k→v.ownBlock=some k∨w.heap.size≤k)→K (a.put o.dst v') w'):o.wp Tryz.prog a w K Q:=by
 obtain ⟨i0,hi,hz0,hz1,hz2⟩:=info_parts infoI;obtain ⟨p,cap,rfl,_,_,hat,_⟩:=hu
 cases p with
 | some ad=>
  by_cases hy:ys=[]
  ·subst hy
   obtain ⟨p',cap',hv,hnc,_,_⟩:=At.of_own hown;have hr:=run_append_zero (P:=Tryz.prog) w 28 o.type _ i0 Tryz.underlying28 hi p' xs.length cap' hnc ad cap;unfold Oper.wp execOp;simp only [ho,resolve,invoke,builtin,Sem.run_bind,Sem.run_pure,Result.andThen_ok,List.map_toArray,List.map_cons,List.map_nil,hs,hx,hv,List.length_nil,hr];rw [←hv];exact h _ _ (by simpa using hown) ⟨rfl,rfl,rfl,Nat.le_refl _,fun _ _ _=>rfl⟩ (fun k e=>(World.ownsRow.lt hown k e).1) (fun k e=>.inl e)
  have hyp:0<ys.length:=List.length_pos_iff.2 hy;refine wp_append_lies w s x _ ho base _ i0 _ 1 8 Tryz.underlying28 hi hz0 hz1 hz2 rfl (by decide) v _ _ hs hown ad ys.length cap (intCells ys) hx (by simp [intCells]) ?_ (intCells_one ys) (by omega) (by unfold maxLen;omega) (by omega) hbase _ rfl ?_
  ·intro j u hj
   obtain ⟨hj2,rfl⟩:=List.getElem?_eq_some_iff.1 hj;obtain ⟨b,off,e,hc⟩:=hat j hj2
   cases e
   have hadd:(⟨b,off,none⟩:Addr).add j=⟨b,off+j,none⟩:=by unfold Addr.add;split<;>simp_all
   rw [hadd];exact hc
  ·intro g c' w' h2 h3 h4 h5
   refine h _ w' ?_ h3 (fun k e=>(World.ownsRow.lt hown k e).1) (fun k e=>?_)
   ·unfold OwnI
    rw [List.length_append,show intCells (xs++ys)=intCells xs++intCells ys by simp [intCells]];exact h2
   ·have:k=g:=by simpa [Value.ownBlock] using e.symm
    subst this
    rcases h4 with h4 | h4
    ·exact .inl h4
    ·exact .inr (by omega)
 | none=>
  have hn:ys=[]:=by
   cases ys with
   | nil=>rfl
   | cons y r=>obtain ⟨b,off,hp,_⟩:=hat 0 (by simp [intCells]);cases hp
  subst hn;obtain ⟨p',cap',hv,hnc,_,_⟩:=At.of_own hown;have hr:=run_append_none (P:=Tryz.prog) w 28 o.type _ i0 Tryz.underlying28 hi p' xs.length cap' hnc cap;unfold Oper.wp execOp;simp only [ho,resolve,invoke,builtin,Sem.run_bind,Sem.run_pure,Result.andThen_ok,List.map_toArray,List.map_cons,List.map_nil,hs,hx,hv,List.length_nil,hr];rw [←hv];exact h _ _ (by simpa using hown) ⟨rfl,rfl,rfl,Nat.le_refl _,fun _ _ _=>rfl⟩ (fun k e=>(World.ownsRow.lt hown k e).1) (fun k e=>.inl e)
theorem appZL {w:World} {ops:Array Oper} {rest:List Oper} {o:Oper} {a:Act} {Q:Exit→Act→World→Prop} (hgd:o.guard=none) (s x:Operand)
  (ho:o.op=.call { callee:=.builtin .append,args:=#[s,x],argTypes:=#[28,28] }) (base:Nat) (v:Value) (xs:List Int) (hs:a.eval s=v) (hown:OwnI w base v xs)
  (u:Value) (ys:List Int) (hx:a.eval x=u) (hu:Ints w u ys) (hbase:base≤w.heap.size) (hlen:xs.length+ys.length≤1000000)
  (h:∀ v' w',OwnI w' base v' (xs++ys)→w.grownBy w' v.ownBlock→(∀ k,v.ownBlock=some k→base≤k)→(∀ k,v'.ownBlock=some k→v.ownBlock=some k∨w.heap.size≤k)→wpList Tryz.prog ops Q rest (a.put o.dst v') w'):wpList Tryz.prog ops Q (o::rest) a w:=
 wpList_plain hgd fun _ hK=>appZLK s x ho base v xs hs hown u ys hx hu hbase hlen fun v' w' h1 h2 h3 h4=>hK _ _ (h v' w' h1 h2 h3 h4)
theorem OwnLI.set {w:World} {B r i:Nat} {v x:Value} {xs:List (List Nat)} {T:TypeId} {cs:List Value} (h:OwnLI w B v xs) (hb:BoxG w r T cs) (t1:T≠28) (t2:T≠2):OwnLI (w.setCell ⟨r,i,none⟩ x) B v xs:=by
 obtain ⟨vs,ho,hr⟩:=h;exact ⟨vs,own_boxed ho hb t1,hr.1,fun j h1 h2=>own_boxed (hr.2 j h1 h2) hb t2⟩
theorem noteBox {w w':World} {r B:Nat} {cs:List Value} {v:Value} {us:List (List Nat)} (h:BoxG w r 60 cs) (ho:OwnLI w B v us) (g:w.grownBy w' v.ownBlock):BoxG w' r 60 cs:=by
 obtain ⟨vs,ho,_⟩:=ho;exact h.other ho (by decide) g
def PreOk (us:List (List Nat)) (x:Ln):Prop:=(x.r=3→(0≤x.f∧x.f<us.length)∧(0≤x.s∧x.s<us.length))∧(x.r=4→0≤x.f∧x.f<us.length)∧(x.r=2→0≤x.f)
def gatI (us:List (List Nat)) (x:Ln):List Nat:=(if x.r=2 then [x.f.toNat] else [])++(preI x).flatMap (getI [] us)
theorem gat_use (us:List (List Nat)) (x:Ln):sortC (gatI us x)=useO us x:=by
 unfold gatI preI useO
 by_cases r2:x.r=2
 ·rw [if_pos r2,if_pos r2,if_neg (by omega),if_neg (by omega)];rfl
 ·rw [if_neg r2,if_neg r2]
  by_cases r3:x.r=3
  ·rw [if_pos r3,if_pos r3];simp
  ·rw [if_neg r3,if_neg r3]
   by_cases r4:x.r=4
   ·rw [if_pos r4,if_pos r4];simp
   ·rw [if_neg r4,if_neg r4];rfl
theorem preI_len (x:Ln):(preI x).length≤2:=by
 unfold preI
 repeat' split
 all_goals simp
theorem preI_ok {us:List (List Nat)} {x:Ln} (h:PreOk us x):∀ y∈preI x,0≤y∧y<us.length:=by
 intro y hy;unfold preI at hy
 split at hy
 ·rename_i e
  simp only [List.mem_cons,List.not_mem_nil,or_false] at hy
  rcases hy with rfl | rfl
  ·exact (h.1 e).1
  ·exact (h.1 e).2
 ·split at hy
  ·rename_i e
   rw [List.mem_singleton.1 hy];exact h.2.1 e
  ·simp at hy
theorem gat_take {us:List (List Nat)} {l:List Int} (j:Nat) (hj:j<l.length):(l.take (j+1)).flatMap (getI [] us)=(l.take j).flatMap (getI [] us)++getI [] us l[j]:=by
 rw [List.take_succ_eq_append_getElem hj,List.flatMap_append];simp
theorem gat_le (us:List (List Nat)) (l:List Int) (j:Nat):((l.take j).flatMap (getI [] us)).length≤(l.flatMap (getI [] us)).length:=by
 have:l.flatMap (getI [] us)=(l.take j).flatMap (getI [] us)++(l.drop j).flatMap (getI [] us):=by rw [←List.flatMap_append,List.take_append_drop]
 rw [this,List.length_append];omega
theorem sortU_any (l:List Int) (u:Value) (B:Nat) (w:World) (ho:OwnI w B u l) (hl:l.length≤12):Calls Tryz.prog 121 #[u] w fun e w'=>e=.returned (.tuple #[])∧∃ ys,OutSt l ys l.length∧OwnI w' B u ys∧w.grownBy w' u.ownBlock:=by
 by_cases h0:l=[]
 ·subst h0
  obtain ⟨p,c,e,_⟩:=At.of_own ho;simp only [List.length_nil] at e;subst e;refine (sortZ_nil p c w).mono ?_;rintro e w' ⟨rfl,rfl⟩;exact ⟨rfl,[],⟨List.Perm.refl _,by simp⟩,ho,grown_refl _ _⟩
 ·obtain ⟨g,cap,e,_⟩:=ho.shape (List.length_pos_iff.2 h0)
  subst e;exact sortZ_any l g cap B w ho (List.length_pos_iff.2 h0) hl
theorem compactU_any (l:List Int) (u:Value) (B:Nat) (w:World) (ho:OwnI w B u l) (hl:l.length≤12):Calls Tryz.prog 122 #[u] w fun e w'=>∃ u',e=.returned u'∧OwnI w' B u' (ddI l)∧w.grownBy w' u.ownBlock:=by
 by_cases h0:l=[]
 ·subst h0
  obtain ⟨p,c,e,_⟩:=At.of_own ho;simp only [List.length_nil] at e;subst e;refine (compactZ_nil p c w).mono ?_;rintro e w' ⟨rfl,rfl⟩;exact ⟨_,rfl,ho,grown_refl _ _⟩
 ·obtain ⟨g,cap,e,_⟩:=ho.shape (List.length_pos_iff.2 h0)
  subst e;refine (compactZ_any l g cap B w ho (by omega)).mono ?_;rintro e w' ⟨rfl,h1,h2⟩;exact ⟨_,rfl,h1,h2⟩
theorem note_any (r L:Nat) (hv lv uv:Value) (us:List (List Nat)) (x:Ln) (p:Option Addr) (n c:Nat) (w0 w:World) (k0:Keeps w0 w) (hb:BoxG w r 60 [.string (syS L),hv,lv,uv]) (hr:w0.heap.size≤r) (hu:OwnLI w w0.heap.size uv us) (hul:us.length≤1000)
  (hp:PreOk us x) (hg:(gatI us x).length≤12):
  Calls Tryz.prog 88 #[.pointer (some ⟨r,0,none⟩),.agg #[.int .i64 x.r,.int .i64 x.f,.int .i64 x.s,.slice p n c]] w fun e w'=>e=.returned (.tuple #[])∧∃ uv',BoxG w' r 60 [.string (syS L),hv,lv,uv']∧OwnLI w' w0.heap.size uv' (us++[useO us x])∧Keeps w0 w':=by
 have HPO:=hid (preI_ok hp);have HPR:=hid (fun wz=>premisesLn_any x p n c wz);have hgu:=gat_use us x;obtain ⟨xr,xf,xs,xa⟩:=x;have kA:=(Keeps.refl w).alloc (.cells #[.int .i64 xr,.int .i64 xf,.int .i64 xs,.slice p n c] 72)
 have b0:(w.alloc (.cells #[.int .i64 xr,.int .i64 xf,.int .i64 xs,.slice p n c] 72)).cell? ⟨w.heap.size,0,none⟩=some (.int .i64 xr):=by simp
 have b1:(w.alloc (.cells #[.int .i64 xr,.int .i64 xf,.int .i64 xs,.slice p n c] 72)).cell? ⟨w.heap.size,1,none⟩=some (.int .i64 xf):=by simp
 have b2:(w.alloc (.cells #[.int .i64 xr,.int .i64 xf,.int .i64 xs,.slice p n c] 72)).cell? ⟨w.heap.size,2,none⟩=some (.int .i64 xs):=by simp
 have b3:(w.alloc (.cells #[.int .i64 xr,.int .i64 xf,.int .i64 xs,.slice p n c] 72)).cell? ⟨w.heap.size,3,none⟩=some (.slice p n c):=by simp
 have HB:=hid (fun wz (kz:Keeps w wz)=>hb.keeps kz);have HU:=hid (fun wz (kz:Keeps w wz)=>hu.keeps kz);have HP2:=hid hp.2.2;have HGU:=hid hgu;have HGL:=hid hg;clear hb hu hp hgu hg;go_enter Tryz.func88,Tryz.ntmps88
 go_upto_region 1 with fail
 have HKA:=hid kA;clear kA;generalize w.alloc (.cells #[.int .i64 xr,.int .i64 xf,.int .i64 xs,.slice p n c] 72)=wA at*
 go_upto_if 9 with fail
 go_cut [4] (fun u wx=>∃ pu nu cu,u=.slice pu nu cu∧OwnI wx w.heap.size (.slice pu nu cu) (zs (if xr=2 then [xf.toNat] else []))∧Keeps wA wx)
 case first=>
  by_cases r2:xr=2
  ·subst r2
   have hxf:0≤xf:=HP2.out rfl;have HZ:=hid (show zs (if (2:Int)=2 then [xf.toNat] else [])=[]++[xf] from by rw [if_pos rfl];simp [zs,Int.toNat_of_nonneg hxf])
   go_wp2_with (at_builtin;refine appI rfl _ _ rfl w.heap.size _ [] rfl (OwnI.nil _ _) _ [xf] rfl (Ints.lit1 wA xf) (by have:=HKA.out.size;simp;omega) (by simp) ?_;intro v1 w1 hv1 hg1 hr1;have k2:=((Keeps.refl wA).alloc (.cells #[.int .i64 xf] 2)).grown hg1 (fun k e=>absurd e (by first | (simp [Value.ownBlock];done) | (intro e;cases e))))
   go_meet
   rw [HZ.out];obtain ⟨p1,c1,rfl,_⟩:=At.of_own hv1;exact ⟨_,_,_,rfl,hv1,k2⟩
  ·have z2:(xr==2)=false:=by simpa using r2
   have HZ:=hid (show zs (if xr=2 then [xf.toNat] else [])=[] from by rw [if_neg r2];rfl);clear r2;go_wp2_with fail
   go_meet
   rw [HZ.out];exact ⟨none,0,0,rfl,OwnI.nil _ _,Keeps.refl _⟩
 case rest=>
  obtain ⟨pu1,nu1,cu1,rfl,hU,kc⟩:=hcut;have KC:=hid (HKA.out.trans kc)
  replace b0:=kc.cell b0
  replace b1:=kc.cell b1
  replace b2:=kc.cell b2
  replace b3:=kc.cell b3
  clear kc
  obtain ⟨l0,hl0⟩:∃ l0,l0=if xr=2 then [xf.toNat] else []:=⟨_,rfl⟩
  rw [←hl0] at hU
  have hgat:gatI us ⟨xr,xf,xs,xa⟩=l0++(preI ⟨xr,xf,xs,xa⟩).flatMap (getI [] us):=by rw [hl0];rfl
  rw [hgat] at HGL HGU;have HG12:=hid (show l0.length≤12 from by have:=HGL.out;rw [List.length_append] at this;omega);have hP2:(preI ⟨xr,xf,xs,xa⟩).length≤2:=preI_len _;have HGT:=hid (fun j=>gat_le us (preI ⟨xr,xf,xs,xa⟩) j);have HGS:=hid (fun j hj=>gat_take (us:=us) (l:=preI ⟨xr,xf,xs,xa⟩) j hj);clear hl0 hgat HP2;generalize preI ⟨xr,xf,xs,xa⟩=P at*;go_wp2_with fail;refine (HPR.out wc).mono ?_;rintro e w3 ⟨pv,rfl,hpv,k3⟩;obtain ⟨pp,cpp,rfl,hpi,hpm,-,-⟩:=hpv.ints (by omega);unfold maxLen at hpm;have K3:=hid (KC.out.trans k3);have hU3:=hU.keeps k3
  have hap:∀ j,(Value.slice pu1 nu1 cu1).ownBlock=some j→(Value.slice pp P.length cpp).ownBlock≠some j:=fun j e1 e2=>by
   have h1:=(hU.len j e1).2;have h2:=(hpv.len j e2).1;omega
  clear hU k3 HPR KC b0 b1 b2 b3;go_wp2_with fail
  go_loopw [4,18] (fun u i' wr=>∃ i:Nat,i≤P.length∧i'=.int .i64 i∧OwnI wr w.heap.size u (zs (l0++(P.take i).flatMap (getI [] us)))∧OwnI wr wc.heap.size (.slice pp P.length cpp) P∧(∀ j,u.ownBlock=some j→(Value.slice pp P.length cpp).ownBlock≠some j)∧Keeps w wr) (fun _ i' _=>P.length-(intOf i').toNat)
  case atStart=>exact ⟨0,by omega,rfl,by simpa using hU3,hpv,hap,K3.out⟩
  case round=>
   obtain ⟨i,hi,rfl,hU,hPP,hAP,kw⟩:=hrel;clear hU3 hap hpv
   by_cases hlt:i<P.length
   ·have hlt':(i:Int)<P.length:=by omega
    have K:=hid kw;obtain ⟨_,_,e1,_,_,hat,_⟩:=hPP.ints (by omega)
    cases e1
    obtain ⟨b1,o1,rfl,hc⟩:=hat.int i hlt;obtain ⟨y0,y1⟩:=HPO.out P[i] (List.getElem_mem hlt);obtain ⟨jy,hjy⟩:=Int.eq_ofNat_of_zero_le y0
    have hjl:jy<us.length:=by omega
    have c3:=(HB.out wr K.out).cell 3 (by simp);simp only [List.getElem_cons_succ,List.getElem_cons_zero] at c3;obtain ⟨pu0,cu0,euv,_,_⟩:=(HU.out wr K.out).shape;have hget:=(HU.out wr K.out);rw [euv] at hget c3;obtain ⟨bu,ou,uu,epu,gu,hou⟩:=hget.get jy hjl;subst epu
    have hgj:getI [] us P[i]=us[jy]:=by
     rw [hjy];unfold getI;rw [Int.toNat_natCast,List.getD_eq_getElem?_getD,List.getElem?_eq_getElem hjl];rfl
    have HS2:=hid (show zs (l0++(P.take (i+1)).flatMap (getI [] us))=zs (l0++(P.take i).flatMap (getI [] us))++zs us[jy] from by rw [HGS.out i hlt,hgj];simp [zs])
    have hln:(l0++(P.take i).flatMap (getI [] us)).length+us[jy].length≤12:=by
     have h1:=HGT.out (i+1);rw [HGS.out i hlt,hgj] at h1;have h2:=HGL.out;simp only [List.length_append] at h1 h2 ⊢;omega
    rw [hjy] at hc
    have hjl':((jy:Nat):Int)<us.length:=by omega
    have hz1:(zs us[jy]).length=us[jy].length:=by simp [zs]
    have hz2:(zs (l0++(P.take i).flatMap (getI [] us))).length=(l0++(P.take i).flatMap (getI [] us)).length:=by simp only [zs,List.length_map]
    have hoi:=hou.ints (by omega);obtain ⟨pq,cq,rfl,_⟩:=hou.ints (by omega);rw [hz1] at hoi gu;have HOI:=hid hoi;have HWS:=hid (Nat.le_trans K.out.size (Nat.le_refl _));clear hget hou hoi y0 y1 hgj hjy euv;generalize us[jy]=Y at*;generalize (l0++(P.take i).flatMap (getI [] us))=X at*
    go_wp2_with (at_builtin;refine appZL rfl _ _ rfl w.heap.size _ (zs X) rfl hU _ (zs Y) rfl HOI.out HWS.out (by omega) ?_;intro v1 w1 hv1 hg1 hr1 hn1;have k2:=kw.grown hg1 hr1;have hP2':=hPP.touch (Touch.grown hg1) (fun j e1 e2=>hAP j e2.symm e1);have hA2:∀ j,v1.ownBlock=some j→(Value.slice _ P.length cpp).ownBlock≠some j:=fun j e1 e2=>(hn1 j e1).elim (fun e=>hAP j e e2) (fun e=>by have:=(hPP.len j e2).2;omega))
    go_roundw
    case rel=>exact ⟨i+1,by omega,by go_num,by rw [HS2.out];exact hv1,hP2',hA2,k2⟩
    case measure=>simp [intOf];omega
   ·obtain rfl:i=P.length:=by omega
    rw [List.take_length] at hU
    have hlt':¬((P.length:Nat):Int)<P.length:=by omega
    have hzl:(zs (l0++P.flatMap (getI [] us))).length≤12:=by have:=HGL.out;simpa [zs] using this
    have HSO:=hid (sortU_any _ _ _ wr hU hzl);obtain ⟨pu,cu,rfl,_⟩:=At.of_own hU;have KW:=hid kw;have hub:=hU.len;clear hU hPP hAP kw
    have HDD:=hid (fun ys (h:OutSt (zs (l0++P.flatMap (getI [] us))) ys (zs (l0++P.flatMap (getI [] us))).length)=>(show ddI ys=zs (useO us ⟨xr,xf,xs,xa⟩) from by
     have hs:=h.2;rw [List.take_of_length_le (by have:=h.1.length_eq;omega)] at hs;rw [←HGU.out]
     exact dd_sortC h.1 hs))
    generalize zs (l0++P.flatMap (getI [] us))=X at*;go_wp2_with fail;refine HSO.out.mono ?_;rintro e w5 ⟨rfl,ys,hys,hO5,g5⟩;have hyl:=hys.1.length_eq;have K5:=hid (KW.out.grown g5 (fun j e=>(hub j e).1));have hd:=HDD.out ys hys;have HCO:=hid (fun wz (kz:Keeps w5 wz)=>compactU_any ys _ w.heap.size wz (hO5.keeps kz) (by omega));rw [hd] at HCO;have hub5:=hO5.len;have c3:=(HB.out w5 K5.out).cell 3 (by simp);simp only [List.getElem_cons_succ,List.getElem_cons_zero] at c3;have c3d:w5.drew.cell? ⟨r,3,none⟩=some uv:=c3;have kd:=(Keeps.refl w5).drew;have HUB:=hid hub5;have HW0:=hid (k0.size);have H0:=hid k0
    have huo:us.length≤2147483647:=by omega
    clear HSO hys hO5 g5 hyl hd hub hub5 HDD HGU HGT HGS HPO HGL k0
    obtain ⟨Y,hY⟩:∃ Y,Y=useO us ⟨xr,xf,xs,xa⟩:=⟨_,rfl⟩
    rw [←hY] at HCO;have HY:=hid hY;clear hY;go_wp2_with fail
    go_region_law (first
     | (go_simp;go_at_call 122;refine (HCO.out _ kd).mono ?_;rintro e w6 ⟨u',rfl,hO6,g6⟩;obtain ⟨pu',nu',cu',rfl⟩:∃ p n c,u'=.slice p n c:=(by obtain ⟨p,c,e,_⟩:=At.of_own hO6;exact ⟨p,_,c,e⟩);have K6:Keeps w w6:=(K5.out.trans kd).grown g6 (fun j e=>(HUB.out j e).1);have c6:=(HB.out w6 K6).cell 3 (by simp);simp only [List.getElem_cons_succ,List.getElem_cons_zero] at c6;have c6a:=((Keeps.refl w6).alloc (.cells #[.slice pu' nu' cu'] 28)).cell c6)
     | (refine stepLI rfl (.tmp 38) (.tmp 41) rfl w0.heap.size _ us rfl w6 (HU.out w6 K6) ((Keeps.refl w6).alloc _) _ Y ((hO6.keeps ((Keeps.refl w6).alloc _)).mono HW0.out) (Nat.le_trans HW0.out (K6.trans ((Keeps.refl w6).alloc _)).size) _ 1 rfl (At.lit1 _ _ _) huo ?_;intro v7 w7 hv7 hg7 hr7;obtain ⟨p7,n7,q7,rfl⟩:∃ p n c,v7=.slice p n c:=(by obtain ⟨p,c,e,_⟩:=hv7.shape;exact ⟨p,_,c,e⟩);have BX:=noteBox ((HB.out w6 K6).keeps ((Keeps.refl w6).alloc _)) ((HU.out w6 K6).keeps ((Keeps.refl w6).alloc _)) hg7;have c7:=BX.cell 3 (by simp);simp only [List.getElem_cons_succ,List.getElem_cons_zero] at c7;have f7:=BX.froz 3;have K7:Keeps w0 w7:=(H0.out.trans (K6.trans ((Keeps.refl w6).alloc _))).grown hg7 hr7))
    all_goals
     go_wp2_with fail
     go_end0
     rw [←HY.out];refine ⟨rfl,_,?_,hv7.set BX (by decide) (by decide),K7.setCell hr _⟩;have h:=BX.set 3 (.slice p7 n7 q7)
     simpa using h
end Go.Proofs.YtbccmdfdclomiaaGreatDoor
