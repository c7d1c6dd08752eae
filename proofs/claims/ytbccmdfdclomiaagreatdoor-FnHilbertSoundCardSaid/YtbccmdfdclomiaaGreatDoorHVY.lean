import Derived.Test.YtbccmdfdclomiaaGreatDoorHVR
/- own -/
namespace Go.Proofs.YtbccmdfdclomiaaGreatDoor
set_option maxRecDepth 20000
set_option maxHeartbeats 2000000
open Go.RowKit
theorem tries_2_way (n:Nat) (ih:ProvesOk n) (G:List Fm) (c x y b:Fm) (hG:OkL G) (hc:OkF c) (hm:Fm.imp (Fm.imp x y) b∈G) (hn:wts G+wt c≤n) (hl:wts G+wt c≤50000000) (p:Option Addr) (k q:Nat) (s tx:ByteArray) (d m b1 b2:Nat) (w:World)
  (hv:Left w (.slice p k q) G) (htx:bts tx=(Fm.imp (Fm.imp x y) b).body) (hs:bts s=c.body) (hd:Dec w d m) (hb:S3 w b1 b2 d (.slice p k q) s):
  Calls Tryz.prog 246 #[.string tx,.pointer (some ⟨b1,0,none⟩),.pointer (some ⟨b2,0,none⟩)] w (Says w d m (triesF G c (Fm.imp (Fm.imp x y) b))):=by
 have hOk:=hG _ hm;obtain ⟨hoxy,hob⟩:=OkF.imp hOk;obtain ⟨hox,hoy⟩:=OkF.imp hoxy;have hoyb:=OkF.mkImp hoy hob;have hwm:=wts_mem hm;have hlen:=len_le_wt (Fm.imp (Fm.imp x y) b);have hii:=(wt_impimp x y b).2;have hib:=wt_imp (Fm.imp x y) b;have hwc:=wt_ge c
 have hlxy:(Fm.imp x y).enc.length≤50000000:=by simp only [Fm.enc,List.length_cons,List.length_append] at hlen ⊢;omega
 have hlb:b.enc.length≤50000000:=by simp only [Fm.enc,List.length_cons,List.length_append] at hlen ⊢;omega
 have hlyb:(Fm.imp y b).enc.length≤50000000:=by simp only [Fm.enc,List.length_cons,List.length_append] at hlen ⊢;omega
 have hlyb2:y.enc.length+b.enc.length≤1000000000:=by simp only [Fm.enc,List.length_cons,List.length_append] at hlyb;omega
 have hsz:tx.size≤2147483648:=by
  have:=body_len (Fm.imp (Fm.imp x y) b);rw [←bts_len,htx];omega
 have hway:=triesF_way (c:=c) hm (K:=Fm.imp y b::G.filter (fun a=>!decide (a=Fm.imp (Fm.imp x y) b))) (L:=b::G.filter (fun a=>!decide (a=Fm.imp (Fm.imp x y) b))) (fun a=>by simp) (fun a=>by simp);rw [hway];have HI:=hid (fun (T:List Fm) (u:Value) (w2:World) (kw:Turns m w w2) (hu:Left w2 u T) (hT:OkL T) (hl2:wts T≤50000000)=>instead_any G T _ tx htx hm p k q s u w2 (hv.turns kw) hu hG hT (by omega));have HT:=hid (treeOf_any _ hOk.1 tx w htx hsz (by omega))
 have HP1:=hid (fun (R:List Fm) (hR:∀ a,a∈R↔a∈[Fm.imp y b]∨a∈G.filter (fun a=>!decide (a=Fm.imp (Fm.imp x y) b))) (hw:wts R+wt (Fm.imp (Fm.imp x y) b)≤wts G+wts [Fm.imp y b])=>by
  have h1:wts R+wt (Fm.imp x y)<wts G+wt c:=by simp only [wts] at hw;omega
  have h2:=ih R (Fm.imp x y) (okL_instead hG (okL_one hoyb) hR) hoxy (by omega) (by omega);rw [sqB_congr (sq_same (fun a=>(hR a).trans (by simp):∀ a,a∈R↔a∈Fm.imp y b::G.filter (fun a=>!decide (a=Fm.imp (Fm.imp x y) b))))] at h2
  exact h2)
 have HP2:=hid (fun (R:List Fm) (hR:∀ a,a∈R↔a∈[b]∨a∈G.filter (fun a=>!decide (a=Fm.imp (Fm.imp x y) b))) (hw:wts R+wt (Fm.imp (Fm.imp x y) b)≤wts G+wts [b])=>by
  have h1:wts R+wt c<wts G+wt c:=by simp only [wts] at hw;omega
  have h2:=ih R c (okL_instead hG (okL_one hob) hR) hc (by omega) (by omega);rw [sqB_congr (sq_same (fun a=>(hR a).trans (by simp):∀ a,a∈R↔a∈b::G.filter (fun a=>!decide (a=Fm.imp (Fm.imp x y) b))))] at h2
  exact h2)
 have hT1:wts [Fm.imp y b]≤50000000:=by simp only [wts];omega
 have hT2:wts [b]≤50000000:=by simp only [wts];omega
 have hw1:(Fm.imp y b).wf:=hoyb.1;have hw2:(Fm.imp x y).wf:=hoxy.1;have hw3:b.wf:=hob.1
 have hlenT:(Fm.imp (Fm.imp x y) b).enc.length≤2147483648:=by omega
 have HD:=hid hd;have HS:=hid hs;clear hway hv htx hsz hd hs hlen hii hib hwc hwm hm hn hl;generalize sqB (Fm.imp y b::G.filter (fun a=>!decide (a=Fm.imp (Fm.imp x y) b))) (Fm.imp x y)=r1 at*;generalize sqB (b::G.filter (fun a=>!decide (a=Fm.imp (Fm.imp x y) b))) c=r2 at*;go_enter Tryz.func246,Tryz.ntmps246;go_wp2_with fail;refine HT.out.mono ?_;rintro e w1 ⟨vt,rfl,hvt,k1⟩;have hnt:Nds w1 vt (Fm.imp (Fm.imp x y) b).enc:=hvt.nds hlenT;obtain ⟨bt,ot,nt,ct,rfl,h0,h1,h2,h3,hk,_⟩:=hnt.root
 replace hk:w1.cell? ⟨bt,ot,none⟩=some (.int .i64 4):=hk
 have HNT:=hid hnt;clear hnt hvt;go_wp2_with fail;refine (first_any _ _ (Fm.imp x y) b.enc _ _ HNT.out rfl).mono ?_;rintro e w' ⟨v1,rfl,hv1,rfl⟩;obtain ⟨bx,ox,nx,cx,rfl,g0,g1,g2,g3,gk,_⟩:=hv1.root
 replace gk:w1.cell? ⟨bx,ox,none⟩=some (.int .i64 4):=gk
 have HV1:=hid hv1;clear hv1;go_wp2_with fail;refine (first_any _ _ (Fm.imp x y) b.enc _ _ HNT.out rfl).mono ?_;rintro e w' ⟨v1',rfl,hv1',rfl⟩;obtain ⟨px,nx',cx',rfl⟩:=hv1'.shape;have HV1':=hid hv1';clear hv1';go_wp2_with fail;refine (second_any _ _ (Fm.imp x y) b _ _ HNT.out rfl).mono ?_;rintro e w' ⟨v2,rfl,hv2,rfl⟩;obtain ⟨py,ny,cy,rfl⟩:=hv2.shape;have HV2:=hid hv2;clear hv2;have hb1:=hb.keeps k1;have tw:=Turns.ofKeeps (m:=m) k1;have HSe:=hid (second_any _ _ x y _ _ (HV1'.out.keeps ((Keeps.refl w1).drew)) rfl);have HL:=hid (fun v (h1:Nds w1.drew v y.enc)=>(NdsL.lit2 (Nds.undrew h1) HV2.out).keeps (Keeps.refl _).drew);have hg1:=hid (fun o=>S3.drew (S3.alloc hb1 o));go_wp2_with fail;have k0:=Keeps.refl w1
 cases r1 with
 | true=>
  go_region_held3 (fun w'=>w'.cell? ⟨b1,0,none⟩=some (.pointer (some ⟨d,0,none⟩))∧w'.cell? ⟨b2,0,none⟩=some (.slice p k q)∧w'.cell? ⟨b2,1,none⟩=some (.string s)) (first | exact hb1 | exact hg1.out _ | exact hb2 | exact hb3 | exact hb3.alloc _ | exact hb4 | exact hb5 | exact hb6 | exact hb7 | exact hb8 | exact hb8.alloc _ | exact hb9 | exact hb10) (first
   | (go_at_call 70;refine HSe.out.mono ?_;rintro e w' ⟨v3,rfl,hv3,rfl⟩;obtain ⟨p3,n3,c3,rfl⟩:=hv3.shape)
   | (go_at_call 247;refine (arrow_two y.enc b.enc _ _ (HL.out _ hv3) hlyb2).mono ?_;rintro e w2 ⟨v4,rfl,hv4,k2⟩;have hn4:Nds w2 v4 (Fm.imp y b).enc:=hv4.nds (Nat.le_trans hlyb (by omega));have hb2:=(hg1.out _).keeps k2;have kk2:=(k0.alloc _).drew.trans k2;have tw2:=tw.keep kk2)
   | (go_at_call 94;first
     | ((with_reducible refine (text_any (Fm.imp y b) hw1 (Nat.le_trans hlyb (by omega)) _ _ hn4).mono ?_);rintro e w3 ⟨sb,rfl,hsb,k3⟩;have hb3:=hb2.keeps k3;have tw3:=tw2.keep k3)
     | ((with_reducible refine (text_any (Fm.imp x y) hw2 (Nat.le_trans hlxy (by omega)) _ w4 (HV1'.out.keeps (((kk2.trans k3).alloc _).trans k4))).mono ?_);rintro e w5 ⟨s5,rfl,hs5,k5⟩;have hb5:=hb4.keeps k5;have tw5:=tw4.keep k5)
     | ((with_reducible refine (text_any b hw3 (Nat.le_trans hlb (by omega)) _ w7 ((HV2.out.keeps ((((kk2.trans k3).alloc _).trans k4).trans k5 |>.trans k6)).turns t7)).mono ?_);rintro e w8 ⟨s8,rfl,hs8,k8⟩;have hb8:=hb7.keeps k8;have tw8:=tw7.keep k8))
   | (go_at_call 242;first
     | ((with_reducible refine (HI.out [Fm.imp y b] _ _ (tw3.alloc _) (Left.lit1 w3 hsb) (okL_one hoyb) hT1).mono ?_);rintro e w4 ⟨p4,n4,c4,R,rfl,hR,hmem,hwR,k4⟩;have hb4:=(hb3.alloc _).keeps k4;have tw4:=(tw3.alloc _).keep k4)
     | ((with_reducible refine (HI.out [b] _ _ (tw8.alloc _) (Left.lit1 w8 hs8) (okL_one hob) hT2).mono ?_);rintro e w9 ⟨p9,n9,c9,R2,rfl,hR2,hmem2,hwR2,k9⟩;have hb9:=(hb8.alloc _).keeps k9;have tw9:=(tw8.alloc _).keep k9))
   | (go_at_call 225;refine (proving_any p4 n4 c4 s s5 w5).mono ?_;rintro e w6 ⟨rfl,k6⟩;have hb6:=hb5.keeps k6;have tw6:=tw5.keep k6)
   | (go_at_call 158;first
     | ((with_reducible refine (HP1.out R hmem hwR p4 n4 c4 s5 d m w6 ((hR.keeps k5).keeps k6) hs5 (HD.out.keeps (k1.trans ((((kk2.trans k3).alloc _).trans k4).trans k5 |>.trans k6)))).mono ?_);rintro e w7 ⟨rfl,t7,hd7⟩;have hb7:=hb6.turns t7;have tw7:=tw6.trans t7)
     | ((with_reducible refine (HP2.out R2 hmem2 hwR2 p9 n9 c9 s d m w9 hR2 HS.out (hd7.keeps ((k8.alloc _).trans k9))).mono ?_);rintro e w10 ⟨rfl,t10,hd10⟩;have hb10:=hb9.turns t10;have tw10:=tw9.trans t10)))
  all_goals
   go_wp2;go_ret;exact ⟨by simp,tw10,hd10⟩
 | false=>
  refine wp_region_noPanic ?_;refine wp_region_held_drew (S:=(fun w'=>w'.cell? ⟨b1,0,none⟩=some (.pointer (some ⟨d,0,none⟩))∧w'.cell? ⟨b2,0,none⟩=some (.slice p k q)∧w'.cell? ⟨b2,1,none⟩=some (.string s))) (by kernel_rfl) hb1 (fun hHeld=>?_);refine wpAnyH_take (i:=0) (oi:=⟨some 27,_,_,_,_,none⟩) (v:=?v0) rfl (by kernel_rfl) (by kernel_rfl) (by kernel_rfl) (fun _ _ _ h=>h) (Or.inl ⟨by rfl,?h0⟩) (by assumption) ?r0
  case h0=>(intro w hSw;(try dsimp only at hSw);go_simp;try with_reducible rfl)
  try simp only [Act.put,List.setIfInBounds_toArray,List.set_cons_zero,List.set_cons_succ]
  refine wpAnyH_take (i:=1) (oi:=⟨some 28,_,_,_,_,none⟩) (v:=?v1) rfl (by kernel_rfl) (by kernel_rfl) (by kernel_rfl) (fun _ _ _ h=>h) (Or.inl ⟨by rfl,?h1⟩) (by assumption) ?r1
  case h1=>(intro w hSw;(try dsimp only at hSw);go_simp;try with_reducible rfl)
  try simp only [Act.put,List.setIfInBounds_toArray,List.set_cons_zero,List.set_cons_succ]
  refine wpAnyH_take (i:=2) (oi:=⟨some 29,_,_,_,_,none⟩) (v:=?v2) rfl (by kernel_rfl) (by kernel_rfl) (by kernel_rfl) (fun _ _ _ h=>h) (Or.inl ⟨by rfl,?h2⟩) (by assumption) ?r2
  case h2=>(intro w hSw;(try dsimp only at hSw);go_simp;try with_reducible rfl)
  try simp only [Act.put,List.setIfInBounds_toArray,List.set_cons_zero,List.set_cons_succ]
  refine wpAnyH_take (i:=3) (oi:=⟨some 30,_,_,_,_,none⟩) (v:=?v3) rfl (by kernel_rfl) (by kernel_rfl) (by kernel_rfl) (fun _ _ _ h=>h) (Or.inl ⟨by rfl,?h3⟩) (by assumption) ?r3
  case h3=>(intro w hSw;(try dsimp only at hSw);go_simp;try with_reducible rfl)
  try simp only [Act.put,List.setIfInBounds_toArray,List.set_cons_zero,List.set_cons_succ]
  refine wpAnyH_take (i:=5) (oi:=⟨some 32,_,_,_,_,none⟩) (v:=?v5) rfl (by kernel_rfl) (by kernel_rfl) (by kernel_rfl) (fun _ _ _ h=>h) (Or.inl ⟨by rfl,?h5⟩) (by assumption) ?r5
  case h5=>(intro w hSw;(try dsimp only at hSw);go_simp;try with_reducible rfl)
  try simp only [Act.put,List.setIfInBounds_toArray,List.set_cons_zero,List.set_cons_succ]
  refine wpAnyH_take (i:=11) (oi:=⟨some 38,_,_,_,_,none⟩) (v:=?v11) rfl (by kernel_rfl) (by kernel_rfl) (by kernel_rfl) (fun _ _ _ h=>h) (Or.inl ⟨by rfl,?h11⟩) (by assumption) ?r11
  case h11=>(intro w hSw;(try dsimp only at hSw);go_simp;try with_reducible rfl)
  try simp only [Act.put,List.setIfInBounds_toArray,List.set_cons_zero,List.set_cons_succ]
  refine wpAnyH_ready (rs:=[4]) (by kernel_rfl) (by simp) ?_;refine AllReadyH.cons (o:=⟨some 31,_,_,_,_,none⟩) rfl (fun K hK=>?_) AllReadyH.nil
  go_simp
  go_at_call 70;refine HSe.out.mono ?_;rintro e w' ⟨v3,rfl,hv3,rfl⟩;obtain ⟨p3,n3,c3,rfl⟩:=hv3.shape
  refine hK.out _ _ (hb1) (fun hHeld=>?_);clear hK K
  try simp only [Act.put,List.setIfInBounds_toArray,List.set_cons_zero,List.set_cons_succ]
  refine wpAnyH_ready (rs:=[6]) (by kernel_rfl) (by simp) ?_;refine AllReadyH.cons (o:=⟨some 33,_,_,_,_,none⟩) rfl (fun K hK=>?_) AllReadyH.nil
  go_simp
  refine hK.out _ _ (hg1.out _) (fun hHeld=>?_);clear hK K
  try simp only [Act.put,List.setIfInBounds_toArray,List.set_cons_zero,List.set_cons_succ]
  refine wpAnyH_ready (rs:=[7]) (by kernel_rfl) (by simp) ?_;refine AllReadyH.cons (o:=⟨some 34,_,_,_,_,none⟩) rfl (fun K hK=>?_) AllReadyH.nil
  go_simp
  go_at_call 247;refine (arrow_two y.enc b.enc _ _ (HL.out _ hv3) hlyb2).mono ?_;rintro e w2 ⟨v4,rfl,hv4,k2⟩;have hn4:Nds w2 v4 (Fm.imp y b).enc:=hv4.nds (Nat.le_trans hlyb (by omega));have hb2:=(hg1.out _).keeps k2;have kk2:=(k0.alloc _).drew.trans k2;have tw2:=tw.keep kk2
  refine hK.out _ _ (hb2) (fun hHeld=>?_);clear hK K
  try simp only [Act.put,List.setIfInBounds_toArray,List.set_cons_zero,List.set_cons_succ]
  refine wpAnyH_ready (rs:=[8]) (by kernel_rfl) (by simp) ?_;refine AllReadyH.cons (o:=⟨some 35,_,_,_,_,none⟩) rfl (fun K hK=>?_) AllReadyH.nil
  go_simp
  go_at_call 94;refine (text_any (Fm.imp y b) hw1 (Nat.le_trans hlyb (by omega)) _ _ hn4).mono ?_;rintro e w3 ⟨sb,rfl,hsb,k3⟩;have hb3:=hb2.keeps k3;have tw3:=tw2.keep k3
  refine hK.out _ _ (hb3) (fun hHeld=>?_);clear hK K
  try simp only [Act.put,List.setIfInBounds_toArray,List.set_cons_zero,List.set_cons_succ]
  refine wpAnyH_ready (rs:=[9]) (by kernel_rfl) (by simp) ?_;refine AllReadyH.cons (o:=⟨some 36,_,_,_,_,none⟩) rfl (fun K hK=>?_) AllReadyH.nil
  go_simp
  refine hK.out _ _ (hb3.alloc _) (fun hHeld=>?_);clear hK K
  try simp only [Act.put,List.setIfInBounds_toArray,List.set_cons_zero,List.set_cons_succ]
  refine wpAnyH_ready (rs:=[10]) (by kernel_rfl) (by simp) ?_;refine AllReadyH.cons (o:=⟨some 37,_,_,_,_,none⟩) rfl (fun K hK=>?_) AllReadyH.nil
  go_simp
  go_at_call 242;refine (HI.out [Fm.imp y b] _ _ (tw3.alloc _) (Left.lit1 w3 hsb) (okL_one hoyb) hT1).mono ?_;rintro e w4 ⟨p4,n4,c4,R,rfl,hR,hmem,hwR,k4⟩;have hb4:=(hb3.alloc _).keeps k4;have tw4:=(tw3.alloc _).keep k4
  refine hK.out _ _ (hb4) (fun hHeld=>?_);clear hK K
  try simp only [Act.put,List.setIfInBounds_toArray,List.set_cons_zero,List.set_cons_succ]
  refine wpAnyH_ready (rs:=[12]) (by kernel_rfl) (by simp) ?_;refine AllReadyH.cons (o:=⟨some 39,_,_,_,_,none⟩) rfl (fun K hK=>?_) AllReadyH.nil
  go_simp
  go_at_call 94;refine (text_any (Fm.imp x y) hw2 (Nat.le_trans hlxy (by omega)) _ w4 (HV1'.out.keeps (((kk2.trans k3).alloc _).trans k4))).mono ?_;rintro e w5 ⟨s5,rfl,hs5,k5⟩;have hb5:=hb4.keeps k5;have tw5:=tw4.keep k5
  refine hK.out _ _ (hb5) (fun hHeld=>?_);clear hK K
  try simp only [Act.put,List.setIfInBounds_toArray,List.set_cons_zero,List.set_cons_succ]
  refine wpAnyH_ready (rs:=[13]) (by kernel_rfl) (by simp) ?_;refine AllReadyH.cons (o:=⟨some 40,_,_,_,_,none⟩) rfl (fun K hK=>?_) AllReadyH.nil
  go_simp
  go_at_call 225;refine (proving_any p4 n4 c4 s s5 w5).mono ?_;rintro e w6 ⟨rfl,k6⟩;have hb6:=hb5.keeps k6;have tw6:=tw5.keep k6
  refine hK.out _ _ (hb6) (fun hHeld=>?_);clear hK K
  try simp only [Act.put,List.setIfInBounds_toArray,List.set_cons_zero,List.set_cons_succ]
  refine wpAnyH_ready (rs:=[14]) (by kernel_rfl) (by simp) ?_;refine AllReadyH.cons (o:=⟨some 41,_,_,_,_,none⟩) rfl (fun K hK=>?_) AllReadyH.nil
  go_simp
  go_at_call 158;refine (HP1.out R hmem hwR p4 n4 c4 s5 d m w6 ((hR.keeps k5).keeps k6) hs5 (HD.out.keeps (k1.trans ((((kk2.trans k3).alloc _).trans k4).trans k5 |>.trans k6)))).mono ?_;rintro e w7 ⟨rfl,t7,hd7⟩;have hb7:=hb6.turns t7;have tw7:=tw6.trans t7
  refine hK.out _ _ (hb7) (fun hHeld=>?_);clear hK K
  try simp only [Act.put,List.setIfInBounds_toArray,List.set_cons_zero,List.set_cons_succ]
  refine wpAnyH_take (i:=15) (oi:=⟨some 42,_,_,_,_,none⟩) (v:=?v15) rfl (by kernel_rfl) (by kernel_rfl) (by kernel_rfl) (fun _ _ _ h=>h) (Or.inl ⟨by rfl,?h15⟩) (by assumption) ?r15
  case h15=>(intro w hSw;(try dsimp only at hSw);go_simp;try with_reducible rfl)
  try simp only [Act.put,List.setIfInBounds_toArray,List.set_cons_zero,List.set_cons_succ]
  refine wpAnyH_take (i:=16) (oi:=⟨some 43,_,_,_,_,some (15,true)⟩) (v:=undef) rfl (by kernel_rfl) (by kernel_rfl) (by kernel_rfl) (fun _ _ _ h=>h) (Or.inr ⟨by rfl,rfl⟩) (by assumption) ?_
  try simp only [Act.put,List.setIfInBounds_toArray,List.set_cons_zero,List.set_cons_succ]
  refine wpAnyH_take (i:=17) (oi:=⟨some 44,_,_,_,_,some (15,true)⟩) (v:=undef) rfl (by kernel_rfl) (by kernel_rfl) (by kernel_rfl) (fun _ _ _ h=>h) (Or.inr ⟨by rfl,rfl⟩) (by assumption) ?_
  try simp only [Act.put,List.setIfInBounds_toArray,List.set_cons_zero,List.set_cons_succ]
  refine wpAnyH_take (i:=18) (oi:=⟨some 45,_,_,_,_,some (15,true)⟩) (v:=undef) rfl (by kernel_rfl) (by kernel_rfl) (by kernel_rfl) (fun _ _ _ h=>h) (Or.inr ⟨by rfl,rfl⟩) (by assumption) ?_
  try simp only [Act.put,List.setIfInBounds_toArray,List.set_cons_zero,List.set_cons_succ]
  refine wpAnyH_take (i:=19) (oi:=⟨some 46,_,_,_,_,some (15,true)⟩) (v:=undef) rfl (by kernel_rfl) (by kernel_rfl) (by kernel_rfl) (fun _ _ _ h=>h) (Or.inr ⟨by rfl,rfl⟩) (by assumption) ?_
  try simp only [Act.put,List.setIfInBounds_toArray,List.set_cons_zero,List.set_cons_succ]
  refine wpAnyH_ready (rs:=[20]) (by kernel_rfl) (by simp) ?_;refine AllReadyH.cons (o:=⟨some 47,_,_,_,_,some (15,true)⟩) rfl (fun K hK=>?_) AllReadyH.nil;rw [if_neg (Bool.eq_false_iff.1 (by kernel_rfl))];refine hK.out _ _ (by assumption) (fun hHeld=>?_);clear hK K
  try simp only [Act.put,List.setIfInBounds_toArray,List.set_cons_zero,List.set_cons_succ]
  refine wpAnyH_ready (rs:=[21]) (by kernel_rfl) (by simp) ?_;refine AllReadyH.cons (o:=⟨some 48,_,_,_,_,some (15,true)⟩) rfl (fun K hK=>?_) AllReadyH.nil;rw [if_neg (Bool.eq_false_iff.1 (by kernel_rfl))];refine hK.out _ _ (by assumption) (fun hHeld=>?_);clear hK K
  try simp only [Act.put,List.setIfInBounds_toArray,List.set_cons_zero,List.set_cons_succ]
  refine wpAnyH_ready (rs:=[22]) (by kernel_rfl) (by simp) ?_;refine AllReadyH.cons (o:=⟨some 49,_,_,_,_,some (15,true)⟩) rfl (fun K hK=>?_) AllReadyH.nil;rw [if_neg (Bool.eq_false_iff.1 (by kernel_rfl))];refine hK.out _ _ (by assumption) (fun hHeld=>?_);clear hK K
  try simp only [Act.put,List.setIfInBounds_toArray,List.set_cons_zero,List.set_cons_succ]
  refine wpAnyH_ready (rs:=[23]) (by kernel_rfl) (by simp) ?_;refine AllReadyH.cons (o:=⟨some 50,_,_,_,_,some (15,true)⟩) rfl (fun K hK=>?_) AllReadyH.nil;rw [if_neg (Bool.eq_false_iff.1 (by kernel_rfl))];refine hK.out _ _ (by assumption) (fun hHeld=>?_);clear hK K
  try simp only [Act.put,List.setIfInBounds_toArray,List.set_cons_zero,List.set_cons_succ]
  refine wpAnyH_take (i:=24) (oi:=⟨some 51,_,_,_,_,none⟩) (v:=?v24) rfl (by kernel_rfl) (by kernel_rfl) (by kernel_rfl) (fun _ _ _ h=>h) (Or.inl ⟨by rfl,?h24⟩) (by assumption) ?r24
  case h24=>(intro w hSw;(try dsimp only at hSw);go_simp;try with_reducible rfl)
  try simp only [Act.put,List.setIfInBounds_toArray,List.set_cons_zero,List.set_cons_succ]
  refine wpAnyH_take (i:=25) (oi:=⟨some 4,_,_,_,_,none⟩) (v:=?v25) rfl (by kernel_rfl) (by kernel_rfl) (by kernel_rfl) (fun _ _ _ h=>h) (Or.inl ⟨by rfl,?h25⟩) (by assumption) ?r25
  case h25=>(intro w hSw;(try dsimp only at hSw);go_simp;try with_reducible rfl)
  try simp only [Act.put,List.setIfInBounds_toArray,List.set_cons_zero,List.set_cons_succ]
  refine wpAnyH_done (by kernel_rfl) ?_ _;refine NoPanic.normal ?_;go_wp2;go_ret;exact ⟨by simp,tw7,hd7⟩
theorem tries_2_any (n:Nat) (ih:ProvesOk n) (G:List Fm) (c t:Fm) (hG:OkL G) (hc:OkF c) (hm:t∈G) (hn:wts G+wt c≤n) (hl:wts G+wt c≤50000000) (p:Option Addr) (k q:Nat) (s tx:ByteArray) (d m b1 b2:Nat) (w:World)
  (hv:Left w (.slice p k q) G) (htx:bts tx=t.body) (hs:bts s=c.body) (hd:Dec w d m) (hb:S3 w b1 b2 d (.slice p k q) s):
  Calls Tryz.prog 246 #[.string tx,.pointer (some ⟨b1,0,none⟩),.pointer (some ⟨b2,0,none⟩)] w (Says w d m (triesF G c t)):=by
 have hOk:=hG _ hm;have hwm:=wts_mem hm;have hlen:=len_le_wt t
 have hsz:tx.size≤2147483648:=by
  have:=body_len t;rw [←bts_len,htx];omega
 have hlenT:t.enc.length≤2147483648:=by omega
 have HT:=hid (treeOf_any _ hOk.1 tx w htx hsz (by omega));have HD:=hid hd
 cases t with
 | var i=>
  rw [triesF_no (fun _ _ _ h=>by cases h)];clear hv htx hs hd hb;go_enter Tryz.func246,Tryz.ntmps246;go_wp2_with fail;refine HT.out.mono ?_;rintro e w1 ⟨vt,rfl,hvt,k1⟩;have hnt:Nds w1 vt (Fm.var i).enc:=hvt.nds hlenT;obtain ⟨bt,ot,nt,ct,rfl,h0,h1,h2,h3,hk,_⟩:=hnt.root
  replace hk:w1.cell? ⟨bt,ot,none⟩=some (.int .i64 0):=hk
  go_wp2_with fail;go_ret;exact ⟨rfl,Turns.ofKeeps k1,HD.out.keeps k1⟩
 | fls=>
  rw [triesF_no (fun _ _ _ h=>by cases h)];clear hv htx hs hd hb;go_enter Tryz.func246,Tryz.ntmps246;go_wp2_with fail;refine HT.out.mono ?_;rintro e w1 ⟨vt,rfl,hvt,k1⟩;have hnt:Nds w1 vt (Fm.fls).enc:=hvt.nds hlenT;obtain ⟨bt,ot,nt,ct,rfl,h0,h1,h2,h3,hk,_⟩:=hnt.root
  replace hk:w1.cell? ⟨bt,ot,none⟩=some (.int .i64 1):=hk
  go_wp2_with fail;go_ret;exact ⟨rfl,Turns.ofKeeps k1,HD.out.keeps k1⟩
 | and a1 a2=>
  rw [triesF_no (fun _ _ _ h=>by cases h)];clear hv htx hs hd hb;go_enter Tryz.func246,Tryz.ntmps246;go_wp2_with fail;refine HT.out.mono ?_;rintro e w1 ⟨vt,rfl,hvt,k1⟩;have hnt:Nds w1 vt (Fm.and a1 a2).enc:=hvt.nds hlenT;obtain ⟨bt,ot,nt,ct,rfl,h0,h1,h2,h3,hk,_⟩:=hnt.root
  replace hk:w1.cell? ⟨bt,ot,none⟩=some (.int .i64 2):=hk
  go_wp2_with fail;go_ret;exact ⟨rfl,Turns.ofKeeps k1,HD.out.keeps k1⟩
 | or a1 a2=>
  rw [triesF_no (fun _ _ _ h=>by cases h)];clear hv htx hs hd hb;go_enter Tryz.func246,Tryz.ntmps246;go_wp2_with fail;refine HT.out.mono ?_;rintro e w1 ⟨vt,rfl,hvt,k1⟩;have hnt:Nds w1 vt (Fm.or a1 a2).enc:=hvt.nds hlenT;obtain ⟨bt,ot,nt,ct,rfl,h0,h1,h2,h3,hk,_⟩:=hnt.root
  replace hk:w1.cell? ⟨bt,ot,none⟩=some (.int .i64 3):=hk
  go_wp2_with fail;go_ret;exact ⟨rfl,Turns.ofKeeps k1,HD.out.keeps k1⟩
 | box a1=>exact absurd hOk.2 (by simp [Fm.plain])
 | dia a1=>exact absurd hOk.2 (by simp [Fm.plain])
 | imp a b=>
  obtain ⟨hoa,hob⟩:=OkF.imp hOk
  cases a with
  | var i=>
   rw [triesF_no (fun _ _ _ h=>by cases h)];clear hv htx hs hd hb;go_enter Tryz.func246,Tryz.ntmps246;go_wp2_with fail;refine HT.out.mono ?_;rintro e w1 ⟨vt,rfl,hvt,k1⟩;have hnt:Nds w1 vt (Fm.imp (Fm.var i) b).enc:=hvt.nds hlenT;obtain ⟨bt,ot,nt,ct,rfl,h0,h1,h2,h3,hk,_⟩:=hnt.root
   replace hk:w1.cell? ⟨bt,ot,none⟩=some (.int .i64 4):=hk
   have HNT:=hid hnt;clear hnt hvt;go_wp2_with fail;refine (first_any _ _ (Fm.var i) b.enc _ _ HNT.out rfl).mono ?_;rintro e w' ⟨v1,rfl,hv1,rfl⟩;obtain ⟨bx,ox,nx,cx,rfl,g0,g1,g2,g3,gk,_⟩:=hv1.root
   replace gk:w1.cell? ⟨bx,ox,none⟩=some (.int .i64 0):=gk
   go_wp2_with fail;go_ret;exact ⟨rfl,Turns.ofKeeps k1,HD.out.keeps k1⟩
  | fls=>
   rw [triesF_no (fun _ _ _ h=>by cases h)];clear hv htx hs hd hb;go_enter Tryz.func246,Tryz.ntmps246;go_wp2_with fail;refine HT.out.mono ?_;rintro e w1 ⟨vt,rfl,hvt,k1⟩;have hnt:Nds w1 vt (Fm.imp (Fm.fls) b).enc:=hvt.nds hlenT;obtain ⟨bt,ot,nt,ct,rfl,h0,h1,h2,h3,hk,_⟩:=hnt.root
   replace hk:w1.cell? ⟨bt,ot,none⟩=some (.int .i64 4):=hk
   have HNT:=hid hnt;clear hnt hvt;go_wp2_with fail;refine (first_any _ _ (Fm.fls) b.enc _ _ HNT.out rfl).mono ?_;rintro e w' ⟨v1,rfl,hv1,rfl⟩;obtain ⟨bx,ox,nx,cx,rfl,g0,g1,g2,g3,gk,_⟩:=hv1.root
   replace gk:w1.cell? ⟨bx,ox,none⟩=some (.int .i64 1):=gk
   go_wp2_with fail;go_ret;exact ⟨rfl,Turns.ofKeeps k1,HD.out.keeps k1⟩
  | and a1 a2=>
   rw [triesF_no (fun _ _ _ h=>by cases h)];clear hv htx hs hd hb;go_enter Tryz.func246,Tryz.ntmps246;go_wp2_with fail;refine HT.out.mono ?_;rintro e w1 ⟨vt,rfl,hvt,k1⟩;have hnt:Nds w1 vt (Fm.imp (Fm.and a1 a2) b).enc:=hvt.nds hlenT;obtain ⟨bt,ot,nt,ct,rfl,h0,h1,h2,h3,hk,_⟩:=hnt.root
   replace hk:w1.cell? ⟨bt,ot,none⟩=some (.int .i64 4):=hk
   have HNT:=hid hnt;clear hnt hvt;go_wp2_with fail;refine (first_any _ _ (Fm.and a1 a2) b.enc _ _ HNT.out rfl).mono ?_;rintro e w' ⟨v1,rfl,hv1,rfl⟩;obtain ⟨bx,ox,nx,cx,rfl,g0,g1,g2,g3,gk,_⟩:=hv1.root
   replace gk:w1.cell? ⟨bx,ox,none⟩=some (.int .i64 2):=gk
   go_wp2_with fail;go_ret;exact ⟨rfl,Turns.ofKeeps k1,HD.out.keeps k1⟩
  | or a1 a2=>
   rw [triesF_no (fun _ _ _ h=>by cases h)];clear hv htx hs hd hb;go_enter Tryz.func246,Tryz.ntmps246;go_wp2_with fail;refine HT.out.mono ?_;rintro e w1 ⟨vt,rfl,hvt,k1⟩;have hnt:Nds w1 vt (Fm.imp (Fm.or a1 a2) b).enc:=hvt.nds hlenT;obtain ⟨bt,ot,nt,ct,rfl,h0,h1,h2,h3,hk,_⟩:=hnt.root
   replace hk:w1.cell? ⟨bt,ot,none⟩=some (.int .i64 4):=hk
   have HNT:=hid hnt;clear hnt hvt;go_wp2_with fail;refine (first_any _ _ (Fm.or a1 a2) b.enc _ _ HNT.out rfl).mono ?_;rintro e w' ⟨v1,rfl,hv1,rfl⟩;obtain ⟨bx,ox,nx,cx,rfl,g0,g1,g2,g3,gk,_⟩:=hv1.root
   replace gk:w1.cell? ⟨bx,ox,none⟩=some (.int .i64 3):=gk
   go_wp2_with fail;go_ret;exact ⟨rfl,Turns.ofKeeps k1,HD.out.keeps k1⟩
  | box a1=>exact absurd hoa.2 (by simp [Fm.plain])
  | dia a1=>exact absurd hoa.2 (by simp [Fm.plain])
  | imp x y=>exact tries_2_way n ih G c x y b hG hc hm hn hl p k q s tx d m b1 b2 w hv htx hs hd hb
theorem tries_law {G:List Fm} {c:Fm} (hF:Final G) (hc:(∃ p,c=Fm.var p∧Fm.var p∉G)∨c=Fm.fls∨(∃ d e,c=Fm.or d e)):Sq G c↔(∃ d e,c=Fm.or d e∧(Sq G d∨Sq G e))∨(∃ x y b,Fm.imp (Fm.imp x y) b∈G∧Way G c x y b):=by
 constructor
 ·exact final_complete hF hc
 ·rintro (⟨d,e,rfl,h⟩ | ⟨x,y,b,hm,h⟩)
  ·exact sq_orR h
  ·exact way_sound hm h
open Classical in
theorem any_tries {G:List Fm} {c:Fm}:(G.any (triesF G c)=true)↔∃ x y b,Fm.imp (Fm.imp x y) b∈G∧Way G c x y b:=by
 rw [List.any_eq_true];constructor
 ·rintro ⟨t,ht,h⟩
  obtain ⟨x,y,b,rfl,hw⟩:=of_decide_eq_true h;exact ⟨x,y,b,ht,hw⟩
 ·rintro ⟨x,y,b,hm,hw⟩
  exact ⟨_,hm,decide_eq_true ⟨x,y,b,rfl,hw⟩⟩
theorem tries_no {G:List Fm} {c:Fm} (hF:Final G) (hc:(∃ p,c=Fm.var p∧Fm.var p∉G)∨c=Fm.fls∨(∃ d e,c=Fm.or d e)) (h:∀ d e,c=Fm.or d e→sqB G d=false∧sqB G e=false):G.any (triesF G c)=sqB G c:=by
 rw [Bool.eq_iff_iff,any_tries,sqB_iff,tries_law hF hc];constructor
 ·exact fun h=>.inr h
 ·rintro (⟨d,e,rfl,h1⟩ | h1)
  ·obtain ⟨h2,h3⟩:=h d e rfl
   rcases h1 with h1 | h1
   ·rw [sqB_true h1] at h2;cases h2
   ·rw [sqB_true h1] at h3;cases h3
  ·exact h1
theorem tries_any (n:Nat) (ih:ProvesOk n) (G:List Fm) (c:Fm) (hG:OkL G) (hc:OkF c) (hn:wts G+wt c≤n) (hl:wts G+wt c≤50000000) (hF:Final G) (hf:(∃ p,c=Fm.var p∧Fm.var p∉G)∨c=Fm.fls∨(∃ d e,c=Fm.or d e))
  (p:Option Addr) (k q:Nat) (s:ByteArray) (vc:Value) (d m:Nat) (w:World) (hv:Left w (.slice p k q) G) (hs:bts s=c.body) (hvc:Nds w vc c.enc) (hd:Dec w d m):
  Calls Tryz.prog 228 #[.pointer (some ⟨d,0,none⟩),.agg #[.slice p k q,.string s],vc] w (Says w d m (sqB G c)):=by
 obtain ⟨bc,oc,nc,cc,rfl,g0,g1,g2,g3,gk,_⟩:=hvc.root;have kA:=((Keeps.refl w).alloc (.cells #[.pointer (some ⟨d,0,none⟩)] 147)).alloc (.cells #[.slice p k q,.string s] 177)
 have hb:S3 ((w.alloc (.cells #[.pointer (some ⟨d,0,none⟩)] 147)).alloc (.cells #[.slice p k q,.string s] 177)) w.heap.size (w.heap.size+1) d (.slice p k q) s:=
  ⟨by rw [World.cell?_alloc_lt (h:=by simp)];simp,by simp,by simp⟩
 obtain ⟨ss,hss,htx⟩:=hv;have hgk:=kA.cell gk
 have H2:=hid (fun w0 (tw:Turns m w w0) (hd0:Dec w0 d m) (hb0:S3 w0 w.heap.size (w.heap.size+1) d (.slice p k q) s)=>
  containsFuncSI (fun w1=>Turns m w0 w1∧Dec w1 d m) (prT G (triesF G c)) 246 #[.pointer (some ⟨w.heap.size,0,none⟩),.pointer (some ⟨w.heap.size+1,0,none⟩)] ss (.slice p k q) w0
   (fun w1 h=>hss.turns (tw.trans h.1)) ⟨Turns.refl _ _,hd0⟩ enters_tries_2 (fun x w1 hx h=>by
    obtain ⟨t,ht,e⟩:=txts_mem htx x hx;rw [prT_eq hG _ ht e];refine (tries_2_any n ih G c t hG hc ht hn hl p k q s x d m _ _ w1 ⟨ss,hss.turns (tw.trans h.1),htx⟩ e hs h.2 (hb0.turns h.1)).mono ?_;rintro e w2 ⟨rfl,ht,hd2⟩
    exact ⟨rfl,h.1.trans ht,hd2⟩))
 rw [show (ss.any (prT G (triesF G c)))=G.any (triesF G c) from any_prT hG _ htx] at H2;have HPT:=hid (partTexts_any c hc.1 (by have:=len_le_wt c;omega) _ _ (hvc.keeps kA))
 have H1:=hid (fun (x y:Fm) (e:c=Fm.or x y) w0 (kw:Keeps w w0) (u:Value) (tt:List ByteArray) (hu:Strs w0 u tt) (htt:Txts tt [x,y]) (hb0:S3 w0 w.heap.size (w.heap.size+1) d (.slice p k q) s)=>by
  have hoc:OkL [x,y]:=okL_two (OkF.or (e▸hc)).1 (OkF.or (e▸hc)).2;have hwt:=wt_or x y;rw [←e] at hwt
  have h3:=containsFuncSI (fun w1=>Turns m w0 w1∧Dec w1 d m) (prT [x,y] (sqB G)) 245 #[.pointer (some ⟨w.heap.size,0,none⟩),.pointer (some ⟨w.heap.size+1,0,none⟩)] tt u w0
   (fun w1 h=>hu.turns h.1) ⟨Turns.refl _ _,hd.keeps kw⟩ enters_tries_1 (fun z w1 hz h=>by
    obtain ⟨t,ht,e2⟩:=txts_mem htt z hz;rw [prT_eq hoc _ ht e2]
    have hwt2:wt t<wt c:=by
     rcases List.mem_cons.1 ht with rfl | ht
     ·omega
     ·rw [List.mem_singleton.1 ht];omega
    refine (tries_1_any n ih G t hG (hoc t ht) (by omega) (by omega) p k q s z d m _ _ w1 ⟨ss,hss.turns ((Turns.ofKeeps kw).trans h.1),htx⟩ e2 h.2 (hb0.turns h.1)).mono ?_;rintro e w2 ⟨rfl,ht,hd2⟩
    exact ⟨rfl,h.1.trans ht,hd2⟩)
  rw [any_prT hoc _ htt] at h3
  exact h3)
 have hno:=hid (tries_no hF hf);have hlaw:=hid (tries_law hF hf);have HDk:=hid hd;clear hss htx hd hvc hF hs
 cases c with
 | var i=>
  have hno2:=hid (hno.out (fun _ _ h=>by cases h));rw [hno2.out] at H2
  replace gk:=kA.cell (show w.cell? ⟨bc,oc,none⟩=some (.int .i64 0) from gk)
  clear hgk;go_enter Tryz.func228,Tryz.ntmps228;go_wp2_with fail;refine (H2.out _ (Turns.ofKeeps kA) (HDk.out.keeps kA) hb).mono ?_;rintro e w2 ⟨rfl,ht,hd2⟩;go_wp2_with fail;go_ret;exact ⟨rfl,(Turns.ofKeeps kA).trans ht,hd2⟩
 | fls=>
  have hno2:=hid (hno.out (fun _ _ h=>by cases h));rw [hno2.out] at H2
  replace gk:=kA.cell (show w.cell? ⟨bc,oc,none⟩=some (.int .i64 1) from gk)
  clear hgk;go_enter Tryz.func228,Tryz.ntmps228;go_wp2_with fail;refine (H2.out _ (Turns.ofKeeps kA) (HDk.out.keeps kA) hb).mono ?_;rintro e w2 ⟨rfl,ht,hd2⟩;go_wp2_with fail;go_ret;exact ⟨rfl,(Turns.ofKeeps kA).trans ht,hd2⟩
 | or x y=>
  replace gk:=kA.cell (show w.cell? ⟨bc,oc,none⟩=some (.int .i64 3) from gk)
  clear hgk
  cases hr:(sqB G x||sqB G y) with
  | true=>
   have hsq:sqB G (Fm.or x y)=true:=by
    rw [sqB_iff,hlaw.out];rw [Bool.or_eq_true,sqB_iff,sqB_iff] at hr;exact .inl ⟨x,y,rfl,hr⟩
   rw [hsq]
   have hany:[x,y].any (sqB G)=true:=by simpa using hr
   have HA:=hid hany;clear hany hr hsq H2;go_enter Tryz.func228,Tryz.ntmps228;go_wp2_with fail;refine HPT.out.mono ?_;rintro e w2 ⟨u,tt,rfl,hu,htt,k2⟩;have hu2:=hu.strs (by rw [htt.length];simp [partsL]);obtain ⟨pu,cu,rfl,_⟩:=hu2.at;have hb2:=hb.keeps k2;go_wp2_with fail;refine (H1.out x y rfl w2 (kA.trans k2) _ tt hu2 htt hb2).mono ?_;rintro e w3 ⟨rfl,ht,hd3⟩;rw [HA.out];go_wp2_with fail;go_ret;exact ⟨rfl,(Turns.ofKeeps (kA.trans k2)).trans ht,hd3⟩
  | false=>
   have hr2:sqB G x=false∧sqB G y=false:=by simpa using hr
   have hno2:=hid (hno.out (fun d' e' h=>by cases h;exact hr2));rw [hno2.out] at H2
   have hany:[x,y].any (sqB G)=false:=by simpa using hr
   have HA:=hid hany;clear hany hr hr2;go_enter Tryz.func228,Tryz.ntmps228;go_wp2_with fail;refine HPT.out.mono ?_;rintro e w2 ⟨u,tt,rfl,hu,htt,k2⟩;have hu2:=hu.strs (by rw [htt.length];simp [partsL]);obtain ⟨pu,cu,rfl,_⟩:=hu2.at;have hb2:=hb.keeps k2;go_wp2_with fail;refine (H1.out x y rfl w2 (kA.trans k2) _ tt hu2 htt hb2).mono ?_;rintro e w3 ⟨rfl,ht,hd3⟩;rw [HA.out];have hb3:=hb2.turns ht;obtain ⟨e1,e2,e3⟩:=hb3;have tw3:=(Turns.ofKeeps (kA.trans k2)).trans ht;go_wp2_with fail;refine (H2.out w3 tw3 hd3 ⟨e1,e2,e3⟩).mono ?_;rintro e w4 ⟨rfl,ht4,hd4⟩;go_wp2_with fail;go_ret;exact ⟨rfl,tw3.trans ht4,hd4⟩
 | and x y=>rcases hf with ⟨_,h,_⟩ | h | ⟨_,_,h⟩<;>cases h
 | imp x y=>rcases hf with ⟨_,h,_⟩ | h | ⟨_,_,h⟩<;>cases h
 | box x=>rcases hf with ⟨_,h,_⟩ | h | ⟨_,_,h⟩<;>cases h
 | dia x=>rcases hf with ⟨_,h,_⟩ | h | ⟨_,_,h⟩<;>cases h
theorem bts_F:bts ⟨#[70]⟩=Fm.fls.body:=rfl
theorem okF_fls:OkF Fm.fls:=⟨trivial,rfl⟩
open Classical in
theorem containsL_any (G:List Fm) (hG:OkL G) (x:ByteArray) (t:Fm) (hx:bts x=t.body) (ht:OkF t) (v:Value) (w:World) (hv:Left w v G):
  Calls Tryz.prog 166 #[v,.string x] w fun e w'=>e=.returned (.bool (decide (t∈G)))∧w=w':=by
 obtain ⟨ss,h1,h2⟩:=hv;exact containsF_any ss G h2 (fun a ha=>(hG a ha).1) x t hx ht.1 v w h1
theorem decide_quick (G:List Fm) (c:Fm) (hG:OkL G) (hc:OkF c) (h:c∈G∨Fm.fls∈G) (p:Option Addr) (k q:Nat) (s:ByteArray) (d m:Nat) (w:World) (hv:Left w (.slice p k q) G) (hs:bts s=c.body) (hd:Dec w d m):
  Calls Tryz.prog 197 #[.pointer (some ⟨d,0,none⟩),.agg #[.slice p k q,.string s]] w (Says w d m (sqB G c)):=by
 have kA:=(Keeps.refl w).alloc (.cells #[.slice p k q,.string s] 177);have H1:=containsL_any G hG s c hs hc _ _ (hv.keeps kA);have H2:=containsL_any G hG ⟨#[70]⟩ Fm.fls bts_F okF_fls _ _ (hv.keeps kA)
 by_cases h1:c∈G
 ·rw [decide_eq_true h1] at H1
  rw [sqB_true (sq_mem h1)]
  replace H1:=hid H1
  clear hv H2 h;go_enter Tryz.func197,Tryz.ntmps197;go_wp2_with fail;refine H1.out.mono ?_;rintro e w2 ⟨rfl,rfl⟩;go_wp2_with fail;go_ret;exact ⟨rfl,Turns.ofKeeps kA,hd.keeps kA⟩
 ·have h2:Fm.fls∈G:=h.resolve_left h1
  rw [decide_eq_false h1] at H1;rw [decide_eq_true h2] at H2;rw [sqB_true (sq_fls h2)]
  replace H1:=hid H1
  replace H2:=hid H2
  clear hv h;go_enter Tryz.func197,Tryz.ntmps197;go_wp2_with fail;refine H1.out.mono ?_;rintro e w2 ⟨rfl,rfl⟩;go_wp2_with fail;refine H2.out.mono ?_;rintro e w2 ⟨rfl,rfl⟩;go_wp2_with fail;go_ret;exact ⟨rfl,Turns.ofKeeps kA,hd.keeps kA⟩
theorem decide_and (n:Nat) (ih:ProvesOk n) (G:List Fm) (x y:Fm) (hG:OkL G) (hc:OkF (Fm.and x y)) (hn:wts G+wt (Fm.and x y)≤n) (hl:wts G+wt (Fm.and x y)≤50000000) (h1:¬Fm.and x y∈G) (h2:¬Fm.fls∈G)
  (p:Option Addr) (k q:Nat) (s:ByteArray) (d m:Nat) (w:World) (hv:Left w (.slice p k q) G) (hs:bts s=(Fm.and x y).body) (hd:Dec w d m):
  Calls Tryz.prog 197 #[.pointer (some ⟨d,0,none⟩),.agg #[.slice p k q,.string s]] w (Says w d m (sqB G (Fm.and x y))):=by
 have kA:=(Keeps.refl w).alloc (.cells #[.slice p k q,.string s] 177);have H1:=containsL_any G hG s _ hs hc _ _ (hv.keeps kA);have H2:=containsL_any G hG ⟨#[70]⟩ Fm.fls bts_F okF_fls _ _ (hv.keeps kA);rw [decide_eq_false h1] at H1;rw [decide_eq_false h2] at H2
 replace H1:=hid H1
 replace H2:=hid H2
 have pa:(w.alloc (.cells #[.slice p k q,.string s] 177)).cell? ⟨w.heap.size,0,none⟩=some (.slice p k q):=by simp
 have pb':(w.alloc (.cells #[.slice p k q,.string s] 177)).cell? ⟨w.heap.size,1,none⟩=some (.string s):=by simp
 obtain ⟨hox,hoy⟩:=OkF.and hc;have hlen:=len_le_wt (Fm.and x y);have hww:=wt_and x y
 have hsz:s.size≤2147483648:=by
  have:=body_len (Fm.and x y);rw [←bts_len,hs];omega
 have hlenT:(Fm.and x y).enc.length≤2147483648:=by omega
 have HT:=hid (treeOf_any _ hc.1 s (w.alloc (.cells #[.slice p k q,.string s] 177)) hs hsz (by omega));have HPT:=hid (fun vt w2 (hvt:Nds w2 vt (Fm.and x y).enc)=>partTexts_any (Fm.and x y) hc.1 (by omega) vt w2 hvt)
 have hgs:∀ g∈[(G,x),(G,y)],OkL g.1∧OkF g.2∧wts g.1+wt g.2<n∧wts g.1+wt g.2≤50000000:=by
  intro g hg
  rcases List.mem_cons.1 hg with rfl | hg
  ·exact ⟨hG,hox,by simp only;omega,by simp only;omega⟩
  ·rw [List.mem_singleton.1 hg];exact ⟨hG,hoy,by simp only;omega,by simp only;omega⟩
 have hans:(!([(G,x),(G,y)].any fun g=>!sqB g.1 g.2))=sqB G (Fm.and x y):=by
  rw [sqB_congr (H:=G) (d:=Fm.and x y) Iff.rfl,Bool.eq_iff_iff,sqB_iff,sq_and];simp [sqB_iff]
 have HA:=hid (fun v w2 (hg:GoalL w2 v [(G,x),(G,y)]) (hd2:Dec w2 d m)=>all_any n ih _ hgs v d m w2 hg hd2);rw [hans] at HA;have HV:=hid hv;have HD:=hid hd;clear hv hd h1 h2 hgs hans hww hlen hsz hn hl hs;go_enter Tryz.func197,Tryz.ntmps197;go_wp2_with fail;refine H1.out.mono ?_;rintro e w2 ⟨rfl,rfl⟩;go_wp2_with fail;refine H2.out.mono ?_;rintro e w2 ⟨rfl,rfl⟩;go_wp2_with fail;refine HT.out.mono ?_;rintro e w2 ⟨vt,rfl,hvt,k2⟩;have hnt:Nds w2 vt (Fm.and x y).enc:=hvt.nds hlenT;obtain ⟨bt,ot,nt,ct,rfl,g0,g1,g2,g3,hk,_⟩:=hnt.root
 replace hk:w2.cell? ⟨bt,ot,none⟩=some (.int .i64 2):=hk
 have HNT:=hid hnt;clear hnt hvt;go_wp2_with fail;refine (HPT.out _ w2 HNT.out).mono ?_;rintro e w3 ⟨u,ss,rfl,hss,htx,k3⟩
 have hln:ss.length=2:=by rw [htx.length];rfl
 have hst:=hss.strs (by omega);obtain ⟨p2,c2,rfl,hcap,hcm,_,_⟩:=hst.at;obtain ⟨b2,o2,rfl,hc1⟩:=hst.get 0 (by omega);obtain ⟨b3,o3,e,hc2⟩:=hst.get 1 (by omega)
 cases e
 have hs1:bts ss[0]=x.body:=htx.get 0 (by omega) (by simp [partsL]);have hs2:bts ss[1]=y.body:=htx.get 1 (by omega) (by simp [partsL]);unfold maxLen at hcm;rw [hln] at hcap ⊢;rw [Nat.add_zero] at hc1;generalize ss[0]=s1 at*;generalize ss[1]=s2 at*;clear hst hss htx
 replace hk:=k3.cell hk
 have q3:=And.intro (cells_keeps (k2.trans k3) (And.intro pa pb')) (And.intro hc1 hc2);have kw:=kA.trans (k2.trans k3);have qd:=hid (cells4_keeps ((Keeps.refl w3).drew) q3);clear q3;go_wp2_with fail
 go_region_held3 (fun w'=>(w'.cell? ⟨w.heap.size,0,none⟩=some (.slice p k q)∧w'.cell? ⟨w.heap.size,1,none⟩=some (.string s))∧(w'.cell? ⟨b2,o2,none⟩=some (.string s1)∧w'.cell? ⟨b2,o2+1,none⟩=some (.string s2))) (first | exact qd.out | exact q4 | exact q5 | exact cells4_alloc _ q5 | exact q6) (first
  | (go_at_call 225;first
    | ((with_reducible refine (proving_any p k q s s1 w3.drew).mono ?_);rintro e w4 ⟨rfl,k4⟩;have q4:=cells4_keeps k4 qd.out)
    | ((with_reducible refine (proving_any p k q s s2 w4).mono ?_);rintro e w5 ⟨rfl,k5⟩;have q5:=cells4_keeps k5 q4;have kw5:=(kw.drew.trans k4).trans k5))
  | (go_at_call 224;refine (HA.out _ _ (GoalL.lit2 (HV.out.keeps kw5) hs1 (HV.out.keeps kw5) hs2) (HD.out.keeps (kw5.alloc _))).mono ?_;rintro e w6 ⟨rfl,ht,hd6⟩;have q6:=cells4_turns ht (cells4_alloc _ q5)))
 all_goals
  go_wp2;go_ret;exact ⟨rfl,(Turns.ofKeeps (kw5.alloc _)).trans ht,hd6⟩
end Go.Proofs.YtbccmdfdclomiaaGreatDoor
