import Derived.Test.YtbccmdfdclomiaaGreatDoorHAX0
/- own -/
namespace Go.Proofs.YtbccmdfdclomiaaGreatDoor
open Go.RowKit
def DrawnR (B:Nat) (w:World) (e:Ending) (w':World):Prop:=
 ∃ (L:Nat) (hv lv:Value) (G:List Fm) (ls:List Ln),e=.returned (.tuple #[.string (syS L),hv,lv])∧L≤12∧OwnL w' w.heap.size hv (G.map Fm.enc)∧2≤G.length∧G.length≤3∧(∀ t∈G,t.enc.length≤7)∧LnO w' w.heap.size lv ls∧ls.length≤20∧(∀ x∈ls,x.a.length≤300)∧DrL B w.heap.size w w'
def SmG (G:List Fm):Prop:=2≤G.length∧G.length≤3∧∀ t∈G,t.enc.length≤7
set_option maxRecDepth 100000 in
set_option maxHeartbeats 40000000 in
theorem l13Drawn_any (B:Nat) (w:World) (hs:Src w B):Calls Tryz.prog 31 #[.pointer (some ⟨B,0,none⟩)] w (DrawnR B w):=by
 have hB:=hs.lt;have HSY:=hid (l13System_any B w hs);have hs0:=hs;clear hs;go_enter Tryz.func31,Tryz.ntmps31;go_wp2_with fail;refine HSY.out.mono ?_;rintro e w1 ⟨⟨L,hL,rfl⟩,d1⟩;clear HSY;have hsl:=schX_len L
 obtain ⟨nS,hnS⟩:∃ n,n=(schX L).length:=⟨_,rfl⟩
 have HSC:Hid (Calls Tryz.prog 75 #[.string (syS L)] w1 fun e w'=>∃ p c,e=.returned (.slice p nS c)∧OwnI w' w1.heap.size (.slice p nS c) (schX L)∧Keeps w1 w'):=hid (by
  subst hnS
  by_cases h9:L≤9
  ·refine (l13Schemes_any L h9 w1).mono ?_;rintro e w2 ⟨v,rfl,ho,k⟩
   have hx:schX L=schS L:=if_pos h9;obtain ⟨p,c,rfl,_⟩:=At.of_own ho;rw [hx];exact ⟨p,c,rfl,ho,k⟩
  ·refine (l13Schemes_none L (by omega) w1).mono ?_;rintro e w2 ⟨rfl,k⟩
   have hx:schX L=[]:=if_neg h9;rw [hx]
   exact ⟨none,0,rfl,OwnI.nil _ _,k⟩)
 rw [←hnS] at hsl;have hz1:=d1.size;have D1:=hid d1;clear d1;go_wp2_with fail;refine HSC.out.mono ?_;rintro e w2 ⟨ps,cs,rfl,hsc,k2⟩;have hsc0:=hsc.mono (B':=w.heap.size) hz1;have D2:=hid (D1.out.keeps k2);clear HSC D1 k2 hsc hz1;have HSC:=hid hsc0;have HNS:=hid hnS;clear hsc0 hnS;have hE1:=OwnL.empty w2;have hE2:=LnO.empty (w2.alloc (.cells #[] 34));rw [World.size_alloc] at hE2;have kE1:=(Keeps.refl w2).alloc (.cells #[] 34);have kE2:=(Keeps.refl (w2.alloc (.cells #[] 34))).alloc (.cells #[] 72);have hz2:=D2.out.size;have HH:=hid ((hE1.keeps kE2).mono hz2);have HLN:=hid (hE2.mono (B':=w.heap.size) (by omega));have HSC2:=hid (HSC.out.keeps (kE1.trans kE2));have D3:=hid (D2.out.keeps (kE1.trans kE2));have hz2':Hid (w.heap.size≤w2.heap.size):=hid hz2;clear HSC D2 hE1 hE2 kE1 kE2
 go_upto_region 4 with fail
 generalize hm:decide (10<(nS:Int))=m;have HM:=hid hm;clear hm
 go_upto_region 5 with fail
 generalize hwe:(w2.alloc (.cells #[] 34)).alloc (.cells #[] 72)=w3 at*;generalize Value.slice (some ⟨w2.heap.size,0,none⟩) 0 0=hv0 at*;generalize Value.slice (some ⟨w2.heap.size+1,0,none⟩) 0 0=lv0 at*;go_wp2_with fail;refine (l13Small_any B m w3 D3.out.2).mono ?_;rintro e w4 ⟨va,ta,rfl,hva,hla,d4⟩;have hz3:=D3.out.size;have HA4:=hid (hva.mono hz3);have HH4:=hid (HH.out.drA d4 hB);have HLN4:=hid (HLN.out.dr d4 hB);have HSC4:=hid (HSC2.out.dr d4 hB);have D4:=hid (D3.out.trans d4)
 have hla3:ta.enc.length≤3:=by omega
 obtain ⟨pa,na,ca,rfl⟩:=hva.own_shape;clear HH HLN HSC2 D3 hva d4 hla;go_wp2_with fail;refine (l13Small_any B m w4 D4.out.2).mono ?_;rintro e w5 ⟨vb,tb,rfl,hvb,hlb,d5⟩;have HA5:=hid (HA4.out.dr d5 hB);have HH5:=hid (HH4.out.drA d5 hB);have HLN5:=hid (HLN4.out.dr d5 hB);have HSC5:=hid (HSC4.out.dr d5 hB);have D5:=hid (D4.out.trans d5)
 have hlb3:tb.enc.length≤3:=by omega
 obtain ⟨pb,nb,cb,rfl⟩:=hvb.own_shape;have HIM:=hid (l13Imply_any ta.enc tb.enc _ _ w5 (HA5.out.nds (by omega)) (hvb.nds (by omega)) (by omega));clear HH4 HLN4 HSC4 D4 hvb d5 hlb HA4;go_wp2_with fail;refine HIM.out.mono ?_;rintro e w6 ⟨vi,rfl,hvi,k6⟩;obtain ⟨pi,ni,ci,rfl⟩:=hvi.own_shape;have kA:=(Keeps.refl w6).alloc (.cells #[.slice pi ni ci,.slice pa na ca] 34);have hat6:=At.lit2x w6 (.slice pi ni ci) (.slice pa na ca) 34;have HA6:=(HA5.out.keeps k6).keeps kA;have HH6:=(HH5.out.keeps k6).keeps kA;have HLN6:=hid ((HLN5.out.keeps k6).keeps kA);have HSC6:=hid ((HSC5.out.keeps k6).keeps kA);have D6:=hid ((D5.out.keeps k6).keeps kA);have hz5:=D5.out.size;have hvi6:=(hvi.mono hz5).keeps kA
 have hnei:∀ k,(Value.slice pi ni ci).ownBlock=some k→(Value.slice pa na ca).ownBlock≠some k:=fun k e1 e2=>by
  have h1:=(hvi.len k e1).1;have h2:=(HA5.out.len k e2).2;omega
 clear HH5 HLN5 HSC5 D5 HA5 hvi HIM
 go_wp2_with (at_builtin;refine appL2 rfl _ _ rfl w.heap.size _ rfl HH6 _ _ _ _ hvi6 HA6 hnei (by have:=D6.out.size;omega) _ _ rfl hat6 ?_;intro v7 w7 hv7 hg7 hr7)
 have hJ7:DJ B w.heap.size w w7 (.slice ps nS cs) (.slice pa na ca) v7 lv0 L ta [.imp ta tb,ta] []:=
  DJ.hyp (hv:=hv0) (G:=[]) ⟨.dr (.refl _ hs0) D6.out,HSC6.out,HA6,HH6,HLN6.out⟩ (HH6.hyT hg7) hB hv7
 have HG7:=hid (show SmG [.imp ta tb,ta] from ⟨by simp,by simp,fun t ht=>by simp at ht;rcases ht with rfl | rfl;(simp only [Fm.enc,List.length_cons,List.length_append];omega);omega⟩);have HJ7:=hid hJ7;clear hJ7 hv7 hg7 hr7 HH6 HA6 HLN6 HSC6 D6 hvi6 hnei kA hat6 k6 hlb3;go_wp2_with fail;refine (l01Next_any 2 B w7 HJ7.out.t.2 (by omega)).mono ?_;rintro e w8 ⟨r2,rfl,-,d8⟩;have HJ8:=hid (HJ7.out.dr d8 hB);clear HJ7 d8
 go_upto_if 46 with fail
 go_cut [8] from 44 to 52 (fun hv wx=>∃ G,SmG G∧DJ B w.heap.size w wx (.slice ps nS cs) (.slice pa na ca) hv lv0 L ta G [])
 case first=>
  by_cases h0:r2=0
  ·subst h0
   have hJ8:=HJ8.out;have HS:=hid (l13Small_any B m w8 hJ8.t.2);go_wp2_with fail;refine HS.out.mono ?_;rintro e w9 ⟨vc,tc,rfl,hvc,hlc,d9⟩;obtain ⟨pc,nc,cc,rfl⟩:=hvc.own_shape;have kA:=(Keeps.refl w9).alloc (.cells #[.slice pc nc cc] 34);have hat9:=At.lit1x w9 (.slice pc nc cc) 34;have hJ9:=(hJ8.dr d9 hB).keeps kA;have tt:=(d9.keeps kA).1
   go_wp2_with (at_builtin;refine appLA rfl _ _ rfl w.heap.size _ _ rfl w8 B hJ8.hy tt hB _ _ (hvc.keeps kA) hJ8.t.size _ _ rfl hat9 (by simp) ?_;intro va wa hva hga hra)
   go_meet
   have hJa:=hJ9.hyp (hv':=va) (G':=[.imp ta tb,ta,tc]) (hJ9.hy.hyT hga) hB hva
   exact ⟨_,⟨by simp,by simp,fun t ht=>by
    simp only [List.mem_cons,List.not_mem_nil,or_false] at ht
    rcases ht with rfl | rfl | rfl
    ·exact HG7.out.2.2 _ (by simp)
    ·exact HG7.out.2.2 _ (by simp)
    ·omega⟩,hJa⟩
  ·have h0':¬((r2:Nat):Int)=0:=by omega
   clear h0;go_wp2_with fail
   go_meet
   exact ⟨_,HG7.out,HJ8.out⟩
 case rest =>
  obtain ⟨G,hG,hJ⟩:=hcut;generalize wc=wk at*;generalize u8=hv at*;obtain ⟨ph,ch,ehv,hhc,hhm⟩:=hJ.hy.lenA;unfold maxLen at hhm;rw [List.length_map] at hhc ehv;subst ehv;have hg3:G.length≤3:=hG.2.1;have hg2:2≤G.length:=hG.1;have HJ:=hid hJ;have HG:=hid hG;clear hJ hG HJ8 HG7;go_wp2_with fail;refine (l01Next_any 7 B wk HJ.out.t.2 (by omega)).mono ?_;rintro e w9 ⟨r7,rfl,hr7,d9⟩;have HJ9:=hid (HJ.out.dr d9 hB)
  have hr7':r7≤6:=by omega
  clear HJ d9 hr7
  by_cases hn0:nS=0
  ·subst hn0
   go_wp2_with fail
   go_loopw [9,12] (fun lv k' wr=>∃ k:Nat,k'=.int .i64 k∧lv=lv0∧DJ B w.heap.size w wr (.slice ps 0 cs) (.slice pa na ca) (.slice ph G.length ch) lv0 L ta G []) (fun _ k' _=>(intOf k').toNat)
   case atStart=>exact ⟨2+r7,by go_num,rfl,HJ9.out⟩
   case round=>
    obtain ⟨k,rfl,el0,hJ⟩:=hrel;have HJ:=hid hJ;obtain ⟨pl,cl,el,-⟩:=hJ.ln.sh;have el:lv0=.slice pl 0 cl:=el;rw [el] at el0 HJ;subst el0;clear hJ HJ9
    by_cases hk0:k=0
    ·subst hk0
     go_wp2_with fail
     go_ret3
     exact ⟨L,_,_,G,[],rfl,hL,HJ.out.hy,hg2,hg3,HG.out.2.2,HJ.out.ln,by simp,by simp,HJ.out.t⟩
    ·have hk0':(0:Int)<k:=by omega
     clear hk0;go_wp2_with fail
     go_ret3
     exact ⟨L,_,_,G,[],rfl,hL,HJ.out.hy,hg2,hg3,HG.out.2.2,HJ.out.ln,by simp,by simp,HJ.out.t⟩
  have hn0':(0:Int)<nS:=by omega
  clear hn0;go_wp2_with fail
  go_loopw [9,12] (fun lv k' wr=>∃ k:Nat,k'=.int .i64 k∧RdI B w.heap.size w (.slice ps nS cs) (.slice pa na ca) (.slice ph G.length ch) L ta G k lv wr) (fun _ k' _=>(intOf k').toNat)
  case atStart=>exact ⟨2+r7,by go_num,[],HJ9.out,by simp;omega,by simp,fun i h=>by simp at h⟩
  case round =>
   obtain ⟨k,rfl,ls,hJ,hlk,hsm,hwf⟩:=hrel;have HJ:=hid hJ;have HSM:=hid hsm;have HWF:=hid hwf;obtain ⟨pl,cl,rfl,hlc,hlm⟩:=hJ.ln.sh;unfold maxLen at hlm;clear hJ hsm hwf HJ9
   by_cases hk0:k=0
   ·subst hk0
    -- <TAIL>
    have hll:ls.length≤16:=by omega
    have hok:∀ x∈ls,x.a.length≤300:=fun x hx=>by
     obtain ⟨t,e,h⟩:=HSM.out x hx;rw [e];omega
    have HOK:=hid hok;have HEND:=hid (fun (W:World) (v:Value) (ls':List Ln) (hy:OwnL W w.heap.size (.slice ph G.length ch) (G.map Fm.enc)) (h1:LnO W w.heap.size v ls') (h2:ls'.length≤20) (h3:∀ x∈ls',x.a.length≤300) (h4:DrL B w.heap.size w W)=>(show DrawnR B w (.returned (.tuple #[.string (syS L),.slice ph G.length ch,v])) W from ⟨L,_,v,G,ls',rfl,hL,hy,hg2,hg3,HG.out.2.2,h1,h2,h3,h4⟩));clear hok hwe
    by_cases hl0:ls.length=0
    ·have hl0':¬(0:Int)<ls.length:=by omega
     have HF:=hid (HEND.out wr _ ls HJ.out.hy HJ.out.ln (by omega) HOK.out HJ.out.t);clear hl0;go_wp2_with fail
     go_ret3
     exact HF.out
    have hl0':(0:Int)<ls.length:=by omega
    clear hl0;go_wp2_with fail;refine (l01Next_any 5 B wr HJ.out.t.2 (by omega)).mono ?_;rintro e w10 ⟨r5,rfl,-,d10⟩;have HJ10:=hid (HJ.out.dr d10 hB);clear HJ d10
    by_cases h5:r5=0
    rotate_left
    ·have h5':¬((r5:Nat):Int)=0:=by omega
     have HF:=hid (HEND.out w10 _ ls HJ10.out.hy HJ10.out.ln (by omega) HOK.out HJ10.out.t);clear h5;go_wp2_with fail
     go_ret3
     exact HF.out
    subst h5;have HN:=hid (l01Next_any (ls.length:Int) B w10 HJ10.out.t.2 (by omega));go_wp2_with fail;refine HN.out.mono ?_;rintro e w11 ⟨q,rfl,hq,d11⟩
    have hql:q<ls.length:=by omega
    have hql':(q:Int)<ls.length:=by omega
    have HJ11:=hid (HJ10.out.dr d11 hB);clear HN HJ10 d11 hq;go_wp2_with fail;refine (l01Next_any 5 B w11 HJ11.out.t.2 (by omega)).mono ?_;rintro e w12 ⟨r12,rfl,hr12,d12⟩;have HJ12:=hid (HJ11.out.dr d12 hB);clear HJ11 d12;obtain ⟨gl,q0,m0,c0,epl,-,-,-⟩:=HJ12.out.ln.get q hql;subst epl
    have hh:r12=0∨r12=1∨r12=2∨r12=3∨r12=4:=by omega
    clear hr12
    have HW:=hid (fun (W:World) (j:DJ B w.heap.size w W (.slice ps nS cs) (.slice pa na ca) (.slice ph G.length ch) (.slice (some ⟨gl,0,none⟩) ls.length cl) L ta G ls) (c:Nat) (hc:c<4) (u:Value) (y:Ln) (hy:∀ cs,LnIn W w.heap.size cs q ls[q]→cs.length=ls.length*4→LnIn W w.heap.size (cs.set (q*4+c) u) q y) (hyl:y.a.length≤300)=>
     (show DrawnR B w (.returned (.tuple #[.string (syS L),.slice ph G.length ch,.slice (some ⟨gl,0,none⟩) ls.length cl])) (W.setCell ⟨gl,q*4+c,none⟩ u) from by
      obtain ⟨s1,s2⟩:=j.ln.cellSet hql hc u y hy;refine HEND.out _ _ _ (j.hy.lnt s2) s1 (by simpa using Nat.le_trans hll (by omega)) (fun x hx=>?_) (j.t.touch s2 (fun i e=>e.1) hB)
      rcases List.mem_or_eq_of_mem_set hx with hx | rfl
      ·exact HOK.out x hx
      ·exact hyl))
    have hxl:=HOK.out _ (List.getElem_mem hql);clear HEND
    rcases hh with rfl | rfl | rfl | rfl | rfl
    ·go_wp2_with fail
     refine (l01Next_any 6 B w12 HJ12.out.t.2 (by omega)).mono ?_;rintro e w13 ⟨r,rfl,hr,d13⟩;have hJ:=HJ12.out.dr d13 hB;obtain ⟨b,q1,m1,c1,eb,hb,⟨z0,z1,z2,z3⟩,ho⟩:=hJ.ln.get q hql
     cases eb
     have f1:=hJ.ln.thaw (q*4+1);have HF:=hid (HW.out w13 hJ 1 (by omega) (.int .i64 ((r:Int)-1)) { ls[q] with f:=(r:Int)-1 } (fun cs h hl=>h.cf hl hql _) hxl);clear hJ ho z0 z2 z3 HW;generalize ls[q]=xq at*;go_wp2_with fail
     go_ret3
     exact HF.out
    ·go_wp2_with fail
     refine (l01Next_any 3 B w12 HJ12.out.t.2 (by omega)).mono ?_;rintro e w13 ⟨r,rfl,hr,d13⟩;have hJ:=HJ12.out.dr d13 hB;obtain ⟨b,q1,m1,c1,eb,hb,⟨z0,z1,z2,z3⟩,ho⟩:=hJ.ln.get q hql
     cases eb
     have f1:=hJ.ln.thaw (q*4+2);have HF:=hid (HW.out w13 hJ 2 (by omega) (.int .i64 (r:Int)) { ls[q] with s:=(r:Int) } (fun cs h hl=>h.csx hl hql _) hxl);clear hJ ho z0 z1 z3 HW;generalize ls[q]=xq at*;go_wp2_with fail
     go_ret3
     exact HF.out
    ·go_wp2_with fail
     refine (l13Small_any B m w12 HJ12.out.t.2).mono ?_;rintro e w13 ⟨v13,t13,rfl,hv13,hl13,d13⟩;have hJ:=HJ12.out.dr d13 hB;obtain ⟨b,q1,m1,c1,eb,hb,⟨z0,z1,z2,z3⟩,ho⟩:=hJ.ln.get q hql
     cases eb
     have f1:=hJ.ln.thaw (q*4+3);have hu:=hv13.mono HJ12.out.t.size;obtain ⟨pv,nv,cv,rfl⟩:=hv13.own_shape;have HF:=hid (HW.out w13 hJ 3 (by omega) (.slice pv nv cv) { ls[q] with a:=t13.enc } (fun cs h hl=>h.ca hl hql _ _ hu) (by simp only;omega));clear hJ ho z0 z1 z2 HW hu hv13;generalize ls[q]=xq at*;go_wp2_with fail
     go_ret3
     exact HF.out
    ·go_wp2_with fail
     refine (l01Next_any 6 B w12 HJ12.out.t.2 (by omega)).mono ?_;rintro e w13 ⟨r,rfl,hr,d13⟩;have hJ:=HJ12.out.dr d13 hB;obtain ⟨b,q1,m1,c1,eb,hb,⟨z0,z1,z2,z3⟩,ho⟩:=hJ.ln.get q hql
     cases eb
     have f1:=hJ.ln.thaw (q*4);have HF:=hid (HW.out w13 hJ 0 (by omega) (.int .i64 (r:Int)) { ls[q] with r:=(r:Int) } (fun cs h hl=>h.cr hl hql _) hxl);clear hJ ho z1 z2 z3 HW;generalize ls[q]=xq at*;rw [Nat.add_zero] at HF;go_wp2_with fail
     go_ret3
     exact HF.out
    ·obtain ⟨b,q1,m1,c1,eb,hb,⟨z0,z1,z2,z3⟩,ho⟩:=HJ12.out.ln.get q hql
     cases eb
     obtain ⟨tq,etq,hlq⟩:=HSM.out _ (List.getElem_mem hql);have hpos:=Fm.enc_pos tq;have HBD:=hid (l02Bend_any B ls[q].a (.slice q1 m1 c1) w12 HJ12.out.t.2 (ho.nds (by omega)) (by rw [etq];exact hpos) (by omega));clear z0 z1 z2 ho hb
     have hlq2:ls[q].a.length≤200:=by rw [etq];exact hlq
     clear etq;go_wp2_with fail;refine HBD.out.mono ?_;rintro e w13 ⟨v13,a13,rfl,hv13,hl13,d13⟩;have hJ:=HJ12.out.dr d13 hB;clear z3 HBD;obtain ⟨b,q1,m1,c1,eb,hb,⟨z0,z1,z2,z3⟩,ho⟩:=hJ.ln.get q hql
     cases eb
     have f1:=hJ.ln.thaw (q*4+3);have hu:=hv13.mono HJ12.out.t.size;obtain ⟨pv,nv,cv,rfl⟩:=hv13.own_shape;have HF:=hid (HW.out w13 hJ 3 (by omega) (.slice pv nv cv) { ls[q] with a:=a13 } (fun cs h hl=>h.ca hl hql _ _ hu) (by simp only;omega));clear hJ ho z0 z1 z2 HW hu hv13 hl13 hlq2 hxl;generalize ls[q]=xq at*;go_wp2_with fail
     go_ret3
     exact HF.out
    -- </TAIL>
   have hk0':(0:Int)<k:=by omega
   clear hk0;go_wp2_with fail;refine (l01Next_any 6 B wr HJ.out.t.2 (by omega)).mono ?_;rintro e w10 ⟨r6,rfl,hr6,d10⟩;have HJ10:=hid (HJ.out.dr d10 hB)
   have h6:r6=0∨r6=1∨(r6=2∨r6=3)∨r6=4∨r6=5:=by omega
   have hsz10:w.heap.size≤w10.heap.size:=HJ10.out.t.size;clear HJ d10 hr6;have HLK:=hid hlk
   have hk1:0<k:=by omega
   rcases h6 with rfl | rfl | h23 | h45
   -- <ARM0>
   ·as_aux_lemma=>
     have HN:=hid (l01Next_any (nS:Int) B w10 HJ10.out.t.2 (by omega));go_wp2_with fail;refine HN.out.mono ?_;rintro e w11 ⟨r,rfl,hr,d11⟩
     have hrl:r<nS:=by omega
     have hrl':(r:Int)<nS:=by omega
     have HJ11:=hid (HJ10.out.dr d11 hB);obtain ⟨gs,cs',es,-,-,-,-⟩:=HJ11.out.sc.shape (by rw [←HNS.out];omega)
     cases es
     obtain ⟨y0,-⟩:=HJ11.out.sc.cell r (by rw [←HNS.out];exact hrl);obtain ⟨kk,ekk,hkk⟩:=schX_get L r (by rw [←HNS.out];exact hrl);rw [ekk] at y0;have hsz11:w.heap.size≤w11.heap.size:=HJ11.out.t.size
     have hB11:B<w11.heap.size:=by omega
     have HSELF:=hid (l03Self_any w11);have hsrc11:=HJ11.out.t.2;clear HN HJ10 d11 hr ekk;go_wp2_with fail;refine HSELF.out.mono ?_;rintro e w12 ⟨vim,rfl,him,k12⟩;rw [idL_map] at him;have HIM:=hid him;have D12:=hid (Dr.of hsrc11 k12);clear him k12 HSELF y0 hsrc11;go_wp2_with fail
     go_loopw [16] (fun v' wr2=>∃ v:Nat,v≤3∧v'=.int .i64 v∧∃ τ:List Fm,τ.length=6∧(∀ t∈τ,t.enc.length≤3)∧OwnL wr2 w11.heap.size vim (τ.map Fm.enc)∧Dr B w11 wr2) (fun v' _=>3-(intOf v').toNat)
     case atStart=>exact ⟨0,by omega,rfl,_,by simp,fun t ht=>by
      obtain ⟨x,-,rfl⟩:=List.mem_map.1 ht
      simp [Fm.enc],HIM.out,D12.out⟩
     case round=>
      obtain ⟨v,hv3,rfl,τ,hτ6,hτ3,hown,D⟩:=hrel;have HT3:=hid hτ3;have HOWN:=hid hown;have HD:=hid D;obtain ⟨pim,cim,evim,-,-⟩:=hown.lenA;rw [List.length_map,hτ6] at evim;clear hτ3 hown D HIM D12
      by_cases hlt:v<3
      ·have hlt':(v:Int)<3:=by omega
       have HS:=hid (l13Small_any B m wr HD.out.2);go_wp2_with fail;refine HS.out.mono ?_;rintro e w13 ⟨v13,t13,rfl,hv13,hl13,d13⟩;obtain ⟨gi,ci,c0,e0,hg1,hg2,z0,f0,hst,hgr⟩:=HOWN.out.storeA d13.1 hB11 hv13 HD.out.size v (by simp;omega);have D13:=(HD.out.trans d13).beside ((Touch.grown hgr).mono (fun i e=>by cases e;rfl)) (by omega) hg1;rw [←List.map_set] at hst;obtain ⟨p13,n13,c13,rfl⟩:=hv13.own_shape;subst evim;rw [List.length_map,hτ6] at e0
       cases e0
       have HST:=hid hst;have HD13:=hid D13;clear hst D13 hgr HOWN HS hv13 d13;go_wp2_with fail;go_roundw
       case rel=>exact ⟨v+1,by omega,by go_num,τ.set v t13,by simpa using hτ6,fun t ht=>by
        rcases List.mem_or_eq_of_mem_set ht with ht | rfl
        ·exact HT3.out t ht
        ·omega,HST.out,HD13.out⟩
       case measure=>simp [intOf];omega
      ·obtain rfl:v=3:=by omega
       have HJ13:=hid (HJ11.out.dr HD.out hB);have HSCH:=hid (l13Scheme_any kk hkk wr);clear HJ11 hlt hv3;go_wp2_with fail;refine HSCH.out.mono ?_;rintro e w14 ⟨vs,rfl,hvs,k14⟩;obtain ⟨psx,nsx,csx,rfl⟩:=hvs.own_shape;have hwf:=schm_wf kk hkk;have hsl40:=(schm_ok kk hkk).2.2;have hsub:=sub_sbF τ (schm kk) hwf hτ6
       have hM:=sub_len (ims:=τ.map Fm.enc) (M:=3) (fun x hx=>by
        obtain ⟨t,ht,rfl⟩:=List.mem_map.1 hx
        exact HT3.out t ht) (by omega) (schm kk).enc
       have htot:tot (τ.map Fm.enc)≤2147483648:=by
        have h6:∀ l:List Fm,(∀ t∈l,t.enc.length≤3)→tot (l.map Fm.enc)≤3*l.length:=by
         intro l
         induction l with
         | nil=>intro _;simp [tot]
         | cons a l ih=>
          intro h;have h1:=h a (by simp);have h2:=ih (fun t ht=>h t (by simp [ht]));simp only [List.map_cons,tot,List.length_cons];omega
        have:=h6 τ HT3.out;omega
       have HSUB:=hid (l03Sub_any (τ.map Fm.enc) (schm kk).enc _ _ w14 (hvs.nds (by omega)) ((HOWN.out.ndsL (by simp;omega) htot).keeps k14) (List.all_eq_true.2 (okNd_enc hwf)) (by simpa using hτ6) (by omega));have HL:=hid (show (sub (τ.map Fm.enc) (schm kk).enc).length≤120 from by omega);have HJ14:=hid (HJ13.out.keeps k14);subst evim;have HSB:=hid hsub;clear hsub hM htot hvs k14 HJ13 HOWN HD HSCH hwf hsl40;generalize sub (τ.map Fm.enc) (schm kk).enc=sl at*;go_wp2_with fail;refine HSUB.out.mono ?_;rintro e w15 ⟨v15,rfl,hv15,k15⟩;obtain ⟨p15,n15,c15,rfl⟩:=hv15.own_shape;have hJ15:=HJ14.out.keeps k15;have HPUT:=hid (l13Put_any w.heap.size 1 kk 0 ls sl _ _ w15 hJ15.ln (hv15.nds (by have:=HL.out;omega)) hJ15.t.size (by omega) (by have:=HL.out;omega));have HJ15:=hid hJ15;clear hJ15 hv15 k15 HSUB HJ14;go_wp2_with fail;refine HPUT.out.mono ?_;rintro e w16 ⟨v16,rfl,hv16,wm,km,tm⟩;have HR:=hid (RdI.put (HJ15.out.put km tm hB hv16) HLK.out hk1 HSM.out HWF.out ⟨_,HSB.out,by rw [←HSB.out];exact Nat.le_trans HL.out (by omega)⟩ (fun h=>absurd h (by simp)) (fun h=>absurd h (by simp)) (fun h=>absurd h (by simp)));clear HJ15 hv16 km tm HPUT;go_wp2_with fail;go_roundw
       case rel=>exact ⟨k-1,by go_num,HR.out⟩
       case measure=>simp [intOf];omega
   -- </ARM0>
   -- <ARM1>
   ·as_aux_lemma=>
     by_cases hl0:ls.length=0
     ·have hl0':¬(0:Int)<ls.length:=by omega
      have HR:=hid (RdI.same HJ10.out HLK.out HSM.out HWF.out);clear hl0;go_wp2_with fail
      as_aux_lemma=>
       go_roundw
       case rel=>exact ⟨k-1,by go_num,HR.out⟩
       case measure=>simp [intOf];omega
     have hl0':(0:Int)<ls.length:=by omega
     cases m with
     | false=>
      have HR:=hid (RdI.same HJ10.out HLK.out HSM.out HWF.out);clear hl0;go_wp2_with fail
      as_aux_lemma=>
       go_roundw
       case rel=>exact ⟨k-1,by go_num,HR.out⟩
       case measure=>simp [intOf];omega
     | true=>
      obtain ⟨q,hq⟩:∃ q,ls.length=q+1:=⟨ls.length-1,by omega⟩
      have hql:q<ls.length:=by omega
      have HDEP:=hid (l13Depends_any G.length ls HWF.out (by omega) (by omega) _ w10 (HJ10.out.ln.lnl (by omega) (fun x hx=>by
       obtain ⟨t,e,h⟩:=HSM.out x hx
       rw [e];omega)))
      have HDL:=hid (show (dpP ls).length=q+1 from by rw [(dp_us _).1,hq]);have HQ:=hid hq;rw [hq] at hlc hl0' HDEP;generalize hU:dpP ls=U at*;clear hl0 hU
      have hq0:(0:Int)<(q:Int)+1:=by omega
      go_wp2_with fail;refine HDEP.out.mono ?_;rintro e w11 ⟨vd,rfl,hvd,k11⟩;obtain ⟨po,co,rfl,hle,_⟩:=hvd.shape;obtain ⟨bu,ou,uu,epu,gu,hou⟩:=hvd.get q (by rw [HDL.out];omega);subst epu;rw [HDL.out] at hle ⊢;obtain ⟨pu,cu,rfl,_⟩:=At.of_own hou
      have hUl:q<U.length:=by rw [HDL.out];omega
      generalize hdl:(zs U[q]).length=dl at*;have HJ11:=hid (HJ10.out.keeps k11);obtain ⟨gl,q1,m1,c1,eb,hb,⟨z0,z1,z2,z3⟩,ho⟩:=HJ11.out.ln.get q hql;subst eb;obtain ⟨tq,etq,hlq⟩:=HSM.out _ (List.getElem_mem hql);obtain ⟨gq,cq,e1,-,-,-,-⟩:=ho.shape (by rw [etq];exact Fm.enc_pos tq)
      cases e1
      have hla:ls[q].a.length≤200:=by rw [etq];exact hlq
      have HNA:=hid (ho.nds (by omega));have HR:=hid (RdI.same HJ11.out HLK.out HSM.out HWF.out);have HTQ:=hid etq;rw [hq] at HR;clear z0 z1 z2 ho hdl hou etq hb hvd k11 HDEP HJ10;generalize ls[q].a=fa at*;generalize hfl:fa.length=fl at*
      by_cases hd0:dl=0
      rotate_left
      ·have hd0':¬((dl:Nat):Int)=0:=by omega
       clear hd0 HNA z3;go_wp2_with fail
       as_aux_lemma=>
        go_roundw
        case rel=>exact ⟨k-1,by go_num,HR.out⟩
        case measure=>simp [intOf];omega
      subst hd0
      by_cases h30:fl<30
      rotate_left
      ·have h30':¬((fl:Nat):Int)<30:=by omega
       clear h30 HNA;go_wp2_with fail
       as_aux_lemma=>
        go_roundw
        case rel=>exact ⟨k-1,by go_num,HR.out⟩
        case measure=>simp [intOf];omega
      have h30':((fl:Nat):Int)<30:=by omega
      have HFL:=hid hfl;have HPRE:=hid (l02Pre_any 5 fa _ w11 HNA.out (by omega));have hql2:=hq;clear h30 hfl HR;go_wp2_with fail;refine HPRE.out.mono ?_;rintro e w15 ⟨v15,rfl,hv15,k15⟩;obtain ⟨p15,n15,c15,rfl⟩:=hv15.own_shape;have hJ15:=HJ11.out.keeps k15;have HPUT:=hid (l13Put_any w.heap.size 4 (q:Int) 0 ls (⟨5,0⟩::fa) _ _ w15 hJ15.ln (hv15.nds (by have:=HFL.out;simp only [List.length_cons];omega)) hJ15.t.size (by omega) (by have:=HFL.out;simp only [List.length_cons];omega));rw [hq] at HPUT;have HJ15:=hid hJ15;clear hJ15 hv15 k15 HPRE HJ11 z3 gu HNA;go_wp2_with fail;refine HPUT.out.mono ?_;rintro e w16 ⟨v16,rfl,hv16,wm,km,tm⟩;have HR:=hid (RdI.put (HJ15.out.put km tm hB hv16) HLK.out hk1 HSM.out HWF.out ⟨.box tq,by rw [HTQ.out];rfl,by have:=HFL.out;rw [HTQ.out] at this;simp only [Fm.enc,List.length_cons];omega⟩ (fun h=>absurd h (by simp)) (fun _=>⟨by simp,by simp only;omega⟩) (fun h=>absurd h (by simp)));clear HJ15 hv16 km tm HPUT;go_wp2_with fail
      as_aux_lemma=>
       go_roundw
       case rel=>exact ⟨k-1,by go_num,HR.out⟩
       case measure=>simp [intOf];omega
   -- </ARM1>
   -- <ARM23>
   ·as_aux_lemma=>
     have HGL:=hid (HG.out.2.2)
     have htot:tot (G.map Fm.enc)≤2147483648:=by
      have h6:∀ l:List Fm,(∀ t∈l,t.enc.length≤7)→tot (l.map Fm.enc)≤7*l.length:=by
       intro l
       induction l with
       | nil=>intro _;simp [tot]
       | cons a l ih=>
        intro h;have h1:=h a (by simp);have h2:=ih (fun t ht=>h t (by simp [ht]));simp only [List.map_cons,tot,List.length_cons];omega
      have:=h6 G HGL.out;omega
     have HN:=hid (l01Next_any (G.length:Int) B w10 HJ10.out.t.2 (by omega));have HTT:=hid htot;clear htot
     rcases h23 with rfl | rfl
     all_goals
      go_wp2_with fail;refine HN.out.mono ?_;rintro e w11 ⟨r,rfl,hr,d11⟩
      have hrl:r<G.length:=by omega
      have hrl':(r:Int)<G.length:=by omega
      have HJ11:=hid (HJ10.out.dr d11 hB);have hHL:=HJ11.out.hy.ndsL (by simp;omega) HTT.out;have hx:=hHL.get r (by simpa using hrl);rw [List.getElem_map] at hx;obtain ⟨bh,oh,uh,ep,y0,hu⟩:=hx;obtain ⟨q1,m1,c1,rfl⟩:=hu.shape;subst ep;have hl7:=HGL.out _ (List.getElem_mem hrl);have HPUT:=hid (l13Put_any w.heap.size 2 r 0 ls G[r].enc _ _ w11 HJ11.out.ln hu HJ11.out.t.size (by omega) (by omega));clear HN HJ10 d11 hr hHL hu;generalize G[r]=tg at*;go_wp2_with fail;refine HPUT.out.mono ?_;rintro e w16 ⟨v16,rfl,hv16,wm,km,tm⟩;have HR:=hid (RdI.put (HJ11.out.put km tm hB hv16) HLK.out hk1 HSM.out HWF.out ⟨tg,rfl,by omega⟩ (fun h=>absurd h (by simp)) (fun h=>absurd h (by simp)) (fun _=>⟨by simp,hrl'⟩));clear HJ11 hv16 km tm HPUT;go_wp2_with fail
      as_aux_lemma=>
       go_roundw
       case rel=>exact ⟨k-1,by go_num,HR.out⟩
       case measure=>simp [intOf];omega
   -- </ARM23>
   -- <ARM45>
   ·as_aux_lemma=>
      have e0:(((r6:Nat):Int)==0)=false:=beq_eq_false_iff_ne.2 (by omega);have e1:(((r6:Nat):Int)==1)=false:=beq_eq_false_iff_ne.2 (by omega);have e2:(((r6:Nat):Int)==2)=false:=beq_eq_false_iff_ne.2 (by omega);have e3:(((r6:Nat):Int)==3)=false:=beq_eq_false_iff_ne.2 (by omega);have HD0:=hid (show DtI B w.heap.size w (.slice ps nS cs) (.slice pa na ca) (.slice ph G.length ch) L ta G ls 0 (.slice pl ls.length cl) w10 from ⟨ls,Nat.zero_le _,HJ10.out,.inl rfl⟩);clear h45 HJ10 hsz10;go_wp2_with fail;clear e0 e1 e2 e3
      go_loopw [9,18] (fun lv' i' wr=>∃ i:Nat,i'=.int .i64 i∧i≤ls.length+1∧DtI B w.heap.size w (.slice ps nS cs) (.slice pa na ca) (.slice ph G.length ch) L ta G ls i lv' wr) (fun _ i' _=>ls.length+2-(intOf i').toNat)
      case atStart=>exact ⟨0,rfl,by omega,HD0.out⟩
      case round=>
       obtain ⟨i,rfl,hi1,ls1,hi2,hJ,hC⟩:=hrel;obtain ⟨p1,c1,rfl,hlc1,hlm1⟩:=hJ.ln.sh;unfold maxLen at hlm1;have hln1:=dt_len hC
       by_cases hil1:i<ls1.length
       ·have hil1':(i:Int)<ls1.length:=by omega
        have HD1:=hid (show DtI B w.heap.size w (.slice ps nS cs) (.slice pa na ca) (.slice ph G.length ch) L ta G ls (i+1) (.slice p1 ls1.length c1) wr from ⟨ls1,hil1,hJ,hC⟩);clear hJ HD0;have HC1:=hid hC;clear hC;go_wp2_with fail
        go_loopw [9,19] (fun lv' j' wr=>∃ j:Nat,j'=.int .i64 j∧j≤ls.length+1∧DtI B w.heap.size w (.slice ps nS cs) (.slice pa na ca) (.slice ph G.length ch) L ta G ls (i+1) lv' wr) (fun _ j' _=>ls.length+2-(intOf j').toNat)
        case atStart=>exact ⟨0,rfl,by omega,HD1.out⟩
        case round=>
         obtain ⟨j,rfl,hj1,ls2,hil,hJ,hC⟩:=hrel;clear HD1 HC1 hln1 hil1 hil1' hi2 hlc1 hlm1;obtain ⟨p2,c2,rfl,hlc2,hlm2⟩:=hJ.ln.sh;unfold maxLen at hlm2;have hln2:=dt_len hC;have HJ:=hid hJ;have HC:=hid hC;clear hC
         by_cases hjl:j<ls2.length
         · -- <INNER>
          have hjl':(j:Int)<ls2.length:=by omega
          have hjb:j+1≤ls.length+1:=by omega
          have hl2k:ls2.length≤1000:=by omega
          have hil0:i<ls2.length:=hil
          have hil':(i:Int)<ls2.length:=by omega
          obtain ⟨gl,qi,mi,ci,ep,-,⟨-,-,-,zi⟩,hoi⟩:=hJ.ln.get i hil0;subst ep;obtain ⟨gl2,qj,mj,cj,ep,-,⟨-,-,-,zj⟩,hoj⟩:=hJ.ln.get j hjl
          cases ep
          have HSM2:=hid (dt_sm HC.out HSM.out);obtain ⟨t,et,htl⟩:=HSM2.out _ (List.getElem_mem hil0);obtain ⟨tj,etj,htjl⟩:=HSM2.out _ (List.getElem_mem hjl);obtain ⟨gf,cf,ef,-,-,-,-⟩:=hoi.shape (by rw [et];exact Fm.enc_pos t)
          cases ef
          obtain ⟨y0,-⟩:=hoi.cell 0 (by rw [et];exact Fm.enc_pos t);rw [Nat.zero_mul] at y0;have hui:=hoi.nds (by rw [et];omega);have huj:=hoj.nds (by rw [etj];omega);rw [et] at hui;rw [etj] at huj
          have hK0:ls2[i].a[0]'(by rw [et];exact Fm.enc_pos t)=t.enc[0]'(Fm.enc_pos t):=by simp only [et]
          rw [hK0] at y0
          have hmi:ls2[i].a.length=t.enc.length:=by rw [et]
          rw [hmi] at zi;have HUI:=hid hui;have HUJ:=hid huj;have hmpos:=Fm.enc_pos t;clear hJ hoi hoj hK0 hmi et hui huj htjl
          obtain ⟨K0,hK0⟩:∃ K0,(t.enc[0]'(Fm.enc_pos t)).k=K0:=⟨_,rfl⟩
          rw [hK0] at y0;have HK0:=hid hK0;clear hK0;generalize hml:t.enc.length=ml at*;have HML:=hid hml;clear hml
          go_upto_region 21 with fail
          have kd:=(Keeps.refl wr).drew;have HSS:=hid (fun W (kW:Keeps wr W)=>(⟨kW.cell y0,kW.cell zj⟩:W.cell? ⟨gf,0,none⟩=some (.int .i64 K0)∧W.cell? ⟨gl,j*4+3,none⟩=some (.slice qj mj cj)));clear y0 zi zj
          by_cases h4:K0=4
          rotate_left
          ·have e4:(K0==(4:Int))=false:=beq_eq_false_iff_ne.2 h4
           clear h4;refine wp_region_noPanic ?_;refine wp_region_held_drew (S:=(fun w'=>w'.cell? ⟨gf,0,none⟩=some (.int .i64 K0)∧w'.cell? ⟨gl,j*4+3,none⟩=some (.slice qj mj cj))) (by kernel_rfl) (HSS.out _ kd) (fun hHeld=>?_);refine wpAnyH_take (i:=0) (oi:=⟨some 86,_,_,_,_,none⟩) (v:=?v0a) rfl (by kernel_rfl) (by kernel_rfl) (by kernel_rfl) (fun _ _ _ h=>h) (Or.inl ⟨by rfl,?h0a⟩) (by assumption) ?r0a
           case h0a=>(intro w hSw;(try dsimp only at hSw);go_simp;try with_reducible rfl)
           try simp only [Act.put,List.setIfInBounds_toArray,List.set_cons_zero,List.set_cons_succ]
           refine wpAnyH_take (i:=1) (oi:=⟨some 87,_,_,_,_,none⟩) (v:=?v1a) rfl (by kernel_rfl) (by kernel_rfl) (by kernel_rfl) (fun _ _ _ h=>h) (Or.inl ⟨by rfl,?h1a⟩) (by assumption) ?r1a
           case h1a=>(intro w hSw;(try dsimp only at hSw);go_simp;try with_reducible rfl)
           try simp only [Act.put,List.setIfInBounds_toArray,List.set_cons_zero,List.set_cons_succ]
           refine wpAnyH_take (i:=2) (oi:=⟨some 88,_,_,_,_,none⟩) (v:=?v2a) rfl (by kernel_rfl) (by kernel_rfl) (by kernel_rfl) (fun _ _ _ h=>h) (Or.inl ⟨by rfl,?h2a⟩) (by assumption) ?r2a
           case h2a=>(intro w hSw;(try dsimp only at hSw);go_simp;try with_reducible rfl)
           try simp only [Act.put,List.setIfInBounds_toArray,List.set_cons_zero,List.set_cons_succ]
           refine wpAnyH_take (i:=3) (oi:=⟨some 89,_,_,_,_,none⟩) (v:=?v3a) rfl (by kernel_rfl) (by kernel_rfl) (by kernel_rfl) (fun _ _ _ h=>h) (Or.inl ⟨by rfl,?h3a⟩) (by assumption) ?r3a
           case h3a=>(intro w hSw;(try dsimp only at hSw);go_simp;try with_reducible rfl)
           try simp only [Act.put,List.setIfInBounds_toArray,List.set_cons_zero,List.set_cons_succ]
           refine wpAnyH_take (i:=4) (oi:=⟨some 90,_,_,_,_,none⟩) (v:=?v4a) rfl (by kernel_rfl) (by kernel_rfl) (by kernel_rfl) (fun _ _ _ h=>h) (Or.inl ⟨by rfl,?h4a⟩) (by assumption) ?r4a
           case h4a=>(intro w hSw;(try dsimp only at hSw);go_simp;try with_reducible rfl)
           try simp only [Act.put,List.setIfInBounds_toArray,List.set_cons_zero,List.set_cons_succ]
           refine wpAnyH_take (i:=5) (oi:=⟨some 91,_,_,_,_,none⟩) (v:=?v5a) rfl (by kernel_rfl) (by kernel_rfl) (by kernel_rfl) (fun _ _ _ h=>h) (Or.inl ⟨by rfl,?h5a⟩) (by assumption) ?r5a
           case h5a=>(intro w hSw;(try dsimp only at hSw);go_simp;try with_reducible rfl)
           try simp only [Act.put,List.setIfInBounds_toArray,List.set_cons_zero,List.set_cons_succ]
           refine wpAnyH_take (i:=6) (oi:=⟨some 92,_,_,_,_,some (5,true)⟩) (v:=undef) rfl (by kernel_rfl) (by kernel_rfl) (by kernel_rfl) (fun _ _ _ h=>h) (Or.inr ⟨by rfl,rfl⟩) (by assumption) ?_
           try simp only [Act.put,List.setIfInBounds_toArray,List.set_cons_zero,List.set_cons_succ]
           refine wpAnyH_take (i:=8) (oi:=⟨some 94,_,_,_,_,some (5,true)⟩) (v:=undef) rfl (by kernel_rfl) (by kernel_rfl) (by kernel_rfl) (fun _ _ _ h=>h) (Or.inr ⟨by rfl,rfl⟩) (by assumption) ?_
           try simp only [Act.put,List.setIfInBounds_toArray,List.set_cons_zero,List.set_cons_succ]
           refine wpAnyH_take (i:=9) (oi:=⟨some 95,_,_,_,_,some (5,true)⟩) (v:=undef) rfl (by kernel_rfl) (by kernel_rfl) (by kernel_rfl) (fun _ _ _ h=>h) (Or.inr ⟨by rfl,rfl⟩) (by assumption) ?_
           try simp only [Act.put,List.setIfInBounds_toArray,List.set_cons_zero,List.set_cons_succ]
           refine wpAnyH_take (i:=10) (oi:=⟨some 96,_,_,_,_,some (5,true)⟩) (v:=undef) rfl (by kernel_rfl) (by kernel_rfl) (by kernel_rfl) (fun _ _ _ h=>h) (Or.inr ⟨by rfl,rfl⟩) (by assumption) ?_
           try simp only [Act.put,List.setIfInBounds_toArray,List.set_cons_zero,List.set_cons_succ]
           refine wpAnyH_take (i:=11) (oi:=⟨some 97,_,_,_,_,some (5,true)⟩) (v:=undef) rfl (by kernel_rfl) (by kernel_rfl) (by kernel_rfl) (fun _ _ _ h=>h) (Or.inr ⟨by rfl,rfl⟩) (by assumption) ?_
           try simp only [Act.put,List.setIfInBounds_toArray,List.set_cons_zero,List.set_cons_succ]
           refine wpAnyH_take (i:=12) (oi:=⟨some 98,_,_,_,_,some (5,true)⟩) (v:=undef) rfl (by kernel_rfl) (by kernel_rfl) (by kernel_rfl) (fun _ _ _ h=>h) (Or.inr ⟨by rfl,rfl⟩) (by assumption) ?_
           try simp only [Act.put,List.setIfInBounds_toArray,List.set_cons_zero,List.set_cons_succ]
           refine wpAnyH_ready (rs:=[7]) (by kernel_rfl) (by simp) ?_;refine AllReadyH.cons (o:=⟨some 93,_,_,_,_,some (5,true)⟩) rfl (fun K hK=>?_) AllReadyH.nil;rw [if_neg (Bool.eq_false_iff.1 (by kernel_rfl))];refine hK.out _ _ (by assumption) (fun hHeld=>?_);clear hK K
           try simp only [Act.put,List.setIfInBounds_toArray,List.set_cons_zero,List.set_cons_succ]
           refine wpAnyH_ready (rs:=[13]) (by kernel_rfl) (by simp) ?_;refine AllReadyH.cons (o:=⟨some 99,_,_,_,_,some (5,true)⟩) rfl (fun K hK=>?_) AllReadyH.nil;rw [if_neg (Bool.eq_false_iff.1 (by kernel_rfl))];refine hK.out _ _ (by assumption) (fun hHeld=>?_);clear hK K
           try simp only [Act.put,List.setIfInBounds_toArray,List.set_cons_zero,List.set_cons_succ]
           refine wpAnyH_take (i:=14) (oi:=⟨some 100,_,_,_,_,none⟩) (v:=?v14a) rfl (by kernel_rfl) (by kernel_rfl) (by kernel_rfl) (fun _ _ _ h=>h) (Or.inl ⟨by rfl,?h14a⟩) (by assumption) ?r14a
           case h14a=>(intro w hSw;(try dsimp only at hSw);go_simp;try with_reducible rfl)
           try simp only [Act.put,List.setIfInBounds_toArray,List.set_cons_zero,List.set_cons_succ]
           refine wpAnyH_take (i:=15) (oi:=⟨some 101,_,_,_,_,none⟩) (v:=?v15a) rfl (by kernel_rfl) (by kernel_rfl) (by kernel_rfl) (fun _ _ _ h=>h) (Or.inl ⟨by rfl,?h15a⟩) (by assumption) ?r15a
           case h15a=>(intro w hSw;(try dsimp only at hSw);go_simp;try with_reducible rfl)
           try simp only [Act.put,List.setIfInBounds_toArray,List.set_cons_zero,List.set_cons_succ]
           refine wpAnyH_take (i:=16) (oi:=⟨some 102,_,_,_,_,some (15,true)⟩) (v:=undef) rfl (by kernel_rfl) (by kernel_rfl) (by kernel_rfl) (fun _ _ _ h=>h) (Or.inr ⟨by rfl,rfl⟩) (by assumption) ?_
           try simp only [Act.put,List.setIfInBounds_toArray,List.set_cons_zero,List.set_cons_succ]
           refine wpAnyH_take (i:=17) (oi:=⟨some 103,_,_,_,_,some (15,true)⟩) (v:=undef) rfl (by kernel_rfl) (by kernel_rfl) (by kernel_rfl) (fun _ _ _ h=>h) (Or.inr ⟨by rfl,rfl⟩) (by assumption) ?_
           try simp only [Act.put,List.setIfInBounds_toArray,List.set_cons_zero,List.set_cons_succ]
           refine wpAnyH_take (i:=18) (oi:=⟨some 104,_,_,_,_,some (15,true)⟩) (v:=undef) rfl (by kernel_rfl) (by kernel_rfl) (by kernel_rfl) (fun _ _ _ h=>h) (Or.inr ⟨by rfl,rfl⟩) (by assumption) ?_
           try simp only [Act.put,List.setIfInBounds_toArray,List.set_cons_zero,List.set_cons_succ]
           refine wpAnyH_take (i:=19) (oi:=⟨some 105,_,_,_,_,some (15,true)⟩) (v:=undef) rfl (by kernel_rfl) (by kernel_rfl) (by kernel_rfl) (fun _ _ _ h=>h) (Or.inr ⟨by rfl,rfl⟩) (by assumption) ?_
           try simp only [Act.put,List.setIfInBounds_toArray,List.set_cons_zero,List.set_cons_succ]
           refine wpAnyH_take (i:=20) (oi:=⟨some 106,_,_,_,_,none⟩) (v:=?v20a) rfl (by kernel_rfl) (by kernel_rfl) (by kernel_rfl) (fun _ _ _ h=>h) (Or.inl ⟨by rfl,?h20a⟩) (by assumption) ?r20a
           case h20a=>(intro w hSw;(try dsimp only at hSw);go_simp;try with_reducible rfl)
           try simp only [Act.put,List.setIfInBounds_toArray,List.set_cons_zero,List.set_cons_succ]
           refine wpAnyH_done (by kernel_rfl) ?_ _;refine NoPanic.normal ?_;have HD:=hid (show DtI B w.heap.size w (.slice ps nS cs) (.slice pa na ca) (.slice ph G.length ch) L ta G ls (i+1) (.slice (some ⟨gl,0,none⟩) ls2.length c2) _ from ⟨ls2,hil,HJ.out.keeps kd,HC.out⟩);clear hHeld;go_wp2_with fail
           as_aux_lemma=>
            go_roundw
            case rel=>exact ⟨j+1,by go_num,by omega,HD.out⟩
            case measure=>simp [intOf];omega
          subst h4
          obtain ⟨ta2,tb2,etx⟩:∃ a b,t=.imp a b:=by
           obtain ⟨x,r,e⟩:=List.exists_cons_of_length_pos (Fm.enc_pos t);refine enc_imp e ?_;have h:=HK0.out;simp only [e,List.getElem_cons_zero] at h;exact h
          have HTE:=hid etx
          have hte:t.enc=⟨4,0⟩::(ta2.enc++tb2.enc):=by rw [etx];rfl
          have HLF:=hid (fun W (kW:Keeps wr W)=>l02Left_any t.enc ⟨4,0⟩ ta2 tb2.enc _ W (HUI.out.keeps kW) hte);have HRF:=hid (fun W (kW:Keeps wr W)=>l02Right_any t.enc ⟨4,0⟩ ta2 tb2 _ W (HUI.out.keeps kW) hte);have HEQ:=hid (fun W v (hv:Nds W v ta2.enc) (kW:Keeps wr W)=>l02Equal_any ta2.enc tj.enc v _ W hv (HUJ.out.keeps kW))
          have hlb:tb2.enc.length≤200:=by
           have:t.enc.length=1+(ta2.enc.length+tb2.enc.length):=by rw [hte];simp;omega
           have:=HML.out;omega
          have HLB:=hid hlb;clear hte etx hlb;generalize hqb:decide (ta2.enc=tj.enc)=qb at*;clear hqb
          cases qb
          ·skip
           refine wp_region_noPanic ?_;refine wp_region_held_drew (S:=(fun w'=>w'.cell? ⟨gf,0,none⟩=some (.int .i64 4)∧w'.cell? ⟨gl,j*4+3,none⟩=some (.slice qj mj cj))) (by kernel_rfl) (HSS.out _ kd) (fun hHeld=>?_);refine wpAnyH_take (i:=0) (oi:=⟨some 86,_,_,_,_,none⟩) (v:=?v0b) rfl (by kernel_rfl) (by kernel_rfl) (by kernel_rfl) (fun _ _ _ h=>h) (Or.inl ⟨by rfl,?h0b⟩) (by assumption) ?r0b
           case h0b=>(intro w hSw;(try dsimp only at hSw);go_simp;try with_reducible rfl)
           try simp only [Act.put,List.setIfInBounds_toArray,List.set_cons_zero,List.set_cons_succ]
           refine wpAnyH_take (i:=1) (oi:=⟨some 87,_,_,_,_,none⟩) (v:=?v1b) rfl (by kernel_rfl) (by kernel_rfl) (by kernel_rfl) (fun _ _ _ h=>h) (Or.inl ⟨by rfl,?h1b⟩) (by assumption) ?r1b
           case h1b=>(intro w hSw;(try dsimp only at hSw);go_simp;try with_reducible rfl)
           try simp only [Act.put,List.setIfInBounds_toArray,List.set_cons_zero,List.set_cons_succ]
           refine wpAnyH_take (i:=2) (oi:=⟨some 88,_,_,_,_,none⟩) (v:=?v2b) rfl (by kernel_rfl) (by kernel_rfl) (by kernel_rfl) (fun _ _ _ h=>h) (Or.inl ⟨by rfl,?h2b⟩) (by assumption) ?r2b
           case h2b=>(intro w hSw;(try dsimp only at hSw);go_simp;try with_reducible rfl)
           try simp only [Act.put,List.setIfInBounds_toArray,List.set_cons_zero,List.set_cons_succ]
           refine wpAnyH_take (i:=3) (oi:=⟨some 89,_,_,_,_,none⟩) (v:=?v3b) rfl (by kernel_rfl) (by kernel_rfl) (by kernel_rfl) (fun _ _ _ h=>h) (Or.inl ⟨by rfl,?h3b⟩) (by assumption) ?r3b
           case h3b=>(intro w hSw;(try dsimp only at hSw);go_simp;try with_reducible rfl)
           try simp only [Act.put,List.setIfInBounds_toArray,List.set_cons_zero,List.set_cons_succ]
           refine wpAnyH_take (i:=4) (oi:=⟨some 90,_,_,_,_,none⟩) (v:=?v4b) rfl (by kernel_rfl) (by kernel_rfl) (by kernel_rfl) (fun _ _ _ h=>h) (Or.inl ⟨by rfl,?h4b⟩) (by assumption) ?r4b
           case h4b=>(intro w hSw;(try dsimp only at hSw);go_simp;try with_reducible rfl)
           try simp only [Act.put,List.setIfInBounds_toArray,List.set_cons_zero,List.set_cons_succ]
           refine wpAnyH_take (i:=5) (oi:=⟨some 91,_,_,_,_,none⟩) (v:=?v5b) rfl (by kernel_rfl) (by kernel_rfl) (by kernel_rfl) (fun _ _ _ h=>h) (Or.inl ⟨by rfl,?h5b⟩) (by assumption) ?r5b
           case h5b=>(intro w hSw;(try dsimp only at hSw);go_simp;try with_reducible rfl)
           try simp only [Act.put,List.setIfInBounds_toArray,List.set_cons_zero,List.set_cons_succ]
           refine wpAnyH_take (i:=6) (oi:=⟨some 92,_,_,_,_,some (5,true)⟩) (v:=?v6b) rfl (by kernel_rfl) (by kernel_rfl) (by kernel_rfl) (fun _ _ _ h=>h) (Or.inl ⟨by rfl,?h6b⟩) (by assumption) ?r6b
           case h6b=>(intro w hSw;(try dsimp only at hSw);go_simp;try with_reducible rfl)
           try simp only [Act.put,List.setIfInBounds_toArray,List.set_cons_zero,List.set_cons_succ]
           refine wpAnyH_take (i:=8) (oi:=⟨some 94,_,_,_,_,some (5,true)⟩) (v:=?v8b) rfl (by kernel_rfl) (by kernel_rfl) (by kernel_rfl) (fun _ _ _ h=>h) (Or.inl ⟨by rfl,?h8b⟩) (by assumption) ?r8b
           case h8b=>(intro w hSw;(try dsimp only at hSw);go_simp;try with_reducible rfl)
           try simp only [Act.put,List.setIfInBounds_toArray,List.set_cons_zero,List.set_cons_succ]
           refine wpAnyH_take (i:=9) (oi:=⟨some 95,_,_,_,_,some (5,true)⟩) (v:=?v9b) rfl (by kernel_rfl) (by kernel_rfl) (by kernel_rfl) (fun _ _ _ h=>h) (Or.inl ⟨by rfl,?h9b⟩) (by assumption) ?r9b
           case h9b=>(intro w hSw;(try dsimp only at hSw);go_simp;try with_reducible rfl)
           try simp only [Act.put,List.setIfInBounds_toArray,List.set_cons_zero,List.set_cons_succ]
           refine wpAnyH_take (i:=10) (oi:=⟨some 96,_,_,_,_,some (5,true)⟩) (v:=?v10b) rfl (by kernel_rfl) (by kernel_rfl) (by kernel_rfl) (fun _ _ _ h=>h) (Or.inl ⟨by rfl,?h10b⟩) (by assumption) ?r10b
           case h10b=>(intro w hSw;(try dsimp only at hSw);go_simp;try with_reducible rfl)
           try simp only [Act.put,List.setIfInBounds_toArray,List.set_cons_zero,List.set_cons_succ]
           refine wpAnyH_take (i:=11) (oi:=⟨some 97,_,_,_,_,some (5,true)⟩) (v:=?v11b) rfl (by kernel_rfl) (by kernel_rfl) (by kernel_rfl) (fun _ _ _ h=>h) (Or.inl ⟨by rfl,?h11b⟩) (by assumption) ?r11b
           case h11b=>(intro w hSw;(try dsimp only at hSw);go_simp;try with_reducible rfl)
           try simp only [Act.put,List.setIfInBounds_toArray,List.set_cons_zero,List.set_cons_succ]
           refine wpAnyH_take (i:=12) (oi:=⟨some 98,_,_,_,_,some (5,true)⟩) (v:=?v12b) rfl (by kernel_rfl) (by kernel_rfl) (by kernel_rfl) (fun _ _ _ h=>h) (Or.inl ⟨by rfl,?h12b⟩) (by assumption) ?r12b
           case h12b=>(intro w hSw;(try dsimp only at hSw);go_simp;try with_reducible rfl)
           try simp only [Act.put,List.setIfInBounds_toArray,List.set_cons_zero,List.set_cons_succ]
           refine wpAnyH_ready (rs:=[7]) (by kernel_rfl) (by simp) ?_;refine AllReadyH.cons (o:=⟨some 93,_,_,_,_,some (5,true)⟩) rfl (fun K hK=>?_) AllReadyH.nil;rw [if_pos (by kernel_rfl)]
           go_simp
           refine (HLF.out _ kd).mono ?_;rintro e w3 ⟨v3,rfl,hv3,ew3⟩;subst ew3;obtain ⟨p3,n3,c3,rfl⟩:=hv3.shape;refine hK.out _ _ (hHeld) (fun hHeld=>?_);clear hK K
           try simp only [Act.put,List.setIfInBounds_toArray,List.set_cons_zero,List.set_cons_succ]
           refine wpAnyH_ready (rs:=[13]) (by kernel_rfl) (by simp) ?_;refine AllReadyH.cons (o:=⟨some 99,_,_,_,_,some (5,true)⟩) rfl (fun K hK=>?_) AllReadyH.nil;rw [if_pos (by kernel_rfl)]
           go_simp
           refine (HEQ.out _ _ hv3 kd).mono ?_;rintro e w4 ⟨rfl,k4⟩;refine hK.out _ _ (HSS.out _ (kd.trans k4)) (fun hHeld=>?_);clear hK K
           try simp only [Act.put,List.setIfInBounds_toArray,List.set_cons_zero,List.set_cons_succ]
           refine wpAnyH_take (i:=14) (oi:=⟨some 100,_,_,_,_,none⟩) (v:=?v14b) rfl (by kernel_rfl) (by kernel_rfl) (by kernel_rfl) (fun _ _ _ h=>h) (Or.inl ⟨by rfl,?h14b⟩) (by assumption) ?r14b
           case h14b=>(intro w hSw;(try dsimp only at hSw);go_simp;try with_reducible rfl)
           try simp only [Act.put,List.setIfInBounds_toArray,List.set_cons_zero,List.set_cons_succ]
           refine wpAnyH_take (i:=15) (oi:=⟨some 101,_,_,_,_,none⟩) (v:=?v15b) rfl (by kernel_rfl) (by kernel_rfl) (by kernel_rfl) (fun _ _ _ h=>h) (Or.inl ⟨by rfl,?h15b⟩) (by assumption) ?r15b
           case h15b=>(intro w hSw;(try dsimp only at hSw);go_simp;try with_reducible rfl)
           try simp only [Act.put,List.setIfInBounds_toArray,List.set_cons_zero,List.set_cons_succ]
           refine wpAnyH_take (i:=16) (oi:=⟨some 102,_,_,_,_,some (15,true)⟩) (v:=undef) rfl (by kernel_rfl) (by kernel_rfl) (by kernel_rfl) (fun _ _ _ h=>h) (Or.inr ⟨by rfl,rfl⟩) (by assumption) ?_
           try simp only [Act.put,List.setIfInBounds_toArray,List.set_cons_zero,List.set_cons_succ]
           refine wpAnyH_take (i:=17) (oi:=⟨some 103,_,_,_,_,some (15,true)⟩) (v:=undef) rfl (by kernel_rfl) (by kernel_rfl) (by kernel_rfl) (fun _ _ _ h=>h) (Or.inr ⟨by rfl,rfl⟩) (by assumption) ?_
           try simp only [Act.put,List.setIfInBounds_toArray,List.set_cons_zero,List.set_cons_succ]
           refine wpAnyH_take (i:=18) (oi:=⟨some 104,_,_,_,_,some (15,true)⟩) (v:=undef) rfl (by kernel_rfl) (by kernel_rfl) (by kernel_rfl) (fun _ _ _ h=>h) (Or.inr ⟨by rfl,rfl⟩) (by assumption) ?_
           try simp only [Act.put,List.setIfInBounds_toArray,List.set_cons_zero,List.set_cons_succ]
           refine wpAnyH_take (i:=19) (oi:=⟨some 105,_,_,_,_,some (15,true)⟩) (v:=undef) rfl (by kernel_rfl) (by kernel_rfl) (by kernel_rfl) (fun _ _ _ h=>h) (Or.inr ⟨by rfl,rfl⟩) (by assumption) ?_
           try simp only [Act.put,List.setIfInBounds_toArray,List.set_cons_zero,List.set_cons_succ]
           refine wpAnyH_take (i:=20) (oi:=⟨some 106,_,_,_,_,none⟩) (v:=?v20b) rfl (by kernel_rfl) (by kernel_rfl) (by kernel_rfl) (fun _ _ _ h=>h) (Or.inl ⟨by rfl,?h20b⟩) (by assumption) ?r20b
           case h20b=>(intro w hSw;(try dsimp only at hSw);go_simp;try with_reducible rfl)
           try simp only [Act.put,List.setIfInBounds_toArray,List.set_cons_zero,List.set_cons_succ]
           refine wpAnyH_done (by kernel_rfl) ?_ _;refine NoPanic.normal ?_;have HD:=hid (show DtI B w.heap.size w (.slice ps nS cs) (.slice pa na ca) (.slice ph G.length ch) L ta G ls (i+1) (.slice (some ⟨gl,0,none⟩) ls2.length c2) _ from ⟨ls2,hil,HJ.out.keeps (kd.trans k4),HC.out⟩);clear hHeld;go_wp2_with fail
           as_aux_lemma=>
            go_roundw
            case rel=>exact ⟨j+1,by go_num,by omega,HD.out⟩
            case measure=>simp [intOf];omega
          rcases hln2 with hl2 | hl2
          rotate_left
          ·have ej:((ls2.length:Int)==(ls.length:Int))=false:=beq_eq_false_iff_ne.2 (by omega)
           clear hl2;refine wp_region_noPanic ?_;refine wp_region_held_drew (S:=(fun w'=>w'.cell? ⟨gf,0,none⟩=some (.int .i64 4)∧w'.cell? ⟨gl,j*4+3,none⟩=some (.slice qj mj cj))) (by kernel_rfl) (HSS.out _ kd) (fun hHeld=>?_);refine wpAnyH_take (i:=0) (oi:=⟨some 86,_,_,_,_,none⟩) (v:=?v0c) rfl (by kernel_rfl) (by kernel_rfl) (by kernel_rfl) (fun _ _ _ h=>h) (Or.inl ⟨by rfl,?h0c⟩) (by assumption) ?r0c
           case h0c=>(intro w hSw;(try dsimp only at hSw);go_simp;try with_reducible rfl)
           try simp only [Act.put,List.setIfInBounds_toArray,List.set_cons_zero,List.set_cons_succ]
           refine wpAnyH_take (i:=1) (oi:=⟨some 87,_,_,_,_,none⟩) (v:=?v1c) rfl (by kernel_rfl) (by kernel_rfl) (by kernel_rfl) (fun _ _ _ h=>h) (Or.inl ⟨by rfl,?h1c⟩) (by assumption) ?r1c
           case h1c=>(intro w hSw;(try dsimp only at hSw);go_simp;try with_reducible rfl)
           try simp only [Act.put,List.setIfInBounds_toArray,List.set_cons_zero,List.set_cons_succ]
           refine wpAnyH_take (i:=2) (oi:=⟨some 88,_,_,_,_,none⟩) (v:=?v2c) rfl (by kernel_rfl) (by kernel_rfl) (by kernel_rfl) (fun _ _ _ h=>h) (Or.inl ⟨by rfl,?h2c⟩) (by assumption) ?r2c
           case h2c=>(intro w hSw;(try dsimp only at hSw);go_simp;try with_reducible rfl)
           try simp only [Act.put,List.setIfInBounds_toArray,List.set_cons_zero,List.set_cons_succ]
           refine wpAnyH_take (i:=3) (oi:=⟨some 89,_,_,_,_,none⟩) (v:=?v3c) rfl (by kernel_rfl) (by kernel_rfl) (by kernel_rfl) (fun _ _ _ h=>h) (Or.inl ⟨by rfl,?h3c⟩) (by assumption) ?r3c
           case h3c=>(intro w hSw;(try dsimp only at hSw);go_simp;try with_reducible rfl)
           try simp only [Act.put,List.setIfInBounds_toArray,List.set_cons_zero,List.set_cons_succ]
           refine wpAnyH_take (i:=4) (oi:=⟨some 90,_,_,_,_,none⟩) (v:=?v4c) rfl (by kernel_rfl) (by kernel_rfl) (by kernel_rfl) (fun _ _ _ h=>h) (Or.inl ⟨by rfl,?h4c⟩) (by assumption) ?r4c
           case h4c=>(intro w hSw;(try dsimp only at hSw);go_simp;try with_reducible rfl)
           try simp only [Act.put,List.setIfInBounds_toArray,List.set_cons_zero,List.set_cons_succ]
           refine wpAnyH_take (i:=5) (oi:=⟨some 91,_,_,_,_,none⟩) (v:=?v5c) rfl (by kernel_rfl) (by kernel_rfl) (by kernel_rfl) (fun _ _ _ h=>h) (Or.inl ⟨by rfl,?h5c⟩) (by assumption) ?r5c
           case h5c=>(intro w hSw;(try dsimp only at hSw);go_simp;try with_reducible rfl)
           try simp only [Act.put,List.setIfInBounds_toArray,List.set_cons_zero,List.set_cons_succ]
           refine wpAnyH_take (i:=6) (oi:=⟨some 92,_,_,_,_,some (5,true)⟩) (v:=?v6c) rfl (by kernel_rfl) (by kernel_rfl) (by kernel_rfl) (fun _ _ _ h=>h) (Or.inl ⟨by rfl,?h6c⟩) (by assumption) ?r6c
           case h6c=>(intro w hSw;(try dsimp only at hSw);go_simp;try with_reducible rfl)
           try simp only [Act.put,List.setIfInBounds_toArray,List.set_cons_zero,List.set_cons_succ]
           refine wpAnyH_take (i:=8) (oi:=⟨some 94,_,_,_,_,some (5,true)⟩) (v:=?v8c) rfl (by kernel_rfl) (by kernel_rfl) (by kernel_rfl) (fun _ _ _ h=>h) (Or.inl ⟨by rfl,?h8c⟩) (by assumption) ?r8c
           case h8c=>(intro w hSw;(try dsimp only at hSw);go_simp;try with_reducible rfl)
           try simp only [Act.put,List.setIfInBounds_toArray,List.set_cons_zero,List.set_cons_succ]
           refine wpAnyH_take (i:=9) (oi:=⟨some 95,_,_,_,_,some (5,true)⟩) (v:=?v9c) rfl (by kernel_rfl) (by kernel_rfl) (by kernel_rfl) (fun _ _ _ h=>h) (Or.inl ⟨by rfl,?h9c⟩) (by assumption) ?r9c
           case h9c=>(intro w hSw;(try dsimp only at hSw);go_simp;try with_reducible rfl)
           try simp only [Act.put,List.setIfInBounds_toArray,List.set_cons_zero,List.set_cons_succ]
           refine wpAnyH_take (i:=10) (oi:=⟨some 96,_,_,_,_,some (5,true)⟩) (v:=?v10c) rfl (by kernel_rfl) (by kernel_rfl) (by kernel_rfl) (fun _ _ _ h=>h) (Or.inl ⟨by rfl,?h10c⟩) (by assumption) ?r10c
           case h10c=>(intro w hSw;(try dsimp only at hSw);go_simp;try with_reducible rfl)
           try simp only [Act.put,List.setIfInBounds_toArray,List.set_cons_zero,List.set_cons_succ]
           refine wpAnyH_take (i:=11) (oi:=⟨some 97,_,_,_,_,some (5,true)⟩) (v:=?v11c) rfl (by kernel_rfl) (by kernel_rfl) (by kernel_rfl) (fun _ _ _ h=>h) (Or.inl ⟨by rfl,?h11c⟩) (by assumption) ?r11c
           case h11c=>(intro w hSw;(try dsimp only at hSw);go_simp;try with_reducible rfl)
           try simp only [Act.put,List.setIfInBounds_toArray,List.set_cons_zero,List.set_cons_succ]
           refine wpAnyH_take (i:=12) (oi:=⟨some 98,_,_,_,_,some (5,true)⟩) (v:=?v12c) rfl (by kernel_rfl) (by kernel_rfl) (by kernel_rfl) (fun _ _ _ h=>h) (Or.inl ⟨by rfl,?h12c⟩) (by assumption) ?r12c
           case h12c=>(intro w hSw;(try dsimp only at hSw);go_simp;try with_reducible rfl)
           try simp only [Act.put,List.setIfInBounds_toArray,List.set_cons_zero,List.set_cons_succ]
           refine wpAnyH_ready (rs:=[7]) (by kernel_rfl) (by simp) ?_;refine AllReadyH.cons (o:=⟨some 93,_,_,_,_,some (5,true)⟩) rfl (fun K hK=>?_) AllReadyH.nil;rw [if_pos (by kernel_rfl)]
           go_simp
           refine (HLF.out _ kd).mono ?_;rintro e w3 ⟨v3,rfl,hv3,ew3⟩;subst ew3;obtain ⟨p3,n3,c3,rfl⟩:=hv3.shape;refine hK.out _ _ (hHeld) (fun hHeld=>?_);clear hK K
           try simp only [Act.put,List.setIfInBounds_toArray,List.set_cons_zero,List.set_cons_succ]
           refine wpAnyH_ready (rs:=[13]) (by kernel_rfl) (by simp) ?_;refine AllReadyH.cons (o:=⟨some 99,_,_,_,_,some (5,true)⟩) rfl (fun K hK=>?_) AllReadyH.nil;rw [if_pos (by kernel_rfl)]
           go_simp
           refine (HEQ.out _ _ hv3 kd).mono ?_;rintro e w4 ⟨rfl,k4⟩;refine hK.out _ _ (HSS.out _ (kd.trans k4)) (fun hHeld=>?_);clear hK K
           try simp only [Act.put,List.setIfInBounds_toArray,List.set_cons_zero,List.set_cons_succ]
           refine wpAnyH_take (i:=14) (oi:=⟨some 100,_,_,_,_,none⟩) (v:=?v14c) rfl (by kernel_rfl) (by kernel_rfl) (by kernel_rfl) (fun _ _ _ h=>h) (Or.inl ⟨by rfl,?h14c⟩) (by assumption) ?r14c
           case h14c=>(intro w hSw;(try dsimp only at hSw);go_simp;try with_reducible rfl)
           try simp only [Act.put,List.setIfInBounds_toArray,List.set_cons_zero,List.set_cons_succ]
           refine wpAnyH_take (i:=15) (oi:=⟨some 101,_,_,_,_,none⟩) (v:=?v15c) rfl (by kernel_rfl) (by kernel_rfl) (by kernel_rfl) (fun _ _ _ h=>h) (Or.inl ⟨by rfl,?h15c⟩) (by assumption) ?r15c
           case h15c=>(intro w hSw;(try dsimp only at hSw);go_simp;try with_reducible rfl)
           try simp only [Act.put,List.setIfInBounds_toArray,List.set_cons_zero,List.set_cons_succ]
           refine wpAnyH_take (i:=16) (oi:=⟨some 102,_,_,_,_,some (15,true)⟩) (v:=?v16c) rfl (by kernel_rfl) (by kernel_rfl) (by kernel_rfl) (fun _ _ _ h=>h) (Or.inl ⟨by rfl,?h16c⟩) (by assumption) ?r16c
           case h16c=>(intro w hSw;(try dsimp only at hSw);go_simp;try with_reducible rfl)
           try simp only [Act.put,List.setIfInBounds_toArray,List.set_cons_zero,List.set_cons_succ]
           refine wpAnyH_take (i:=17) (oi:=⟨some 103,_,_,_,_,some (15,true)⟩) (v:=?v17c) rfl (by kernel_rfl) (by kernel_rfl) (by kernel_rfl) (fun _ _ _ h=>h) (Or.inl ⟨by rfl,?h17c⟩) (by assumption) ?r17c
           case h17c=>(intro w hSw;(try dsimp only at hSw);go_simp;try with_reducible rfl)
           try simp only [Act.put,List.setIfInBounds_toArray,List.set_cons_zero,List.set_cons_succ]
           refine wpAnyH_take (i:=18) (oi:=⟨some 104,_,_,_,_,some (15,true)⟩) (v:=?v18c) rfl (by kernel_rfl) (by kernel_rfl) (by kernel_rfl) (fun _ _ _ h=>h) (Or.inl ⟨by rfl,?h18c⟩) (by assumption) ?r18c
           case h18c=>(intro w hSw;(try dsimp only at hSw);go_simp;try with_reducible rfl)
           try simp only [Act.put,List.setIfInBounds_toArray,List.set_cons_zero,List.set_cons_succ]
           refine wpAnyH_take (i:=19) (oi:=⟨some 105,_,_,_,_,some (15,true)⟩) (v:=?v19c) rfl (by kernel_rfl) (by kernel_rfl) (by kernel_rfl) (fun _ _ _ h=>h) (Or.inl ⟨by rfl,?h19c⟩) (by assumption) ?r19c
           case h19c=>(intro w hSw;(try dsimp only at hSw);go_simp;try with_reducible rfl)
           try simp only [Act.put,List.setIfInBounds_toArray,List.set_cons_zero,List.set_cons_succ]
           refine wpAnyH_take (i:=20) (oi:=⟨some 106,_,_,_,_,none⟩) (v:=?v20c) rfl (by kernel_rfl) (by kernel_rfl) (by kernel_rfl) (fun _ _ _ h=>h) (Or.inl ⟨by rfl,?h20c⟩) (by assumption) ?r20c
           case h20c=>(intro w hSw;(try dsimp only at hSw);go_simp;try with_reducible rfl)
           try simp only [Act.put,List.setIfInBounds_toArray,List.set_cons_zero,List.set_cons_succ]
           refine wpAnyH_done (by kernel_rfl) ?_ _;refine NoPanic.normal ?_;have HD:=hid (show DtI B w.heap.size w (.slice ps nS cs) (.slice pa na ca) (.slice ph G.length ch) L ta G ls (i+1) (.slice (some ⟨gl,0,none⟩) ls2.length c2) _ from ⟨ls2,hil,HJ.out.keeps (kd.trans k4),HC.out⟩);clear hHeld;go_wp2_with fail
           as_aux_lemma=>
            go_roundw
            case rel=>exact ⟨j+1,by go_num,by omega,HD.out⟩
            case measure=>simp [intOf];omega
          have hls:ls2=ls:=by
           rcases HC.out with e | ⟨x,e,_⟩
           ·exact e
           ·exfalso;rw [e] at hl2;simp at hl2
          have HLS:=hid hls;have ej:((ls2.length:Int)==(ls.length:Int))=true:=beq_iff_eq.2 (by omega);clear hls hl2;refine wp_region_noPanic ?_;refine wp_region_held_drew (S:=(fun w'=>w'.cell? ⟨gf,0,none⟩=some (.int .i64 4)∧w'.cell? ⟨gl,j*4+3,none⟩=some (.slice qj mj cj))) (by kernel_rfl) (HSS.out _ kd) (fun hHeld=>?_);refine wpAnyH_take (i:=0) (oi:=⟨some 86,_,_,_,_,none⟩) (v:=?v0d) rfl (by kernel_rfl) (by kernel_rfl) (by kernel_rfl) (fun _ _ _ h=>h) (Or.inl ⟨by rfl,?h0d⟩) (by assumption) ?r0d
          case h0d=>(intro w hSw;(try dsimp only at hSw);go_simp;try with_reducible rfl)
          try simp only [Act.put,List.setIfInBounds_toArray,List.set_cons_zero,List.set_cons_succ]
          refine wpAnyH_take (i:=1) (oi:=⟨some 87,_,_,_,_,none⟩) (v:=?v1d) rfl (by kernel_rfl) (by kernel_rfl) (by kernel_rfl) (fun _ _ _ h=>h) (Or.inl ⟨by rfl,?h1d⟩) (by assumption) ?r1d
          case h1d=>(intro w hSw;(try dsimp only at hSw);go_simp;try with_reducible rfl)
          try simp only [Act.put,List.setIfInBounds_toArray,List.set_cons_zero,List.set_cons_succ]
          refine wpAnyH_take (i:=2) (oi:=⟨some 88,_,_,_,_,none⟩) (v:=?v2d) rfl (by kernel_rfl) (by kernel_rfl) (by kernel_rfl) (fun _ _ _ h=>h) (Or.inl ⟨by rfl,?h2d⟩) (by assumption) ?r2d
          case h2d=>(intro w hSw;(try dsimp only at hSw);go_simp;try with_reducible rfl)
          try simp only [Act.put,List.setIfInBounds_toArray,List.set_cons_zero,List.set_cons_succ]
          refine wpAnyH_take (i:=3) (oi:=⟨some 89,_,_,_,_,none⟩) (v:=?v3d) rfl (by kernel_rfl) (by kernel_rfl) (by kernel_rfl) (fun _ _ _ h=>h) (Or.inl ⟨by rfl,?h3d⟩) (by assumption) ?r3d
          case h3d=>(intro w hSw;(try dsimp only at hSw);go_simp;try with_reducible rfl)
          try simp only [Act.put,List.setIfInBounds_toArray,List.set_cons_zero,List.set_cons_succ]
          refine wpAnyH_take (i:=4) (oi:=⟨some 90,_,_,_,_,none⟩) (v:=?v4d) rfl (by kernel_rfl) (by kernel_rfl) (by kernel_rfl) (fun _ _ _ h=>h) (Or.inl ⟨by rfl,?h4d⟩) (by assumption) ?r4d
          case h4d=>(intro w hSw;(try dsimp only at hSw);go_simp;try with_reducible rfl)
          try simp only [Act.put,List.setIfInBounds_toArray,List.set_cons_zero,List.set_cons_succ]
          refine wpAnyH_take (i:=5) (oi:=⟨some 91,_,_,_,_,none⟩) (v:=?v5d) rfl (by kernel_rfl) (by kernel_rfl) (by kernel_rfl) (fun _ _ _ h=>h) (Or.inl ⟨by rfl,?h5d⟩) (by assumption) ?r5d
          case h5d=>(intro w hSw;(try dsimp only at hSw);go_simp;try with_reducible rfl)
          try simp only [Act.put,List.setIfInBounds_toArray,List.set_cons_zero,List.set_cons_succ]
          refine wpAnyH_take (i:=6) (oi:=⟨some 92,_,_,_,_,some (5,true)⟩) (v:=?v6d) rfl (by kernel_rfl) (by kernel_rfl) (by kernel_rfl) (fun _ _ _ h=>h) (Or.inl ⟨by rfl,?h6d⟩) (by assumption) ?r6d
          case h6d=>(intro w hSw;(try dsimp only at hSw);go_simp;try with_reducible rfl)
          try simp only [Act.put,List.setIfInBounds_toArray,List.set_cons_zero,List.set_cons_succ]
          refine wpAnyH_take (i:=8) (oi:=⟨some 94,_,_,_,_,some (5,true)⟩) (v:=?v8d) rfl (by kernel_rfl) (by kernel_rfl) (by kernel_rfl) (fun _ _ _ h=>h) (Or.inl ⟨by rfl,?h8d⟩) (by assumption) ?r8d
          case h8d=>(intro w hSw;(try dsimp only at hSw);go_simp;try with_reducible rfl)
          try simp only [Act.put,List.setIfInBounds_toArray,List.set_cons_zero,List.set_cons_succ]
          refine wpAnyH_take (i:=9) (oi:=⟨some 95,_,_,_,_,some (5,true)⟩) (v:=?v9d) rfl (by kernel_rfl) (by kernel_rfl) (by kernel_rfl) (fun _ _ _ h=>h) (Or.inl ⟨by rfl,?h9d⟩) (by assumption) ?r9d
          case h9d=>(intro w hSw;(try dsimp only at hSw);go_simp;try with_reducible rfl)
          try simp only [Act.put,List.setIfInBounds_toArray,List.set_cons_zero,List.set_cons_succ]
          refine wpAnyH_take (i:=10) (oi:=⟨some 96,_,_,_,_,some (5,true)⟩) (v:=?v10d) rfl (by kernel_rfl) (by kernel_rfl) (by kernel_rfl) (fun _ _ _ h=>h) (Or.inl ⟨by rfl,?h10d⟩) (by assumption) ?r10d
          case h10d=>(intro w hSw;(try dsimp only at hSw);go_simp;try with_reducible rfl)
          try simp only [Act.put,List.setIfInBounds_toArray,List.set_cons_zero,List.set_cons_succ]
          refine wpAnyH_take (i:=11) (oi:=⟨some 97,_,_,_,_,some (5,true)⟩) (v:=?v11d) rfl (by kernel_rfl) (by kernel_rfl) (by kernel_rfl) (fun _ _ _ h=>h) (Or.inl ⟨by rfl,?h11d⟩) (by assumption) ?r11d
          case h11d=>(intro w hSw;(try dsimp only at hSw);go_simp;try with_reducible rfl)
          try simp only [Act.put,List.setIfInBounds_toArray,List.set_cons_zero,List.set_cons_succ]
          refine wpAnyH_take (i:=12) (oi:=⟨some 98,_,_,_,_,some (5,true)⟩) (v:=?v12d) rfl (by kernel_rfl) (by kernel_rfl) (by kernel_rfl) (fun _ _ _ h=>h) (Or.inl ⟨by rfl,?h12d⟩) (by assumption) ?r12d
          case h12d=>(intro w hSw;(try dsimp only at hSw);go_simp;try with_reducible rfl)
          try simp only [Act.put,List.setIfInBounds_toArray,List.set_cons_zero,List.set_cons_succ]
          refine wpAnyH_ready (rs:=[7]) (by kernel_rfl) (by simp) ?_;refine AllReadyH.cons (o:=⟨some 93,_,_,_,_,some (5,true)⟩) rfl (fun K hK=>?_) AllReadyH.nil;rw [if_pos (by kernel_rfl)]
          go_simp
          refine (HLF.out _ kd).mono ?_;rintro e w3 ⟨v3,rfl,hv3,ew3⟩;subst ew3;obtain ⟨p3,n3,c3,rfl⟩:=hv3.shape;refine hK.out _ _ (hHeld) (fun hHeld=>?_);clear hK K
          try simp only [Act.put,List.setIfInBounds_toArray,List.set_cons_zero,List.set_cons_succ]
          refine wpAnyH_ready (rs:=[13]) (by kernel_rfl) (by simp) ?_;refine AllReadyH.cons (o:=⟨some 99,_,_,_,_,some (5,true)⟩) rfl (fun K hK=>?_) AllReadyH.nil;rw [if_pos (by kernel_rfl)]
          go_simp
          refine (HEQ.out _ _ hv3 kd).mono ?_;rintro e w4 ⟨rfl,k4⟩;refine hK.out _ _ (HSS.out _ (kd.trans k4)) (fun hHeld=>?_);clear hK K
          try simp only [Act.put,List.setIfInBounds_toArray,List.set_cons_zero,List.set_cons_succ]
          refine wpAnyH_take (i:=14) (oi:=⟨some 100,_,_,_,_,none⟩) (v:=?v14d) rfl (by kernel_rfl) (by kernel_rfl) (by kernel_rfl) (fun _ _ _ h=>h) (Or.inl ⟨by rfl,?h14d⟩) (by assumption) ?r14d
          case h14d=>(intro w hSw;(try dsimp only at hSw);go_simp;try with_reducible rfl)
          try simp only [Act.put,List.setIfInBounds_toArray,List.set_cons_zero,List.set_cons_succ]
          refine wpAnyH_take (i:=15) (oi:=⟨some 101,_,_,_,_,none⟩) (v:=?v15d) rfl (by kernel_rfl) (by kernel_rfl) (by kernel_rfl) (fun _ _ _ h=>h) (Or.inl ⟨by rfl,?h15d⟩) (by assumption) ?r15d
          case h15d=>(intro w hSw;(try dsimp only at hSw);go_simp;try with_reducible rfl)
          try simp only [Act.put,List.setIfInBounds_toArray,List.set_cons_zero,List.set_cons_succ]
          refine wpAnyH_take (i:=16) (oi:=⟨some 102,_,_,_,_,some (15,true)⟩) (v:=?v16d) rfl (by kernel_rfl) (by kernel_rfl) (by kernel_rfl) (fun _ _ _ h=>h) (Or.inl ⟨by rfl,?h16d⟩) (by assumption) ?r16d
          case h16d=>(intro w hSw;(try dsimp only at hSw);go_simp;try with_reducible rfl)
          try simp only [Act.put,List.setIfInBounds_toArray,List.set_cons_zero,List.set_cons_succ]
          refine wpAnyH_take (i:=17) (oi:=⟨some 103,_,_,_,_,some (15,true)⟩) (v:=?v17d) rfl (by kernel_rfl) (by kernel_rfl) (by kernel_rfl) (fun _ _ _ h=>h) (Or.inl ⟨by rfl,?h17d⟩) (by assumption) ?r17d
          case h17d=>(intro w hSw;(try dsimp only at hSw);go_simp;try with_reducible rfl)
          try simp only [Act.put,List.setIfInBounds_toArray,List.set_cons_zero,List.set_cons_succ]
          refine wpAnyH_take (i:=18) (oi:=⟨some 104,_,_,_,_,some (15,true)⟩) (v:=?v18d) rfl (by kernel_rfl) (by kernel_rfl) (by kernel_rfl) (fun _ _ _ h=>h) (Or.inl ⟨by rfl,?h18d⟩) (by assumption) ?r18d
          case h18d=>(intro w hSw;(try dsimp only at hSw);go_simp;try with_reducible rfl)
          try simp only [Act.put,List.setIfInBounds_toArray,List.set_cons_zero,List.set_cons_succ]
          refine wpAnyH_take (i:=19) (oi:=⟨some 105,_,_,_,_,some (15,true)⟩) (v:=?v19d) rfl (by kernel_rfl) (by kernel_rfl) (by kernel_rfl) (fun _ _ _ h=>h) (Or.inl ⟨by rfl,?h19d⟩) (by assumption) ?r19d
          case h19d=>(intro w hSw;(try dsimp only at hSw);go_simp;try with_reducible rfl)
          try simp only [Act.put,List.setIfInBounds_toArray,List.set_cons_zero,List.set_cons_succ]
          refine wpAnyH_take (i:=20) (oi:=⟨some 106,_,_,_,_,none⟩) (v:=?v20d) rfl (by kernel_rfl) (by kernel_rfl) (by kernel_rfl) (fun _ _ _ h=>h) (Or.inl ⟨by rfl,?h20d⟩) (by assumption) ?r20d
          case h20d=>(intro w hSw;(try dsimp only at hSw);go_simp;try with_reducible rfl)
          try simp only [Act.put,List.setIfInBounds_toArray,List.set_cons_zero,List.set_cons_succ]
          refine wpAnyH_done (by kernel_rfl) ?_ _;refine NoPanic.normal ?_;have k5:=kd.trans k4;have HJ4:=hid (HJ.out.keeps k5);have HR5:=hid (HRF.out _ k5);clear hHeld HSS HLF HRF HEQ kd k4 hv3 k5;go_wp2_with fail;refine HR5.out.mono ?_;rintro e w5 ⟨v5,rfl,hv5,ew5⟩;subst ew5;have HPUT:=hid (l13Put_any w.heap.size 3 i j ls2 tb2.enc _ _ w4 HJ4.out.ln hv5 HJ4.out.t.size (by omega) (by have:=HLB.out;omega));obtain ⟨p5,n5,c5,rfl⟩:=hv5.shape;clear hv5 HR5;go_wp2_with fail;refine HPUT.out.mono ?_;rintro e w6 ⟨v6,rfl,hv6,wm,km,tm⟩;have HD:=hid (show DtI B w.heap.size w (.slice ps nS cs) (.slice pa na ca) (.slice ph G.length ch) L ta G ls (i+1) v6 w6 from ⟨ls2++[⟨3,i,j,tb2.enc⟩],by simp;omega,HJ4.out.put km tm hB hv6,.inr ⟨⟨3,i,j,tb2.enc⟩,by rw [HLS.out],⟨tb2,rfl,HLB.out⟩,rfl,⟨by simp,by have:=congrArg List.length HLS.out;simp only;omega⟩,⟨by simp,by have:=congrArg List.length HLS.out;simp only;omega⟩⟩⟩);clear hv6 km tm HPUT HJ4;go_wp2_with fail
          as_aux_lemma=>
           go_roundw
           case rel=>exact ⟨j+1,by go_num,by omega,HD.out⟩
           case measure=>simp [intOf];omega
          -- </INNER>
         ·have hjl':¬(j:Int)<ls2.length:=by omega
          have HD:=hid (show DtI B w.heap.size w (.slice ps nS cs) (.slice pa na ca) (.slice ph G.length ch) L ta G ls (i+1) (.slice p2 ls2.length c2) wr from ⟨ls2,hil,hJ,HC.out⟩);clear hJ HJ;go_wp2_with fail
          as_aux_lemma=>
           go_roundw
           case rel=>exact ⟨i+1,by go_num,by omega,HD.out⟩
           case measure=>simp [intOf];omega
       ·have hil1':¬(i:Int)<ls1.length:=by omega
        clear HD0
        rcases hln1 with hl1 | hl1
        rotate_left
        ·have ej:((ls1.length:Int)==(ls.length:Int))=false:=beq_eq_false_iff_ne.2 (by omega)
         have HR:=hid (DtI.rd hJ hC HLK.out hk1 HSM.out HWF.out);clear hl1 hJ hC;go_wp2_with fail
         as_aux_lemma=>
          go_roundw
          case rel=>exact ⟨k-1,by go_num,HR.out⟩
          case measure=>simp [intOf];omega
        have hls:ls=ls1:=by
         rcases hC with e | ⟨x,e,_⟩
         ·exact e.symm
         ·exfalso;rw [e] at hl1;simp at hl1
        subst hls;clear hC hl1;have HJ:=hid hJ;clear hJ
        by_cases hl0:ls.length=0
        ·have hl0':¬(0:Int)<ls.length:=by omega
         have HR:=hid (RdI.same HJ.out HLK.out HSM.out HWF.out);clear hl0;go_wp2_with fail
         as_aux_lemma=>
          go_roundw
          case rel=>exact ⟨k-1,by go_num,HR.out⟩
          case measure=>simp [intOf];omega
        obtain ⟨q,hq⟩:∃ q,ls.length=q+1:=⟨ls.length-1,by omega⟩
        have hql:q<ls.length:=by omega
        obtain ⟨gl,q1,m1,cq1,eb,hb,⟨z0,z1,z2,z3⟩,ho⟩:=HJ.out.ln.get q hql;subst eb;obtain ⟨tq,etq,hlq⟩:=HSM.out _ (List.getElem_mem hql);obtain ⟨gq,cq,e1,-,-,-,-⟩:=ho.shape (by rw [etq];exact Fm.enc_pos tq)
        cases e1
        rw [etq] at ho z3;have HNA:=hid (ho.nds (by omega));have HR:=hid (RdI.same HJ.out HLK.out HSM.out HWF.out);have HTQ:=hid etq;have HQ:=hid hq
        have hq0:(0:Int)<(q:Int)+1:=by omega
        rw [hq] at hlc1 hil1';clear z0 z1 z2 ho etq hb hl0 hi2;generalize hfl:tq.enc.length=fl at*
        by_cases h12:fl<12
        rotate_left
        ·have h12':¬((fl:Nat):Int)<12:=by omega
         clear h12 HNA;go_wp2_with fail
         as_aux_lemma=>
          go_roundw
          case rel=>exact ⟨k-1,by go_num,HR.out⟩
          case measure=>simp [intOf];omega
        have h12':((fl:Nat):Int)<12:=by omega
        have HFL:=hid (show tq.enc.length<12 by omega);clear HR
        -- <LIFT>
        have hax:=HJ.out.a.nds (show ta.enc.length≤2147483648 by omega);have HIM1:=hid (fun (W:World) (kW:Keeps wr W)=>l13Imply_any ta.enc tq.enc _ _ W (hax.keeps kW) (HNA.out.keeps kW) (by have:=HFL.out;omega));have HIM2:=hid (fun (W:World) (v3:Value) (kW:Keeps wr W) (hv3:Nds W v3 (⟨4,0⟩::(ta.enc++tq.enc)))=>l13Imply_any tq.enc (⟨4,0⟩::(ta.enc++tq.enc)) _ v3 W (HNA.out.keeps kW) hv3 (by have:=HFL.out;simp only [List.length_cons,List.length_append];omega))
        have HPUT:=hid (show ∀ (W:World) (v5:Value) (kW:Keeps wr W) (hv5:Nds W v5 (⟨4,0⟩::(tq.enc++⟨4,0⟩::(ta.enc++tq.enc)))),Calls Tryz.prog 82 #[.slice (some ⟨gl,0,none⟩) (q+1) c1,.int .i64 1,.int .i64 0,.int .i64 0,v5] W (fun e w'=>∃ g5 c5 g6 n6 c6,e=.returned (.tuple #[.slice (some ⟨g5,0,none⟩) (q+2) c5,.int .i64 ((q:Int)+1)])∧w'.cell? ⟨g5,q*4+3,none⟩=some (.slice g6 n6 c6)∧Nds w' (.slice g6 n6 c6) tq.enc∧q+2≤c5∧c5≤9223372036854775807∧DJ B w.heap.size w w' (.slice ps nS cs) (.slice pa na ca) (.slice ph G.length ch) (.slice (some ⟨g5,0,none⟩) (q+2) c5) L ta G (ls++[⟨1,0,0,⟨4,0⟩::(tq.enc++⟨4,0⟩::(ta.enc++tq.enc))⟩])) from by
         intro W v5 kW hv5;have hp:=l13Put_any w.heap.size 1 0 0 ls (⟨4,0⟩::(tq.enc++⟨4,0⟩::(ta.enc++tq.enc))) _ v5 W (HJ.out.keeps kW).ln hv5 (HJ.out.keeps kW).t.size (by have:=HQ.out;have:=HLK.out;omega) (by have:=HFL.out;simp only [List.length_cons,List.length_append];omega);rw [HQ.out] at hp;refine hp.mono ?_;rintro e w6 ⟨v6,rfl,hv6,wm,km,tm⟩;have hD:=(HJ.out.keeps kW).put km tm hB hv6;obtain ⟨p6,c6,rfl,h61,h62⟩:=hv6.sh;unfold maxLen at h62
         have e6:(ls++[⟨1,0,0,⟨4,0⟩::(tq.enc++⟨4,0⟩::(ta.enc++tq.enc))⟩]:List Ln).length=q+2:=by simp [HQ.out]
         have hq6:q<(ls++[⟨1,0,0,⟨4,0⟩::(tq.enc++⟨4,0⟩::(ta.enc++tq.enc))⟩]:List Ln).length:=by omega
         obtain ⟨g5,p7,n7,c7,eg,-,⟨-,-,-,y3⟩,ho6⟩:=hv6.get q hq6;subst eg
         have ea:(ls++[⟨1,0,0,⟨4,0⟩::(tq.enc++⟨4,0⟩::(ta.enc++tq.enc))⟩]:List Ln)[q].a=tq.enc:=by
          rw [List.getElem_append_left (by have:=HQ.out;omega)];exact HTQ.out
         rw [ea] at ho6;rw [e6] at h61 hD
         exact ⟨g5,c6,p7,_,c7,by rw [e6];simp,y3,ho6.nds (by have:=HFL.out;omega),h61,by omega,hD⟩)
        have hlen1:tq.enc.length≤40:=by have:=HFL.out;omega
        have HLN1:=hid hlen1;clear hlen1;rw [hq]
        have hx1:(q:Int)<(q:Int)+1:=by omega
        have hwq:IntKind.i64.wrap (q:Int)=(q:Int):=by
         simp [IntKind.wrap,IntKind.bits,IntKind.signed];omega
        go_upto_region 24 with fail
        have kd:=(Keeps.refl wr).drew;have zd:=kd.cell z3;refine wp_region_noPanic ?_;refine wp_region_any (by kernel_rfl) ?_;change wpAny _ _ _ _ _ _ _ (World.drew _);refine wpAny_take (i:=0) (oi:=⟨some 135,_,_,_,_,none⟩) (v:=?vq1) rfl (by kernel_rfl) (by kernel_rfl) (by kernel_rfl) (fun _ _ _ h=>h) (Or.inl ⟨by rfl,?hq1⟩) ?rq1
        case hq1=>(intro w;go_simp;try with_reducible rfl)
        try simp only [Act.put,List.setIfInBounds_toArray,List.set_cons_zero,List.set_cons_succ]
        refine wpAny_take (i:=1) (oi:=⟨some 136,_,_,_,_,none⟩) (v:=?vq2) rfl (by kernel_rfl) (by kernel_rfl) (by kernel_rfl) (fun _ _ _ h=>h) (Or.inl ⟨by rfl,?hq2⟩) ?rq2
        case hq2=>(intro w;go_simp;try with_reducible rfl)
        try simp only [Act.put,List.setIfInBounds_toArray,List.set_cons_zero,List.set_cons_succ]
        refine wpAny_take (i:=2) (oi:=⟨some 137,_,_,_,_,none⟩) (v:=?vq3) rfl (by kernel_rfl) (by kernel_rfl) (by kernel_rfl) (fun _ _ _ h=>h) (Or.inl ⟨by rfl,?hq3⟩) ?rq3
        case hq3=>(intro w;go_simp;try with_reducible rfl)
        try simp only [Act.put,List.setIfInBounds_toArray,List.set_cons_zero,List.set_cons_succ]
        refine wpAny_take (i:=3) (oi:=⟨some 138,_,_,_,_,none⟩) (v:=?vq4) rfl (by kernel_rfl) (by kernel_rfl) (by kernel_rfl) (fun _ _ _ h=>h) (Or.inl ⟨by rfl,?hq4⟩) ?rq4
        case hq4=>(intro w;go_simp;try with_reducible rfl)
        try simp only [Act.put,List.setIfInBounds_toArray,List.set_cons_zero,List.set_cons_succ]
        refine wpAny_take (i:=4) (oi:=⟨some 139,_,_,_,_,none⟩) (v:=?vq5) rfl (by kernel_rfl) (by kernel_rfl) (by kernel_rfl) (fun _ _ _ h=>h) (Or.inl ⟨by rfl,?hq5⟩) ?rq5
        case hq5=>(intro w;go_simp;try with_reducible rfl)
        try simp only [Act.put,List.setIfInBounds_toArray,List.set_cons_zero,List.set_cons_succ]
        refine wpAny_take (i:=5) (oi:=⟨some 140,_,_,_,_,none⟩) (v:=?vq6) rfl (by kernel_rfl) (by kernel_rfl) (by kernel_rfl) (fun _ _ _ h=>h) (Or.inl ⟨by rfl,?hq6⟩) ?rq6
        case hq6=>(intro w;go_simp;try with_reducible rfl)
        try simp only [Act.put,List.setIfInBounds_toArray,List.set_cons_zero,List.set_cons_succ]
        refine wpAny_take (i:=7) (oi:=⟨some 142,_,_,_,_,none⟩) (v:=?vq7) rfl (by kernel_rfl) (by kernel_rfl) (by kernel_rfl) (fun _ _ _ h=>h) (Or.inl ⟨by rfl,?hq7⟩) ?rq7
        case hq7=>(intro w;go_simp;try with_reducible rfl)
        try simp only [Act.put,List.setIfInBounds_toArray,List.set_cons_zero,List.set_cons_succ]
        refine wpAny_take (i:=8) (oi:=⟨some 143,_,_,_,_,none⟩) (v:=?vq8) rfl (by kernel_rfl) (by kernel_rfl) (by kernel_rfl) (fun _ _ _ h=>h) (Or.inl ⟨by rfl,?hq8⟩) ?rq8
        case hq8=>(intro w;go_simp;try with_reducible rfl)
        try simp only [Act.put,List.setIfInBounds_toArray,List.set_cons_zero,List.set_cons_succ]
        refine wpAny_take (i:=9) (oi:=⟨some 144,_,_,_,_,none⟩) (v:=?vq9) rfl (by kernel_rfl) (by kernel_rfl) (by kernel_rfl) (fun _ _ _ h=>h) (Or.inl ⟨by rfl,?hq9⟩) ?rq9
        case hq9=>(intro w;go_simp;try with_reducible rfl)
        try simp only [Act.put,List.setIfInBounds_toArray,List.set_cons_zero,List.set_cons_succ]
        refine wpAny_take (i:=10) (oi:=⟨some 145,_,_,_,_,none⟩) (v:=?vq10) rfl (by kernel_rfl) (by kernel_rfl) (by kernel_rfl) (fun _ _ _ h=>h) (Or.inl ⟨by rfl,?hq10⟩) ?rq10
        case hq10=>(intro w;go_simp;try with_reducible rfl)
        try simp only [Act.put,List.setIfInBounds_toArray,List.set_cons_zero,List.set_cons_succ]
        refine wpAny_take (i:=11) (oi:=⟨some 146,_,_,_,_,none⟩) (v:=?vq11) rfl (by kernel_rfl) (by kernel_rfl) (by kernel_rfl) (fun _ _ _ h=>h) (Or.inl ⟨by rfl,?hq11⟩) ?rq11
        case hq11=>(intro w;go_simp;try with_reducible rfl)
        try simp only [Act.put,List.setIfInBounds_toArray,List.set_cons_zero,List.set_cons_succ]
        refine wpAny_take (i:=12) (oi:=⟨some 147,_,_,_,_,none⟩) (v:=?vq12) rfl (by kernel_rfl) (by kernel_rfl) (by kernel_rfl) (fun _ _ _ h=>h) (Or.inl ⟨by rfl,?hq12⟩) ?rq12
        case hq12=>(intro w;go_simp;try with_reducible rfl)
        try simp only [Act.put,List.setIfInBounds_toArray,List.set_cons_zero,List.set_cons_succ]
        refine wpAny_ready (rs:=[6,13]) (by kernel_rfl) (by simp) ?_;refine AllReady.cons (o:=⟨some 141,_,_,_,_,none⟩) rfl (fun K hK=>?_) ?_
        ·have HK:=hid hK
         clear hK;rw [if_pos (by kernel_rfl)]
         go_simp
         refine HK.out _ _ ?_;clear HK K
         try simp only [Act.put,List.setIfInBounds_toArray,List.set_cons_zero,List.set_cons_succ]
         refine wpAny_ready (rs:=[13]) (by kernel_rfl) (by simp) ?_;refine AllReady.cons (o:=⟨some 148,_,_,_,_,none⟩) rfl (fun K hK=>?_) AllReady.nil;have HK:=hid hK;clear hK;rw [if_pos (by kernel_rfl)]
         go_simp
         refine HK.out _ _ ?_;clear HK K
         try simp only [Act.put,List.setIfInBounds_toArray,List.set_cons_zero,List.set_cons_succ]
         refine wpAny_ready (rs:=[14]) (by kernel_rfl) (by simp) ?_;refine AllReady.cons (o:=⟨some 149,_,_,_,_,none⟩) rfl (fun K hK=>?_) AllReady.nil;have HK:=hid hK;clear hK;rw [if_pos (by kernel_rfl)]
         go_simp
         refine (HIM1.out _ kd).mono ?_;rintro e w3 ⟨v3,rfl,hv3,k3⟩;have z4:=k3.cell zd;have hn3:=hv3.nds (by have:=HLN1.out;simp only [List.length_cons,List.length_append];omega);obtain ⟨p3,n3,c3,rfl⟩:=hv3.own_shape;clear hv3;refine HK.out _ _ ?_;clear HK K
         try simp only [Act.put,List.setIfInBounds_toArray,List.set_cons_zero,List.set_cons_succ]
         refine wpAny_ready (rs:=[15]) (by kernel_rfl) (by simp) ?_;refine AllReady.cons (o:=⟨some 150,_,_,_,_,none⟩) rfl (fun K hK=>?_) AllReady.nil;have HK:=hid hK;clear hK;rw [if_pos (by kernel_rfl)]
         go_simp
         refine (HIM2.out _ _ (kd.trans k3) hn3).mono ?_;rintro e w4 ⟨v4,rfl,hv4,k4⟩;have hn4:=hv4.nds (by have:=HLN1.out;simp only [List.length_cons,List.length_append];omega);obtain ⟨p4,n4,c4,rfl⟩:=hv4.own_shape;clear hv4;refine HK.out _ _ ?_;clear HK K
         try simp only [Act.put,List.setIfInBounds_toArray,List.set_cons_zero,List.set_cons_succ]
         refine wpAny_ready (rs:=[16]) (by kernel_rfl) (by simp) ?_;refine AllReady.cons (o:=⟨some 151,_,_,_,_,none⟩) rfl (fun K hK=>?_) AllReady.nil;have HK:=hid hK;clear hK;rw [if_pos (by kernel_rfl)]
         go_simp
         refine (HPUT.out _ _ ((kd.trans k3).trans k4) hn4).mono ?_;rintro e w5 ⟨g5,c5,g6,n6,c6,rfl,y5,hn5,hc51,hc52,hD5⟩;refine HK.out _ _ ?_;clear HK K
         try simp only [Act.put,List.setIfInBounds_toArray,List.set_cons_zero,List.set_cons_succ]
         refine wpAny_take (i:=17) (oi:=⟨some 134,_,_,_,_,none⟩) (v:=?vq13) rfl (by kernel_rfl) (by kernel_rfl) (by kernel_rfl) (fun _ _ _ h=>h) (Or.inl ⟨by rfl,?hq13⟩) ?rq13
         case hq13=>(intro w;go_simp;try with_reducible rfl)
         try simp only [Act.put,List.setIfInBounds_toArray,List.set_cons_zero,List.set_cons_succ]
         refine wpAny_take (i:=18) (oi:=⟨some 152,_,_,_,_,none⟩) (v:=?vq14) rfl (by kernel_rfl) (by kernel_rfl) (by kernel_rfl) (fun _ _ _ h=>h) (Or.inl ⟨by rfl,?hq14⟩) ?rq14
         case hq14=>(intro w;go_simp;try with_reducible rfl)
         try simp only [Act.put,List.setIfInBounds_toArray,List.set_cons_zero,List.set_cons_succ]
         refine wpAny_take (i:=19) (oi:=⟨some 153,_,_,_,_,none⟩) (v:=?vq15) rfl (by kernel_rfl) (by kernel_rfl) (by kernel_rfl) (fun _ _ _ h=>h) (Or.inl ⟨by rfl,?hq15⟩) ?rq15
         case hq15=>(intro w;go_simp;try with_reducible rfl)
         try simp only [Act.put,List.setIfInBounds_toArray,List.set_cons_zero,List.set_cons_succ]
         refine wpAny_take (i:=20) (oi:=⟨some 9,_,_,_,_,none⟩) (v:=?vq16) rfl (by kernel_rfl) (by kernel_rfl) (by kernel_rfl) (fun _ _ _ h=>h) (Or.inl ⟨by rfl,?hq16⟩) ?rq16
         case hq16=>(intro w;go_simp;try with_reducible rfl)
         try simp only [Act.put,List.setIfInBounds_toArray,List.set_cons_zero,List.set_cons_succ]
         refine wpAny_done (by kernel_rfl) ?_ _;refine NoPanic.normal ?_;have HD5:=hid hD5;have HN5:=hid hn5;clear hD5 hn5 hn3 hn4 k3 k4 z4 zd kd HPUT HIM1 HIM2 z3;have HI5:=hid (l13Imply_any ta.enc tq.enc _ _ w5 (HD5.out.a.nds (show ta.enc.length≤2147483648 by omega)) HN5.out (by have:=HLN1.out;omega));go_wp2_with fail;refine HI5.out.mono ?_;rintro e wA ⟨vA,rfl,hvA,kA⟩;have HD6:=hid (HD5.out.keeps kA);have hnA:=hvA.nds (by have:=HLN1.out;simp only [List.length_cons,List.length_append];omega);obtain ⟨pA,nA,cA,rfl⟩:=hvA.own_shape;have HPA:=hid (l13Put_any w.heap.size 3 ((q:Int)+1) (q:Int) (ls++[⟨1,0,0,(⟨4,0⟩::(tq.enc++⟨4,0⟩::(ta.enc++tq.enc)))⟩]) (⟨4,0⟩::(ta.enc++tq.enc)) _ _ wA HD6.out.ln hnA HD6.out.t.size (by have:=HQ.out;have:=HLK.out;simp only [List.length_append,List.length_cons,List.length_nil];omega) (by have:=HLN1.out;simp only [List.length_cons,List.length_append];omega));clear hvA hnA kA HI5 HD5 HN5 y5;go_wp2_with fail;refine HPA.out.mono ?_;rintro e wB ⟨vB,rfl,hvB,wm,km,tm⟩;have HRB:=hid (show RdI B w.heap.size w (.slice ps nS cs) (.slice pa na ca) (.slice ph G.length ch) L ta G (k-1) vB wB from ⟨_,HD6.out.put km tm hB hvB,by have:=HQ.out;have:=HLK.out;simp only [List.length_append,List.length_cons,List.length_nil];omega,sm_snoc (sm_snoc HSM.out ⟨.imp tq (.imp ta tq),rfl,by have:=HFL.out;simp only [Fm.enc,List.length_append,List.length_cons];omega⟩) ⟨.imp ta tq,rfl,by have:=HFL.out;simp only [Fm.enc,List.length_append,List.length_cons];omega⟩,(HWF.out.snoc (fun h=>absurd h (by simp)) (fun h=>absurd h (by simp)) (fun h=>absurd h (by simp))).snoc (fun _=>⟨⟨by simp only;omega,by have:=HQ.out;simp only [List.length_append,List.length_cons,List.length_nil];omega⟩,⟨by simp only;omega,by have:=HQ.out;simp only [List.length_append,List.length_cons,List.length_nil];omega⟩⟩) (fun h=>absurd h (by simp)) (fun h=>absurd h (by simp))⟩);clear HD6 hvB km tm HPA;go_wp2_with fail
         as_aux_lemma=>
          go_roundw
          case rel=>exact ⟨k-1,by go_num,HRB.out⟩
          case measure=>simp [intOf];omega
        refine AllReady.cons (o:=⟨some 148,_,_,_,_,none⟩) rfl (fun K hK=>?_) AllReady.nil;have HK:=hid hK;clear hK;rw [if_pos (by kernel_rfl)]
        go_simp
        refine HK.out _ _ ?_;clear HK K
        try simp only [Act.put,List.setIfInBounds_toArray,List.set_cons_zero,List.set_cons_succ]
        refine wpAny_ready (rs:=[6,14]) (by kernel_rfl) (by simp) ?_;refine AllReady.cons (o:=⟨some 141,_,_,_,_,none⟩) rfl (fun K hK=>?_) ?_
        ·have HK:=hid hK
         clear hK;rw [if_pos (by kernel_rfl)]
         go_simp
         refine HK.out _ _ ?_;clear HK K
         try simp only [Act.put,List.setIfInBounds_toArray,List.set_cons_zero,List.set_cons_succ]
         refine wpAny_ready (rs:=[14]) (by kernel_rfl) (by simp) ?_;refine AllReady.cons (o:=⟨some 149,_,_,_,_,none⟩) rfl (fun K hK=>?_) AllReady.nil;have HK:=hid hK;clear hK;rw [if_pos (by kernel_rfl)]
         go_simp
         refine (HIM1.out _ kd).mono ?_;rintro e w3 ⟨v3,rfl,hv3,k3⟩;have z4:=k3.cell zd;have hn3:=hv3.nds (by have:=HLN1.out;simp only [List.length_cons,List.length_append];omega);obtain ⟨p3,n3,c3,rfl⟩:=hv3.own_shape;clear hv3;refine HK.out _ _ ?_;clear HK K
         try simp only [Act.put,List.setIfInBounds_toArray,List.set_cons_zero,List.set_cons_succ]
         refine wpAny_ready (rs:=[15]) (by kernel_rfl) (by simp) ?_;refine AllReady.cons (o:=⟨some 150,_,_,_,_,none⟩) rfl (fun K hK=>?_) AllReady.nil;have HK:=hid hK;clear hK;rw [if_pos (by kernel_rfl)]
         go_simp
         refine (HIM2.out _ _ (kd.trans k3) hn3).mono ?_;rintro e w4 ⟨v4,rfl,hv4,k4⟩;have hn4:=hv4.nds (by have:=HLN1.out;simp only [List.length_cons,List.length_append];omega);obtain ⟨p4,n4,c4,rfl⟩:=hv4.own_shape;clear hv4;refine HK.out _ _ ?_;clear HK K
         try simp only [Act.put,List.setIfInBounds_toArray,List.set_cons_zero,List.set_cons_succ]
         refine wpAny_ready (rs:=[16]) (by kernel_rfl) (by simp) ?_;refine AllReady.cons (o:=⟨some 151,_,_,_,_,none⟩) rfl (fun K hK=>?_) AllReady.nil;have HK:=hid hK;clear hK;rw [if_pos (by kernel_rfl)]
         go_simp
         refine (HPUT.out _ _ ((kd.trans k3).trans k4) hn4).mono ?_;rintro e w5 ⟨g5,c5,g6,n6,c6,rfl,y5,hn5,hc51,hc52,hD5⟩;refine HK.out _ _ ?_;clear HK K
         try simp only [Act.put,List.setIfInBounds_toArray,List.set_cons_zero,List.set_cons_succ]
         refine wpAny_take (i:=17) (oi:=⟨some 134,_,_,_,_,none⟩) (v:=?vq17) rfl (by kernel_rfl) (by kernel_rfl) (by kernel_rfl) (fun _ _ _ h=>h) (Or.inl ⟨by rfl,?hq17⟩) ?rq17
         case hq17=>(intro w;go_simp;try with_reducible rfl)
         try simp only [Act.put,List.setIfInBounds_toArray,List.set_cons_zero,List.set_cons_succ]
         refine wpAny_take (i:=18) (oi:=⟨some 152,_,_,_,_,none⟩) (v:=?vq18) rfl (by kernel_rfl) (by kernel_rfl) (by kernel_rfl) (fun _ _ _ h=>h) (Or.inl ⟨by rfl,?hq18⟩) ?rq18
         case hq18=>(intro w;go_simp;try with_reducible rfl)
         try simp only [Act.put,List.setIfInBounds_toArray,List.set_cons_zero,List.set_cons_succ]
         refine wpAny_take (i:=19) (oi:=⟨some 153,_,_,_,_,none⟩) (v:=?vq19) rfl (by kernel_rfl) (by kernel_rfl) (by kernel_rfl) (fun _ _ _ h=>h) (Or.inl ⟨by rfl,?hq19⟩) ?rq19
         case hq19=>(intro w;go_simp;try with_reducible rfl)
         try simp only [Act.put,List.setIfInBounds_toArray,List.set_cons_zero,List.set_cons_succ]
         refine wpAny_take (i:=20) (oi:=⟨some 9,_,_,_,_,none⟩) (v:=?vq20) rfl (by kernel_rfl) (by kernel_rfl) (by kernel_rfl) (fun _ _ _ h=>h) (Or.inl ⟨by rfl,?hq20⟩) ?rq20
         case hq20=>(intro w;go_simp;try with_reducible rfl)
         try simp only [Act.put,List.setIfInBounds_toArray,List.set_cons_zero,List.set_cons_succ]
         refine wpAny_done (by kernel_rfl) ?_ _;refine NoPanic.normal ?_;have HD5:=hid hD5;have HN5:=hid hn5;clear hD5 hn5 hn3 hn4 k3 k4 z4 zd kd HPUT HIM1 HIM2 z3;have HI5:=hid (l13Imply_any ta.enc tq.enc _ _ w5 (HD5.out.a.nds (show ta.enc.length≤2147483648 by omega)) HN5.out (by have:=HLN1.out;omega));go_wp2_with fail;refine HI5.out.mono ?_;rintro e wA ⟨vA,rfl,hvA,kA⟩;have HD6:=hid (HD5.out.keeps kA);have hnA:=hvA.nds (by have:=HLN1.out;simp only [List.length_cons,List.length_append];omega);obtain ⟨pA,nA,cA,rfl⟩:=hvA.own_shape;have HPA:=hid (l13Put_any w.heap.size 3 ((q:Int)+1) (q:Int) (ls++[⟨1,0,0,(⟨4,0⟩::(tq.enc++⟨4,0⟩::(ta.enc++tq.enc)))⟩]) (⟨4,0⟩::(ta.enc++tq.enc)) _ _ wA HD6.out.ln hnA HD6.out.t.size (by have:=HQ.out;have:=HLK.out;simp only [List.length_append,List.length_cons,List.length_nil];omega) (by have:=HLN1.out;simp only [List.length_cons,List.length_append];omega));clear hvA hnA kA HI5 HD5 HN5 y5;go_wp2_with fail;refine HPA.out.mono ?_;rintro e wB ⟨vB,rfl,hvB,wm,km,tm⟩;have HRB:=hid (show RdI B w.heap.size w (.slice ps nS cs) (.slice pa na ca) (.slice ph G.length ch) L ta G (k-1) vB wB from ⟨_,HD6.out.put km tm hB hvB,by have:=HQ.out;have:=HLK.out;simp only [List.length_append,List.length_cons,List.length_nil];omega,sm_snoc (sm_snoc HSM.out ⟨.imp tq (.imp ta tq),rfl,by have:=HFL.out;simp only [Fm.enc,List.length_append,List.length_cons];omega⟩) ⟨.imp ta tq,rfl,by have:=HFL.out;simp only [Fm.enc,List.length_append,List.length_cons];omega⟩,(HWF.out.snoc (fun h=>absurd h (by simp)) (fun h=>absurd h (by simp)) (fun h=>absurd h (by simp))).snoc (fun _=>⟨⟨by simp only;omega,by have:=HQ.out;simp only [List.length_append,List.length_cons,List.length_nil];omega⟩,⟨by simp only;omega,by have:=HQ.out;simp only [List.length_append,List.length_cons,List.length_nil];omega⟩⟩) (fun h=>absurd h (by simp)) (fun h=>absurd h (by simp))⟩);clear HD6 hvB km tm HPA;go_wp2_with fail
         as_aux_lemma=>
          go_roundw
          case rel=>exact ⟨k-1,by go_num,HRB.out⟩
          case measure=>simp [intOf];omega
        refine AllReady.cons (o:=⟨some 149,_,_,_,_,none⟩) rfl (fun K hK=>?_) AllReady.nil;have HK:=hid hK;clear hK;rw [if_pos (by kernel_rfl)]
        go_simp
        refine (HIM1.out _ kd).mono ?_;rintro e w3 ⟨v3,rfl,hv3,k3⟩;have z4:=k3.cell zd;have hn3:=hv3.nds (by have:=HLN1.out;simp only [List.length_cons,List.length_append];omega);obtain ⟨p3,n3,c3,rfl⟩:=hv3.own_shape;clear hv3;refine HK.out _ _ ?_;clear HK K
        try simp only [Act.put,List.setIfInBounds_toArray,List.set_cons_zero,List.set_cons_succ]
        refine wpAny_ready (rs:=[6]) (by kernel_rfl) (by simp) ?_;refine AllReady.cons (o:=⟨some 141,_,_,_,_,none⟩) rfl (fun K hK=>?_) AllReady.nil;have HK:=hid hK;clear hK;rw [if_pos (by kernel_rfl)]
        go_simp
        refine HK.out _ _ ?_;clear HK K
        try simp only [Act.put,List.setIfInBounds_toArray,List.set_cons_zero,List.set_cons_succ]
        refine wpAny_ready (rs:=[15]) (by kernel_rfl) (by simp) ?_;refine AllReady.cons (o:=⟨some 150,_,_,_,_,none⟩) rfl (fun K hK=>?_) AllReady.nil;have HK:=hid hK;clear hK;rw [if_pos (by kernel_rfl)]
        go_simp
        refine (HIM2.out _ _ (kd.trans k3) hn3).mono ?_;rintro e w4 ⟨v4,rfl,hv4,k4⟩;have hn4:=hv4.nds (by have:=HLN1.out;simp only [List.length_cons,List.length_append];omega);obtain ⟨p4,n4,c4,rfl⟩:=hv4.own_shape;clear hv4;refine HK.out _ _ ?_;clear HK K
        try simp only [Act.put,List.setIfInBounds_toArray,List.set_cons_zero,List.set_cons_succ]
        refine wpAny_ready (rs:=[16]) (by kernel_rfl) (by simp) ?_;refine AllReady.cons (o:=⟨some 151,_,_,_,_,none⟩) rfl (fun K hK=>?_) AllReady.nil;have HK:=hid hK;clear hK;rw [if_pos (by kernel_rfl)]
        go_simp
        refine (HPUT.out _ _ ((kd.trans k3).trans k4) hn4).mono ?_;rintro e w5 ⟨g5,c5,g6,n6,c6,rfl,y5,hn5,hc51,hc52,hD5⟩;refine HK.out _ _ ?_;clear HK K
        try simp only [Act.put,List.setIfInBounds_toArray,List.set_cons_zero,List.set_cons_succ]
        refine wpAny_take (i:=17) (oi:=⟨some 134,_,_,_,_,none⟩) (v:=?vq21) rfl (by kernel_rfl) (by kernel_rfl) (by kernel_rfl) (fun _ _ _ h=>h) (Or.inl ⟨by rfl,?hq21⟩) ?rq21
        case hq21=>(intro w;go_simp;try with_reducible rfl)
        try simp only [Act.put,List.setIfInBounds_toArray,List.set_cons_zero,List.set_cons_succ]
        refine wpAny_take (i:=18) (oi:=⟨some 152,_,_,_,_,none⟩) (v:=?vq22) rfl (by kernel_rfl) (by kernel_rfl) (by kernel_rfl) (fun _ _ _ h=>h) (Or.inl ⟨by rfl,?hq22⟩) ?rq22
        case hq22=>(intro w;go_simp;try with_reducible rfl)
        try simp only [Act.put,List.setIfInBounds_toArray,List.set_cons_zero,List.set_cons_succ]
        refine wpAny_take (i:=19) (oi:=⟨some 153,_,_,_,_,none⟩) (v:=?vq23) rfl (by kernel_rfl) (by kernel_rfl) (by kernel_rfl) (fun _ _ _ h=>h) (Or.inl ⟨by rfl,?hq23⟩) ?rq23
        case hq23=>(intro w;go_simp;try with_reducible rfl)
        try simp only [Act.put,List.setIfInBounds_toArray,List.set_cons_zero,List.set_cons_succ]
        refine wpAny_take (i:=20) (oi:=⟨some 9,_,_,_,_,none⟩) (v:=?vq24) rfl (by kernel_rfl) (by kernel_rfl) (by kernel_rfl) (fun _ _ _ h=>h) (Or.inl ⟨by rfl,?hq24⟩) ?rq24
        case hq24=>(intro w;go_simp;try with_reducible rfl)
        try simp only [Act.put,List.setIfInBounds_toArray,List.set_cons_zero,List.set_cons_succ]
        refine wpAny_done (by kernel_rfl) ?_ _;refine NoPanic.normal ?_;have HD5:=hid hD5;have HN5:=hid hn5;clear hD5 hn5 hn3 hn4 k3 k4 z4 zd kd HPUT HIM1 HIM2 z3;have HI5:=hid (l13Imply_any ta.enc tq.enc _ _ w5 (HD5.out.a.nds (show ta.enc.length≤2147483648 by omega)) HN5.out (by have:=HLN1.out;omega));go_wp2_with fail;refine HI5.out.mono ?_;rintro e wA ⟨vA,rfl,hvA,kA⟩;have HD6:=hid (HD5.out.keeps kA);have hnA:=hvA.nds (by have:=HLN1.out;simp only [List.length_cons,List.length_append];omega);obtain ⟨pA,nA,cA,rfl⟩:=hvA.own_shape;have HPA:=hid (l13Put_any w.heap.size 3 ((q:Int)+1) (q:Int) (ls++[⟨1,0,0,(⟨4,0⟩::(tq.enc++⟨4,0⟩::(ta.enc++tq.enc)))⟩]) (⟨4,0⟩::(ta.enc++tq.enc)) _ _ wA HD6.out.ln hnA HD6.out.t.size (by have:=HQ.out;have:=HLK.out;simp only [List.length_append,List.length_cons,List.length_nil];omega) (by have:=HLN1.out;simp only [List.length_cons,List.length_append];omega));clear hvA hnA kA HI5 HD5 HN5 y5;go_wp2_with fail;refine HPA.out.mono ?_;rintro e wB ⟨vB,rfl,hvB,wm,km,tm⟩;have HRB:=hid (show RdI B w.heap.size w (.slice ps nS cs) (.slice pa na ca) (.slice ph G.length ch) L ta G (k-1) vB wB from ⟨_,HD6.out.put km tm hB hvB,by have:=HQ.out;have:=HLK.out;simp only [List.length_append,List.length_cons,List.length_nil];omega,sm_snoc (sm_snoc HSM.out ⟨.imp tq (.imp ta tq),rfl,by have:=HFL.out;simp only [Fm.enc,List.length_append,List.length_cons];omega⟩) ⟨.imp ta tq,rfl,by have:=HFL.out;simp only [Fm.enc,List.length_append,List.length_cons];omega⟩,(HWF.out.snoc (fun h=>absurd h (by simp)) (fun h=>absurd h (by simp)) (fun h=>absurd h (by simp))).snoc (fun _=>⟨⟨by simp only;omega,by have:=HQ.out;simp only [List.length_append,List.length_cons,List.length_nil];omega⟩,⟨by simp only;omega,by have:=HQ.out;simp only [List.length_append,List.length_cons,List.length_nil];omega⟩⟩) (fun h=>absurd h (by simp)) (fun h=>absurd h (by simp))⟩);clear HD6 hvB km tm HPA;go_wp2_with fail
        as_aux_lemma=>
         go_roundw
         case rel=>exact ⟨k-1,by go_num,HRB.out⟩
         case measure=>simp [intOf];omega
        -- </LIFT>
   -- </ARM45>
end Go.Proofs.YtbccmdfdclomiaaGreatDoor
