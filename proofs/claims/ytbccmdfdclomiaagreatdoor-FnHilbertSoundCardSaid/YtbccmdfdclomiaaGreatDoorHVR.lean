import Derived.Test.YtbccmdfdclomiaaGreatDoorHVL
/- own -/
namespace Go.Proofs.YtbccmdfdclomiaaGreatDoor
set_option maxRecDepth 20000
set_option maxHeartbeats 2000000
open Go.RowKit
theorem implied_or (G:List Fm) (c a1 a2 b t:Fm) (x s:ByteArray) (ht:t=Fm.imp (Fm.or a1 a2) b) (hx:bts x=t.body) (hs:bts s=c.body) (hm:t∈G) (hG:OkL G) (hc:OkF c) (hl:wts G+wt c≤50000000)
  (p:Option Addr) (n q:Nat) (va vb:Value) (w:World) (hv:Left w (.slice p n q) G) (hva:Nds w va (Fm.or a1 a2).enc) (hvb:Nds w vb b.enc):
  Calls Tryz.prog 243 #[.agg #[.slice p n q,.string s],.string x,va,vb] w fun e w'=>∃ u ok,e=.returned (.tuple #[u,.bool ok])∧Keeps w w'∧(ok=true→∃ gs,GoalL w' u gs∧Prem G c gs)∧(ok=false→Left4 G t):=by
 have hOk:=hG t hm;have hwt:=wts_mem hm;obtain ⟨hoa,hob⟩:=OkF.imp (ht▸hOk);have hab:=wt_imp (Fm.or a1 a2) b;rw [←ht] at hab;have hla:=len_le_wt (Fm.or a1 a2);have hlb:=len_le_wt b;obtain ⟨b0,off,na,ca,rfl,h0,h1,h2,h3,hk,_⟩:=hva.root;obtain ⟨pb,nb,cb,rfl⟩:=hvb.shape;have kA:=(Keeps.refl w).alloc (.cells #[.slice p n q,.string s] 177);have kD:=kA.drew
 have pa:(w.alloc (.cells #[.slice p n q,.string s] 177)).cell? ⟨w.heap.size,0,none⟩=some (.slice p n q):=by simp
 have pb':(w.alloc (.cells #[.slice p n q,.string s] 177)).cell? ⟨w.heap.size,1,none⟩=some (.string s):=by simp
 have qa:(w.alloc (.cells #[.slice p n q,.string s] 177)).drew.cell? ⟨w.heap.size,0,none⟩=some (.slice p n q):=by show (w.alloc _).cell? _=_;simp
 have qb:(w.alloc (.cells #[.slice p n q,.string s] 177)).drew.cell? ⟨w.heap.size,1,none⟩=some (.string s):=by show (w.alloc _).cell? _=_;simp
 have HI:=hid (fun (T:List Fm) (u:Value) (w2:World) (k:Keeps w w2) (hu:Left w2 u T) (hT:OkL T) (hl2:wts T≤50000000)=>instead_any G T t x hx hm p n q s u w2 (hv.keeps k) hu hG hT (by omega));have HTb:=hid (fun w2 (k:Keeps w w2)=>text_any b hob.1 (by omega) _ w2 (hvb.keeps k));have HTa:=hid (fun w2 (k:Keeps w w2)=>text_any (Fm.or a1 a2) hoa.1 (by omega) _ w2 (hva.keeps k));have HV:=hid hv;have HVA:=hid hva;have HVB:=hid hvb;clear hv hx hla hlb hva hvb;have q0:=And.intro qa qb;obtain ⟨ho1,ho2⟩:=OkF.or hoa;have hle:=len_le_wt (Fm.or a1 a2);have hle2:=len_le_wt b;simp only [Fm.enc,List.length_cons,List.length_append] at hle;have HF:=hid (first_any _ _ a1 a2.enc _ _ (HVA.out.keeps kD) rfl);have HS:=hid (fun w2 (k:Keeps w w2)=>second_any _ _ a1 a2 _ w2 (HVA.out.keeps k) rfl)
 have hbig1:(Fm.imp a1 b).enc.length≤100000000:=by simp only [Fm.enc,List.length_cons,List.length_append];omega
 have hbig2:(Fm.imp a2 b).enc.length≤100000000:=by simp only [Fm.enc,List.length_cons,List.length_append];omega
 have hw1:(Fm.imp a1 b).wf:=(OkF.mkImp ho1 hob).1;have hw2:(Fm.imp a2 b).wf:=(OkF.mkImp ho2 hob).1
 have hwt2:wts [Fm.imp a1 b,Fm.imp a2 b]≤50000000:=by have:=wt_orimp a1 a2 b;rw [←ht] at this;simp only [wts];omega
 have hsz1:a1.enc.length+b.enc.length≤1000000000:=by omega
 have hsz2:a2.enc.length+b.enc.length≤1000000000:=by omega
 replace hk:=kA.cell (show w.cell? ⟨b0,off,none⟩=some (.int .i64 3) from hk)
 have q1:=hid (fun B=>cells_keeps ((Keeps.refl ((w.alloc (.cells #[.slice p n q,.string s] 177)).alloc B)).drew) (cells_alloc B (And.intro pa pb')))
 have HL:=hid (fun v1 (h1:Nds (w.alloc (.cells #[.slice p n q,.string s] 177)).drew v1 a1.enc)=>
  (NdsL.lit2N (N:=w.heap.size+1) (w:=w.alloc (.cells #[.slice p n q,.string s] 177)) (by simp) (Nds.undrew h1) (HVB.out.keeps kA)).keeps (Keeps.refl _).drew)
 go_enter Tryz.func243,Tryz.ntmps243;go_wp2_with fail
 go_region_held3 (fun w'=>w'.cell? ⟨w.heap.size,0,none⟩=some (.slice p n q)∧w'.cell? ⟨w.heap.size,1,none⟩=some (.string s)) (first | exact q0 | exact q1.out _ | exact q2 | exact cells_alloc _ q2 | exact q3 | exact cells_alloc _ q3 | exact q4 | exact cells_alloc _ q4 | exact q5 | exact cells_alloc _ q5 | exact q6 | exact cells_alloc _ q6) (first
  | (go_at_call 67;refine HF.out.mono ?_;rintro e w' ⟨v1,rfl,hv1,rfl⟩;obtain ⟨p1,n1,c1,rfl⟩:=hv1.shape)
  | (go_at_call 70;refine (HS.out w3 (((kA.alloc _).drew.trans k2).trans k3)).mono ?_;rintro e w' ⟨v2,rfl,hv2,rfl⟩;obtain ⟨p2,n2,c2,rfl⟩:=hv2.shape)
  | (go_at_call 247;first
    | ((with_reducible refine (arrow_two a1.enc b.enc _ _ (HL.out _ hv1) hsz1).mono ?_);rintro e w2 ⟨v3,rfl,hv3,k2⟩;have q2:=cells_keeps k2 (q1.out _);have hn3:Nds w2 v3 (Fm.imp a1 b).enc:=hv3.nds (Nat.le_trans hbig1 (by omega)))
    | ((with_reducible refine (arrow_two a2.enc b.enc _ _ (NdsL.lit2 hv2 (HVB.out.keeps (((kA.alloc _).drew.trans k2).trans k3))) hsz2).mono ?_);rintro e w4 ⟨v4,rfl,hv4,k4⟩;have q4:=cells_keeps k4 (cells_alloc _ q3);have hn4:Nds w4 v4 (Fm.imp a2 b).enc:=hv4.nds (Nat.le_trans hbig2 (by omega))))
  | (go_at_call 94;first
    | ((with_reducible refine (text_any (Fm.imp a1 b) hw1 hbig1 _ _ hn3).mono ?_);rintro e w3 ⟨s1,rfl,hs1,k3⟩;have q3:=cells_keeps k3 q2)
    | ((with_reducible refine (text_any (Fm.imp a2 b) hw2 hbig2 _ _ hn4).mono ?_);rintro e w5 ⟨s2,rfl,hs2,k5⟩;have q5:=cells_keeps k5 q4))
  | (go_at_call 242;refine (HI.out [Fm.imp a1 b,Fm.imp a2 b] _ _ ((((((kA.alloc _).drew.trans k2).trans k3).alloc _).trans k4).trans k5 |>.alloc _) (Left.lit2 w5 hs1 hs2) (okL_two (OkF.mkImp ho1 hob) (OkF.mkImp ho2 hob)) hwt2).mono ?_;rintro e w6 ⟨p6,n6,c6,R,rfl,hR,hmem,hwR,k6⟩;have q6:=cells_keeps k6 (cells_alloc _ q5)))
 go_wp2
 go_ret2
 exact ⟨_,true,rfl,(((((((kA.alloc _).drew.trans k2).trans k3).alloc _).trans k4).trans k5 |>.alloc _).trans k6).alloc _,(fun _=>⟨_,GoalL.lit1 hR hs,prem_orimp hG hc hm hmem hwR ht rfl ho1 ho2 hob⟩),(fun h=>by cases h)⟩
theorem implied_any (G:List Fm) (c a b t:Fm) (x s:ByteArray) (ht:t=Fm.imp a b) (hx:bts x=t.body) (hs:bts s=c.body) (hm:t∈G) (hG:OkL G) (hc:OkF c) (hl:wts G+wt c≤50000000)
  (p:Option Addr) (n q:Nat) (va vb:Value) (w:World) (hv:Left w (.slice p n q) G) (hva:Nds w va a.enc) (hvb:Nds w vb b.enc):
  Calls Tryz.prog 243 #[.agg #[.slice p n q,.string s],.string x,va,vb] w fun e w'=>∃ u ok,e=.returned (.tuple #[u,.bool ok])∧Keeps w w'∧(ok=true→∃ gs,GoalL w' u gs∧Prem G c gs)∧(ok=false→Left4 G t):=by
 have hOk:=hG t hm;have hwt:=wts_mem hm;obtain ⟨hoa,hob⟩:=OkF.imp (ht▸hOk);have hab:=wt_imp a b;rw [←ht] at hab;have hla:=len_le_wt a;have hlb:=len_le_wt b;obtain ⟨b0,off,na,ca,rfl,h0,h1,h2,h3,hk,_⟩:=hva.root;obtain ⟨pb,nb,cb,rfl⟩:=hvb.shape;have kA:=(Keeps.refl w).alloc (.cells #[.slice p n q,.string s] 177);have kD:=kA.drew
 have pa:(w.alloc (.cells #[.slice p n q,.string s] 177)).cell? ⟨w.heap.size,0,none⟩=some (.slice p n q):=by simp
 have pb':(w.alloc (.cells #[.slice p n q,.string s] 177)).cell? ⟨w.heap.size,1,none⟩=some (.string s):=by simp
 have qa:(w.alloc (.cells #[.slice p n q,.string s] 177)).drew.cell? ⟨w.heap.size,0,none⟩=some (.slice p n q):=by show (w.alloc _).cell? _=_;simp
 have qb:(w.alloc (.cells #[.slice p n q,.string s] 177)).drew.cell? ⟨w.heap.size,1,none⟩=some (.string s):=by show (w.alloc _).cell? _=_;simp
 have HI:=hid (fun (T:List Fm) (u:Value) (w2:World) (k:Keeps w w2) (hu:Left w2 u T) (hT:OkL T) (hl2:wts T≤50000000)=>instead_any G T t x hx hm p n q s u w2 (hv.keeps k) hu hG hT (by omega));have HTb:=hid (fun w2 (k:Keeps w w2)=>text_any b hob.1 (by omega) _ w2 (hvb.keeps k));have HTa:=hid (fun w2 (k:Keeps w w2)=>text_any a hoa.1 (by omega) _ w2 (hva.keeps k));have HX:=hid hx;have HV:=hid hv;have HVA:=hid hva;have HVB:=hid hvb;clear hv hx hla hlb hva hvb;have q0:=And.intro qa qb
 cases a with
 | var i=>
  obtain ⟨ss,hss,htx⟩:=HV.out;have HCt:=hid (fun (sa:ByteArray) (h:bts sa=(Fm.var i).body) (w2:World) (k:Keeps w w2)=>containsF_any ss G htx (fun a ha=>(hG a ha).1) sa (Fm.var i) h hoa.1 _ w2 (hss.keeps k));clear hss htx
  replace hk:=kA.cell (show w.cell? ⟨b0,off,none⟩=some (.int .i64 0) from hk)
  go_enter Tryz.func243,Tryz.ntmps243;go_wp2_with fail
  go_region_held3 (fun w'=>w'.cell? ⟨w.heap.size,0,none⟩=some (.slice p n q)∧w'.cell? ⟨w.heap.size,1,none⟩=some (.string s)) (first | exact q0 | exact q2 | exact cells_alloc _ q2 | exact q3 | exact cells_alloc _ q3 | exact q4 | exact cells_alloc _ q4) (first
   | (go_at_call 94;first
     | ((with_reducible refine (HTb.out _ kD).mono ?_);rintro e w2 ⟨sb,rfl,hsb,k2⟩;have q2:=cells_keeps k2 q0)
     | ((with_reducible refine (HTa.out _ (((kD.trans k2).alloc _).trans k3)).mono ?_);rintro e w4 ⟨sa,rfl,hsa,k4⟩;have q4:=cells_keeps k4 q3;have k34:=(((kD.trans k2).alloc (.cells #[.string sb] 9)).trans k3).trans k4)
     | ((with_reducible refine (HTa.out _ (((((kD.trans k2).alloc _).trans k3).alloc _))).mono ?_);rintro e w4 ⟨sa,rfl,hsa,k4⟩;have q4:=cells_keeps k4 (cells_alloc _ q3);have k34:=((((kD.trans k2).alloc (.cells #[.string sb] 9)).trans k3).alloc _).trans k4))
   | (go_at_call 242;refine (HI.out [b] _ _ ((kD.trans k2).alloc _) (Left.lit1 w2 hsb) (okL_one hob) (by simp only [wts];omega)).mono ?_;rintro e w3 ⟨p3,n3,c3,R,rfl,hR,hmem,hwR,k3⟩;have q3:=cells_keeps k3 (cells_alloc _ q2))
   | (go_at_call 166;first
     | ((with_reducible refine (HCt.out sa hsa _ k34).mono ?_);rintro e w5 ⟨rfl,rfl⟩)
     | ((with_reducible refine (HCt.out sa hsa _ (k34.alloc _)).mono ?_);rintro e w5 ⟨rfl,rfl⟩)))
  all_goals
   go_wp2
   go_ret2
   first
   | exact ⟨_,_,rfl,k34,fun h=>⟨_,(GoalL.lit1 hR hs).keeps k4,prem_var hG hc hm hmem hwR ht rfl hob (of_decide_eq_true h)⟩,fun h=>.inr (.inr (.inl ⟨_,_,ht,of_decide_eq_false h⟩))⟩
   | exact ⟨_,_,rfl,k34.alloc _,fun h=>⟨_,GoalL.lit1 (hR.keeps k4) hs,prem_var hG hc hm hmem hwR ht rfl hob (of_decide_eq_true h)⟩,fun h=>.inr (.inr (.inl ⟨_,_,ht,of_decide_eq_false h⟩))⟩
 | fls=>
  replace hk:=kA.cell (show w.cell? ⟨b0,off,none⟩=some (.int .i64 1) from hk)
  go_enter Tryz.func243,Tryz.ntmps243;go_wp2_with fail;refine (HI.out [] _ _ kA (Left.nil _) okL_nil (by simp [wts])).mono ?_;rintro e w2 ⟨p2,n2,q2,R,rfl,hR,hmem,hwR,k2⟩;go_wp2_with fail
  go_ret2
  exact ⟨_,true,rfl,(kA.trans k2).alloc _,fun _=>⟨_,GoalL.lit1 hR hs,prem_fls hG hc hm hwR ht rfl hmem⟩,fun h=>by cases h⟩
 | imp a1 a2=>
  replace hk:=kA.cell (show w.cell? ⟨b0,off,none⟩=some (.int .i64 4) from hk)
  go_enter Tryz.func243,Tryz.ntmps243;go_wp2_with fail
  go_ret2
  exact ⟨_,false,rfl,kA,(fun h=>by cases h),fun _=>.inr (.inr (.inr ⟨_,_,_,ht⟩))⟩
 | box a1=>exact absurd hoa.2 (by simp [Fm.plain])
 | dia a1=>exact absurd hoa.2 (by simp [Fm.plain])
 | and a1 a2=>exact implied_and G c a1 a2 b t x s ht HX.out hs hm hG hc hl p n q _ _ w HV.out HVA.out HVB.out
 | or a1 a2=>exact implied_or G c a1 a2 b t x s ht HX.out hs hm hG hc hl p n q _ _ w HV.out HVA.out HVB.out
theorem taken_any (G:List Fm) (c t:Fm) (x s:ByteArray) (hx:bts x=t.body) (hs:bts s=c.body) (hm:t∈G) (hG:OkL G) (hc:OkF c) (hl:wts G+wt c≤50000000)
  (p:Option Addr) (n q:Nat) (va:Value) (w:World) (hv:Left w (.slice p n q) G) (hva:Nds w va t.enc):
  Calls Tryz.prog 227 #[.agg #[.slice p n q,.string s],.string x,va] w fun e w'=>∃ u ok,e=.returned (.tuple #[u,.bool ok])∧Keeps w w'∧(ok=true→∃ gs,GoalL w' u gs∧Prem G c gs)∧(ok=false→Left4 G t):=by
 have hOk:=hG t hm;have hwt:=wts_mem hm;have hlt:=len_le_wt t;obtain ⟨b0,off,na,ca,rfl,h0,h1,h2,h3,hk,_⟩:=hva.root;have kA:=(Keeps.refl w).alloc (.cells #[.slice p n q,.string s] 177)
 have pa:(w.alloc (.cells #[.slice p n q,.string s] 177)).cell? ⟨w.heap.size,0,none⟩=some (.slice p n q):=by simp
 have pb':(w.alloc (.cells #[.slice p n q,.string s] 177)).cell? ⟨w.heap.size,1,none⟩=some (.string s):=by simp
 have q0:=And.intro pa pb';have HI:=hid (fun (T:List Fm) (u:Value) (w2:World) (k:Keeps w w2) (hu:Left w2 u T) (hT:OkL T) (hl2:wts T≤50000000)=>instead_any G T t x hx hm p n q s u w2 (hv.keeps k) hu hG hT (by omega));have HPT:=hid (partTexts_any t hOk.1 (by omega) _ _ (hva.keeps kA));have HX:=hid hx;have HV:=hid hv;have HVA:=hid hva;clear hv hx hva
 cases t with
 | var i=>
  replace hk:=kA.cell (show w.cell? ⟨b0,off,none⟩=some (.int .i64 0) from hk)
  go_enter Tryz.func227,Tryz.ntmps227;go_wp2_with fail;refine HPT.out.mono ?_;rintro e w2 ⟨u,ss,rfl,hss,htx,k2⟩
  replace hk:=k2.cell hk
  go_wp2_with fail
  go_ret2
  exact ⟨_,false,rfl,kA.trans k2,(fun h=>by cases h),(fun _=>.inr (.inl ⟨_,rfl⟩))⟩
 | fls=>
  replace hk:=kA.cell (show w.cell? ⟨b0,off,none⟩=some (.int .i64 1) from hk)
  go_enter Tryz.func227,Tryz.ntmps227;go_wp2_with fail;refine HPT.out.mono ?_;rintro e w2 ⟨u,ss,rfl,hss,htx,k2⟩
  replace hk:=k2.cell hk
  go_wp2_with fail
  go_ret2
  exact ⟨_,false,rfl,kA.trans k2,(fun h=>by cases h),(fun _=>.inl rfl)⟩
 | box a1=>exact absurd hOk.2 (by simp [Fm.plain])
 | dia a1=>exact absurd hOk.2 (by simp [Fm.plain])
 | and a1 a2=>
  obtain ⟨ho1,ho2⟩:=OkF.and hOk
  have hwT:wts [a1,a2]≤50000000:=by have:=wt_and a1 a2;simp only [wts];omega
  replace hk:=kA.cell (show w.cell? ⟨b0,off,none⟩=some (.int .i64 2) from hk)
  go_enter Tryz.func227,Tryz.ntmps227;go_wp2_with fail;refine HPT.out.mono ?_;rintro e w2 ⟨u,ss,rfl,hss,htx,k2⟩;have hleft:Left w2 u [a1,a2]:=hss.left htx (by simp);obtain ⟨p2,n2,c2,rfl⟩:=hleft.shape
  replace hk:=k2.cell hk
  obtain ⟨hq1,hq2⟩:=cells_keeps k2 q0;have HLf:=hid hleft;clear hleft hss htx;go_wp2_with fail;refine (HI.out [a1,a2] _ _ (kA.trans k2) HLf.out (okL_two ho1 ho2) hwT).mono ?_;rintro e w3 ⟨p3,n3,c3,R,rfl,hR,hmem,hwR,k3⟩;go_wp2_with fail
  go_ret2
  exact ⟨_,true,rfl,((kA.trans k2).trans k3).alloc _,(fun _=>⟨_,GoalL.lit1 hR hs,prem_and hG hc hm hmem hwR rfl rfl ho1 ho2⟩),(fun h=>by cases h)⟩
 | or a1 a2=>
  obtain ⟨ho1,ho2⟩:=OkF.or hOk;have hw0:=wt_or a1 a2
  have hwT1:wts [a1]≤50000000:=by simp only [wts];omega
  have hwT2:wts [a2]≤50000000:=by simp only [wts];omega
  replace hk:=kA.cell (show w.cell? ⟨b0,off,none⟩=some (.int .i64 3) from hk)
  go_enter Tryz.func227,Tryz.ntmps227;go_wp2_with fail;refine HPT.out.mono ?_;rintro e w2 ⟨u,ss,rfl,hss,htx,k2⟩
  have hln:ss.length=2:=by rw [htx.length];rfl
  have hst:=hss.strs (by omega);obtain ⟨p2,c2,rfl,hcap,hcm,_,_⟩:=hst.at;obtain ⟨b2,o2,rfl,hc1⟩:=hst.get 0 (by omega);obtain ⟨b3,o3,e,hc2⟩:=hst.get 1 (by omega)
  cases e
  have hs1:bts ss[0]=a1.body:=htx.get 0 (by omega) (by simp [partsL]);have hs2:bts ss[1]=a2.body:=htx.get 1 (by omega) (by simp [partsL]);unfold maxLen at hcm;rw [hln] at hcap ⊢;rw [Nat.add_zero] at hc1;generalize ss[0]=s1 at*;generalize ss[1]=s2 at*;clear hst hss htx
  replace hk:=k2.cell hk
  have q2:=And.intro (cells_keeps k2 q0) (And.intro hc1 hc2);obtain ⟨hq1,hq2⟩:=q2.1;have kw:=kA.trans k2;have qd:=hid (cells4_keeps ((Keeps.refl w2).drew) q2);have qg:=hid (fun o=>cells4_keeps ((Keeps.refl (w2.alloc o)).drew) (cells4_alloc o q2));have qg2:=hid (fun o o'=>cells4_keeps ((Keeps.refl ((w2.alloc o).alloc o')).drew) (cells4_alloc o' (cells4_alloc o q2)));have L1A:=hid ((Left.lit1 w2 hs1).keeps ((Keeps.refl _).drew));have L1B:=hid (((Left.lit1 w2 hs1).keeps ((Keeps.refl _).alloc (.cells #[.string s2] 9))).keeps ((Keeps.refl _).drew));have L2B:=hid ((Left.lit1N (N:=w2.heap.size+1) (w2.alloc (.cells #[.string s1] 9)) (by simp) hs2).keeps ((Keeps.refl _).drew));have L2C:=hid (((Left.lit1 w2 hs2).keeps ((Keeps.refl _).alloc (.cells #[.string s1] 9))).keeps ((Keeps.refl _).drew));have L1C:=hid ((Left.lit1N (N:=w2.heap.size+1) (w2.alloc (.cells #[.string s2] 9)) (by simp) hs1).keeps ((Keeps.refl _).drew));clear q2;go_wp2_with fail
  go_region_held3 (fun w'=>(w'.cell? ⟨w.heap.size,0,none⟩=some (.slice p n q)∧w'.cell? ⟨w.heap.size,1,none⟩=some (.string s))∧(w'.cell? ⟨b2,o2,none⟩=some (.string s1)∧w'.cell? ⟨b2,o2+1,none⟩=some (.string s2))) (first | exact qd.out | exact qg.out _ | exact qg2.out _ _ | exact q3 | exact cells4_alloc _ q3 | exact q4 | exact cells4_alloc _ q4) (first
   | (go_at_call 242;first
     | ((with_reducible refine (HI.out [a1] _ _ (kw.alloc _).drew L1A.out (okL_one ho1) hwT1).mono ?_);rintro e w3 ⟨p3,n3,c3,R,rfl,hR,hmem,hwR,k3⟩;have q3:=cells4_keeps k3 (qg.out _);have k03:=(kw.alloc (.cells #[.string s1] 9)).drew.trans k3)
     | ((with_reducible refine (HI.out [a1] _ _ ((kw.alloc _).alloc _).drew L1B.out (okL_one ho1) hwT1).mono ?_);rintro e w3 ⟨p3,n3,c3,R,rfl,hR,hmem,hwR,k3⟩;have q3:=cells4_keeps k3 (qg2.out _ _);have k03:=((kw.alloc (.cells #[.string s1] 9)).alloc (.cells #[.string s2] 9)).drew.trans k3;have hX:=L2B.out.keeps k3)
     | ((with_reducible refine (HI.out [a1] _ _ ((kw.alloc _).alloc _).drew L1C.out (okL_one ho1) hwT1).mono ?_);rintro e w3 ⟨p3,n3,c3,R,rfl,hR,hmem,hwR,k3⟩;have q3:=cells4_keeps k3 (qg2.out _ _);have k03:=((kw.alloc (.cells #[.string s2] 9)).alloc (.cells #[.string s1] 9)).drew.trans k3;have hX:=L2C.out.keeps k3)
     | ((with_reducible refine (HI.out [a2] _ _ k03 hX (okL_one ho2) hwT2).mono ?_);rintro e w4 ⟨p4,n4,c4,R',rfl,hR',hmem',hwR',k4⟩;have q4:=cells4_keeps k4 q3;have k04:=k03.trans k4;have kk:=k4)
     | ((with_reducible refine (HI.out [a2] _ _ (k03.alloc _) (Left.lit1 w3 hs2) (okL_one ho2) hwT2).mono ?_);rintro e w4 ⟨p4,n4,c4,R',rfl,hR',hmem',hwR',k4⟩;have q4:=cells4_keeps k4 (cells4_alloc _ q3);have k04:=(k03.alloc _).trans k4;have kk:=((Keeps.refl w3).alloc _).trans k4)))
  all_goals
   go_wp2
   go_ret2
   exact ⟨_,true,rfl,k04.alloc _,(fun _=>⟨_,GoalL.lit2 (hR.keeps kk) hs hR' hs,prem_or hG hc hm rfl ho1 ho2 hmem hwR hmem' hwR'⟩),(fun h=>by cases h)⟩
 | imp a1 a2=>
  replace hk:=kA.cell (show w.cell? ⟨b0,off,none⟩=some (.int .i64 4) from hk)
  go_enter Tryz.func227,Tryz.ntmps227;go_wp2_with fail;refine HPT.out.mono ?_;rintro e w2 ⟨u,ss,rfl,hss,htx,k2⟩;obtain ⟨p2,c2,rfl,_⟩:=At.of_own hss;clear hss htx
  replace hk:=k2.cell hk
  have q2:=cells_keeps k2 q0;obtain ⟨hq1,hq2⟩:=q2;have qd:w2.drew.cell? ⟨w.heap.size,0,none⟩=some (.slice p n q)∧w2.drew.cell? ⟨w.heap.size,1,none⟩=some (.string s):=⟨hq1,hq2⟩;have kW:=(kA.trans k2).drew;have HF:=hid (first_any _ _ a1 a2.enc _ _ (HVA.out.keeps kW) rfl);have HS:=hid (second_any _ _ a1 a2 _ _ (HVA.out.keeps kW) rfl);have HIm:=hid (fun v1 v2 (g1:Nds w2.drew v1 a1.enc) (g2:Nds w2.drew v2 a2.enc)=>implied_any G c a1 a2 _ x s rfl HX.out hs hm hG hc hl p n q v1 v2 w2.drew (HV.out.keeps kW) g1 g2);go_wp2_with fail
  go_region_held3 (fun w'=>w'.cell? ⟨w.heap.size,0,none⟩=some (.slice p n q)∧w'.cell? ⟨w.heap.size,1,none⟩=some (.string s)) (first | exact qd | exact q3) (first
   | (go_at_call 67;refine HF.out.mono ?_;rintro e w' ⟨v1,rfl,hv1,rfl⟩)
   | (go_at_call 70;refine HS.out.mono ?_;rintro e w' ⟨v2,rfl,hv2,rfl⟩)
   | (go_at_call 243;refine (HIm.out v1 v2 hv1 hv2).mono ?_;rintro e w3 ⟨u3,ok,rfl,k3,hok,hno⟩;have q3:=cells_keeps k3 qd;replace hok:=hid hok;replace hno:=hid hno))
  go_wp2
  go_ret2
  exact ⟨_,_,rfl,kW.trans k3,hok.out,hno.out⟩
def Known (s:ByteArray) (b:Bool):Prop:=∃ G c,OkL G∧OkF c∧bts s=keyF G c∧b=sqB G c
theorem Known.is {s:ByteArray} {b:Bool} {G:List Fm} {c:Fm} (h:Known s b) (hG:OkL G) (hc:OkF c) (hs:bts s=keyF G c):b=sqB G c:=by
 obtain ⟨H,d,hH,hd,h1,rfl⟩:=h;obtain ⟨rfl,rfl⟩:=keyF_inj hH hG hd hc (h1.symm.trans hs);rfl
def Dec (w:World) (d m:Nat):Prop:=w.cell? ⟨d,0,none⟩=some (.map (some m))∧Ans w m Known
theorem Dec.keeps {w w':World} {d m:Nat} (h:Dec w d m) (k:Keeps w w'):Dec w' d m:=⟨k.cell h.1,h.2.keeps k⟩
def Says (w:World) (d m:Nat) (b:Bool) (e:Ending) (w':World):Prop:=e=.returned (.bool b)∧Turns m w w'∧Dec w' d m
def ProvesOk (n:Nat):Prop:=∀ (G:List Fm) (c:Fm),OkL G→OkF c→wts G+wt c<n→wts G+wt c≤50000000→∀ (p:Option Addr) (k q:Nat) (s:ByteArray) (d m:Nat) (w:World),
 Left w (.slice p k q) G→bts s=c.body→Dec w d m→Calls Tryz.prog 158 #[.pointer (some ⟨d,0,none⟩),.agg #[.slice p k q,.string s]] w (Says w d m (sqB G c))
theorem enters_all_1:Enters 241:=fun _ _=>by kernel_rfl
theorem all_1_any (n:Nat) (ih:ProvesOk n) (G:List Fm) (c:Fm) (hG:OkL G) (hc:OkF c) (hn:wts G+wt c<n) (hl:wts G+wt c≤50000000) (p:Option Addr) (k q:Nat) (s:ByteArray) (d m b:Nat) (w:World)
  (hv:Left w (.slice p k q) G) (hs:bts s=c.body) (hd:Dec w d m) (hb:w.cell? ⟨b,0,none⟩=some (.pointer (some ⟨d,0,none⟩))):
  Calls Tryz.prog 241 #[.agg #[.slice p k q,.string s],.pointer (some ⟨b,0,none⟩)] w (Says w d m (!sqB G c)):=by
 have kA:=(Keeps.refl w).alloc (.cells #[.slice p k q,.string s] 177);have hb':=kA.cell hb;have H:=hid (ih G c hG hc hn hl p k q s d m _ (hv.keeps kA) hs (hd.keeps kA));clear hv hd;go_enter Tryz.func241,Tryz.ntmps241;go_wp2_with fail;refine H.out.mono ?_;rintro e w2 ⟨rfl,ht,hd2⟩;go_wp2_with fail;go_ret;exact ⟨rfl,(Turns.ofKeeps kA).trans ht,hd2⟩
theorem all_any (n:Nat) (ih:ProvesOk n) (gs:List (List Fm×Fm)) (hgs:∀ g∈gs,OkL g.1∧OkF g.2∧wts g.1+wt g.2<n∧wts g.1+wt g.2≤50000000) (v:Value) (d m:Nat) (w:World) (hv:GoalL w v gs) (hd:Dec w d m):
  Calls Tryz.prog 224 #[.pointer (some ⟨d,0,none⟩),v] w (Says w d m (!(gs.any fun g=>!sqB g.1 g.2))):=by
 obtain ⟨pv,cv,rfl,_⟩:=hv.shape;have kA:=(Keeps.refl w).alloc (.cells #[.pointer (some ⟨d,0,none⟩)] 147)
 have hb:(w.alloc (.cells #[.pointer (some ⟨d,0,none⟩)] 147)).cell? ⟨w.heap.size,0,none⟩=some (.pointer (some ⟨d,0,none⟩)):=by simp
 have HC:=hid (containsFuncG (fun w1=>Turns m (w.alloc (.cells #[.pointer (some ⟨d,0,none⟩)] 147)) w1∧Dec w1 d m) (fun g=>!sqB g.1 g.2) 241 #[.pointer (some ⟨w.heap.size,0,none⟩)] gs _ (w.alloc (.cells #[.pointer (some ⟨d,0,none⟩)] 147))
  (fun w1 h=>(hv.keeps kA).turns h.1) ⟨Turns.refl _ _,hd.keeps kA⟩ enters_all_1 (fun g hg q n' c s w1 h hl hs=>by
   obtain ⟨g1,g2,g3,g4⟩:=hgs g hg;refine (all_1_any n ih g.1 g.2 g1 g2 g3 g4 q n' c s d m w.heap.size w1 hl hs h.2 (h.1.2 _ _ hb)).mono ?_;rintro e w2 ⟨rfl,ht,hd2⟩
   exact ⟨rfl,h.1.trans ht,hd2⟩))
 clear hv hd hgs;go_enter Tryz.func224,Tryz.ntmps224;go_wp2_with fail;refine HC.out.mono ?_;rintro e w2 ⟨rfl,ht,hd2⟩;go_wp2_with fail;go_ret;exact ⟨rfl,(Turns.ofKeeps kA).trans ht,hd2⟩
theorem treeOf_any (t:Fm) (hw:t.wf) (s:ByteArray) (w:World) (hb:bts s=t.body) (hs:s.size≤2147483648) (hl:t.enc.length≤100000000):
  Calls Tryz.prog 222 #[.string s] w (RetN w t.enc):=by
 have h0:=RdAt.new w s 194 (by omega)
 have hlen:t.body.length=s.size:=by rw [←hb];show s.data.toList.length=s.data.size;simp
 have HR:=hid (implReads t hw _ _ s 0 [] h0 (by simpa using hb) ⟨fun _=>by simp,fun _=>by simp,fun _=>by simp⟩ (by omega));have k0:=(Keeps.refl w).alloc (.cells #[.string s,.int .i64 0,.bool false] 194);clear hb h0 hlen;go_enter Tryz.func222,Tryz.ntmps222;go_wp2_with fail;refine HR.out.mono ?_;rintro e w1 ⟨v1,rfl,hv1,h1,g1⟩;have kw:=k0.grown g1 (fun k hk=>by cases hk;exact Nat.le_refl _);go_wp2_with fail;go_ret;exact ⟨_,rfl,hv1.mono (by simp),kw⟩
open Classical in
noncomputable def prT (L:List Fm) (f:Fm→Bool) (s:ByteArray):Bool:=decide (∃ a,a∈L∧bts s=a.body∧f a=true)
theorem prT_eq {L:List Fm} (hL:OkL L) (f:Fm→Bool) {a:Fm} (ha:a∈L) {s:ByteArray} (hs:bts s=a.body):prT L f s=f a:=by
 unfold prT;rw [Bool.eq_iff_iff,decide_eq_true_iff];constructor
 ·rintro ⟨b,hb,h1,h2⟩
  rw [←body_inj (hL b hb).1 (hL a ha).1 (h1.symm.trans hs)];exact h2
 ·exact fun h=>⟨a,ha,hs,h⟩
theorem txts_mem:∀ {ss:List ByteArray} {L:List Fm},Txts ss L→∀ x∈ss,∃ a∈L,bts x=a.body:=by
 intro ss L h x hx;have h1:bts x∈ss.map bts:=List.mem_map.2 ⟨x,hx,rfl⟩;rw [h,List.mem_map] at h1;obtain ⟨a,ha,e⟩:=h1;exact ⟨a,ha,e.symm⟩
theorem any_prT {ss:List ByteArray} {L:List Fm} (hL:OkL L) (f:Fm→Bool) (h:Txts ss L):ss.any (prT L f)=L.any f:=by
 rw [Bool.eq_iff_iff,List.any_eq_true,List.any_eq_true];constructor
 ·rintro ⟨x,hx,hp⟩
  obtain ⟨a,ha,e⟩:=txts_mem h x hx;exact ⟨a,ha,by rw [←prT_eq hL f ha e];exact hp⟩
 ·rintro ⟨a,ha,hp⟩
  have h1:a.body∈L.map Fm.body:=List.mem_map.2 ⟨a,ha,rfl⟩;rw [←h,List.mem_map] at h1;obtain ⟨x,hx,e⟩:=h1;exact ⟨x,hx,by rw [prT_eq hL f ha e];exact hp⟩
open Classical in
noncomputable def triesF (G:List Fm) (c t:Fm):Bool:=decide (∃ x y b,t=Fm.imp (Fm.imp x y) b∧Way G c x y b)
theorem triesF_no {G:List Fm} {c t:Fm} (h:∀ x y b,t≠Fm.imp (Fm.imp x y) b):triesF G c t=false:=by
 unfold triesF;rw [decide_eq_false_iff_not];rintro ⟨x,y,b,e,_⟩;exact h x y b e
open Classical in
theorem triesF_way {G:List Fm} {c x y b:Fm} (hm:Fm.imp (Fm.imp x y) b∈G) {K L:List Fm} (hK:∀ a,a∈K↔a∈[Fm.imp y b]∨a∈G.filter (fun a=>!decide (a=Fm.imp (Fm.imp x y) b))) (hL:∀ a,a∈L↔a∈[b]∨a∈G.filter (fun a=>!decide (a=Fm.imp (Fm.imp x y) b))):
  triesF G c (Fm.imp (Fm.imp x y) b)=(sqB K (Fm.imp x y)&&sqB L c):=by
 unfold triesF;rw [Bool.eq_iff_iff,decide_eq_true_iff,Bool.and_eq_true,sqB_iff,sqB_iff];rw [←way_iff' (mem_split hm) (fun a=>by rw [hK a];simp) (fun a=>by rw [hL a];simp)];constructor
 ·rintro ⟨x',y',b',e,h⟩
  cases e
  exact h
 ·exact fun h=>⟨x,y,b,rfl,h⟩
def S3 (w:World) (b1 b2:Nat) (d:Nat) (v:Value) (s:ByteArray):Prop:=w.cell? ⟨b1,0,none⟩=some (.pointer (some ⟨d,0,none⟩))∧w.cell? ⟨b2,0,none⟩=some v∧w.cell? ⟨b2,1,none⟩=some (.string s)
theorem S3.keeps {w w':World} {b1 b2 d:Nat} {v:Value} {s:ByteArray} (h:S3 w b1 b2 d v s) (k:Keeps w w'):S3 w' b1 b2 d v s:=⟨k.cell h.1,k.cell h.2.1,k.cell h.2.2⟩
theorem S3.turns {m:Nat} {w w':World} {b1 b2 d:Nat} {v:Value} {s:ByteArray} (h:S3 w b1 b2 d v s) (k:Turns m w w'):S3 w' b1 b2 d v s:=⟨k.2 _ _ h.1,k.2 _ _ h.2.1,k.2 _ _ h.2.2⟩
theorem S3.alloc {w:World} {b1 b2 d:Nat} {v:Value} {s:ByteArray} (h:S3 w b1 b2 d v s) (o:Obj):S3 (w.alloc o) b1 b2 d v s:=h.keeps ((Keeps.refl w).alloc o)
theorem S3.drew {w:World} {b1 b2 d:Nat} {v:Value} {s:ByteArray} (h:S3 w b1 b2 d v s):S3 w.drew b1 b2 d v s:=h
theorem Turns.keep {m:Nat} {a b c:World} (h:Turns m a b) (k:Keeps b c):Turns m a c:=h.trans (Turns.ofKeeps k)
theorem Turns.alloc {m:Nat} {a b:World} (h:Turns m a b) (o:Obj):Turns m a (b.alloc o):=h.keep ((Keeps.refl b).alloc o)
theorem cells4_turns {m:Nat} {w w':World} {a b c d:Addr} {u v x y:Value} (k:Turns m w w') (h:(w.cell? a=some u∧w.cell? b=some v)∧(w.cell? c=some x∧w.cell? d=some y)):(w'.cell? a=some u∧w'.cell? b=some v)∧(w'.cell? c=some x∧w'.cell? d=some y):=⟨⟨k.2 _ _ h.1.1,k.2 _ _ h.1.2⟩,⟨k.2 _ _ h.2.1,k.2 _ _ h.2.2⟩⟩
theorem enters_tries_1:Enters 245:=fun _ _=>by kernel_rfl
theorem enters_tries_2:Enters 246:=fun _ _=>by kernel_rfl
theorem tries_1_any (n:Nat) (ih:ProvesOk n) (G:List Fm) (c:Fm) (hG:OkL G) (hc:OkF c) (hn:wts G+wt c<n) (hl:wts G+wt c≤50000000) (p:Option Addr) (k q:Nat) (s x:ByteArray) (d m b1 b2:Nat) (w:World)
  (hv:Left w (.slice p k q) G) (hx:bts x=c.body) (hd:Dec w d m) (hb:S3 w b1 b2 d (.slice p k q) s):
  Calls Tryz.prog 245 #[.string x,.pointer (some ⟨b1,0,none⟩),.pointer (some ⟨b2,0,none⟩)] w (Says w d m (sqB G c)):=by
 have kD:=(Keeps.refl w).drew;have H:=hid (fun w2 (kw:Keeps w w2)=>ih G c hG hc hn hl p k q x d m w2 (hv.keeps kw) hx (hd.keeps kw));have HP:=hid (proving_any p k q s x w.drew);have hb0:=hb.drew;obtain ⟨c1,c2,c3⟩:=hb;clear hv hd;go_enter Tryz.func245,Tryz.ntmps245;go_wp2_with fail
 go_region_held3 (fun w'=>w'.cell? ⟨b1,0,none⟩=some (.pointer (some ⟨d,0,none⟩))∧w'.cell? ⟨b2,0,none⟩=some (.slice p k q)∧w'.cell? ⟨b2,1,none⟩=some (.string s)) (first | exact hb0 | exact hb2 | exact hb3) (first
  | (go_at_call 225;refine HP.out.mono ?_;rintro e w2 ⟨rfl,k2⟩;have hb2:=hb0.keeps k2)
  | (go_at_call 158;refine (H.out w2 (kD.trans k2)).mono ?_;rintro e w3 ⟨rfl,ht,hd3⟩;have hb3:=hb2.turns ht))
 all_goals
  go_wp2;go_ret;exact ⟨rfl,(Turns.ofKeeps (kD.trans k2)).trans ht,hd3⟩
end Go.Proofs.YtbccmdfdclomiaaGreatDoor
