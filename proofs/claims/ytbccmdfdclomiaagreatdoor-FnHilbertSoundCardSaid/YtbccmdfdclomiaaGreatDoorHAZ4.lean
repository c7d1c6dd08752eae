import Derived.Test.YtbccmdfdclomiaaGreatDoorHVY
import Derived.Carry
/- own -/
namespace Go.Proofs.YtbccmdfdclomiaaGreatDoor
set_option maxRecDepth 20000
set_option maxHeartbeats 4000000
open Go.RowKit
theorem decide_imp (n:Nat) (ih:ProvesOk n) (G:List Fm) (x y:Fm) (hG:OkL G) (hc:OkF (Fm.imp x y)) (hn:wts G+wt (Fm.imp x y)≤n) (hl:wts G+wt (Fm.imp x y)≤50000000) (h1:¬Fm.imp x y∈G) (h2:¬Fm.fls∈G)
  (p:Option Addr) (k q:Nat) (s:ByteArray) (d m:Nat) (w:World) (hv:Left w (.slice p k q) G) (hs:bts s=(Fm.imp x y).body) (hd:Dec w d m):
  Calls Tryz.prog 197 #[.pointer (some ⟨d,0,none⟩),.agg #[.slice p k q,.string s]] w (Says w d m (sqB G (Fm.imp x y))):=by
 have kA:=(Keeps.refl w).alloc (.cells #[.slice p k q,.string s] 177);have H1:=containsL_any G hG s _ hs hc _ _ (hv.keeps kA);have H2:=containsL_any G hG ⟨#[70]⟩ Fm.fls bts_F okF_fls _ _ (hv.keeps kA);rw [decide_eq_false h1] at H1;rw [decide_eq_false h2] at H2
 replace H1:=hid H1
 replace H2:=hid H2
 have pa:(w.alloc (.cells #[.slice p k q,.string s] 177)).cell? ⟨w.heap.size,0,none⟩=some (.slice p k q):=by simp
 have pb':(w.alloc (.cells #[.slice p k q,.string s] 177)).cell? ⟨w.heap.size,1,none⟩=some (.string s):=by simp
 obtain ⟨hox,hoy⟩:=OkF.imp hc;have hlen:=len_le_wt (Fm.imp x y);have hww:=wt_imp x y
 have hsz:s.size≤2147483648:=by
  have:=body_len (Fm.imp x y);rw [←bts_len,hs];omega
 have hlenT:(Fm.imp x y).enc.length≤2147483648:=by omega
 have HT:=hid (treeOf_any _ hc.1 s (w.alloc (.cells #[.slice p k q,.string s] 177)) hs hsz (by omega));have HPT:=hid (fun vt w2 (hvt:Nds w2 vt (Fm.imp x y).enc)=>partTexts_any (Fm.imp x y) hc.1 (by omega) vt w2 hvt)
 have hwx:wts [x]≤50000000:=by simp only [wts];omega
 have HW:=hid (fun u w2 (kw:Keeps w w2) (hu:Left w2 u [x])=>with_any G [x] p k q s u w2 (hv.keeps kw) hu hG (okL_one hox) (by simp only [wts];omega))
 have HP:=hid (fun R (hR:∀ a,a∈R↔a∈G∨a∈[x]) (hw:wts R≤wts G+wts [x])=>by
  have hRok:OkL R:=fun a ha=>((hR a).1 ha).elim (hG a) (fun h=>okL_one hox a h)
  have h3:wts R+wt y<wts G+wt (Fm.imp x y):=by simp only [wts] at hw;omega
  have h4:=ih R y hRok hoy (by omega) (by omega);rw [show sqB R y=sqB G (Fm.imp x y) from sqB_congr (sq_impR (fun a=>(hR a).trans (by simp [or_comm]))).symm] at h4
  exact h4)
 have HV:=hid hv;have HD:=hid hd;clear hv hd h1 h2 hww hlen hsz hn hl hs;go_enter Tryz.func197,Tryz.ntmps197;go_wp2_with fail;refine H1.out.mono ?_;rintro e w2 ⟨rfl,rfl⟩;go_wp2_with fail;refine H2.out.mono ?_;rintro e w2 ⟨rfl,rfl⟩;go_wp2_with fail;refine HT.out.mono ?_;rintro e w2 ⟨vt,rfl,hvt,k2⟩;have hnt:Nds w2 vt (Fm.imp x y).enc:=hvt.nds hlenT;obtain ⟨bt,ot,nt,ct,rfl,g0,g1,g2,g3,hk,_⟩:=hnt.root
 replace hk:w2.cell? ⟨bt,ot,none⟩=some (.int .i64 4):=hk
 have HNT:=hid hnt;clear hnt hvt;go_wp2_with fail;refine (HPT.out _ w2 HNT.out).mono ?_;rintro e w3 ⟨u,ss,rfl,hss,htx,k3⟩
 have hln:ss.length=2:=by rw [htx.length];rfl
 have hst:=hss.strs (by omega);obtain ⟨p2,c2,rfl,hcap,hcm,_,_⟩:=hst.at;obtain ⟨b2,o2,rfl,hc1⟩:=hst.get 0 (by omega);obtain ⟨b3,o3,e,hc2⟩:=hst.get 1 (by omega)
 cases e
 have hs1:bts ss[0]=x.body:=htx.get 0 (by omega) (by simp [partsL]);have hs2:bts ss[1]=y.body:=htx.get 1 (by omega) (by simp [partsL]);unfold maxLen at hcm;rw [hln] at hcap ⊢;rw [Nat.add_zero] at hc1;generalize ss[0]=s1 at*;generalize ss[1]=s2 at*;clear hst hss htx
 replace hk:=k3.cell hk
 have q3:=And.intro (cells_keeps (k2.trans k3) (And.intro pa pb')) (And.intro hc1 hc2);have kw:=kA.trans (k2.trans k3);have qd:=hid (cells4_keeps ((Keeps.refl w3).drew) q3);go_wp2_with fail;have L1A:=hid ((Left.lit1 w3 hs1).keeps ((Keeps.refl _).drew));have qg:=hid (fun o=>cells4_keeps ((Keeps.refl (w3.alloc o)).drew) (cells4_alloc o q3));clear q3
 go_region_held3 (fun w'=>(w'.cell? ⟨w.heap.size,0,none⟩=some (.slice p k q)∧w'.cell? ⟨w.heap.size,1,none⟩=some (.string s))∧(w'.cell? ⟨b2,o2,none⟩=some (.string s1)∧w'.cell? ⟨b2,o2+1,none⟩=some (.string s2))) (first | exact qd.out | exact qg.out _ | exact q4 | exact q5 | exact cells4_alloc _ q5 | exact q6) (first
  | (go_at_call 226;refine (HW.out _ _ (kw.alloc _).drew L1A.out).mono ?_;rintro e w4 ⟨p4,n4,c4,R,rfl,hR,hmem,hwR,k4⟩;have q4:=cells4_keeps k4 (qg.out _);have kw4:=(kw.alloc (.cells #[.string s1] 9)).drew.trans k4)
  | (go_at_call 225;refine (proving_any p4 n4 c4 s s2 w4).mono ?_;rintro e w5 ⟨rfl,k5⟩;have q5:=cells4_keeps k5 q4;have kw5:=kw4.trans k5)
  | (go_at_call 158;refine (HP.out R hmem hwR p4 n4 c4 s2 d m w5 (hR.keeps k5) hs2 (HD.out.keeps kw5)).mono ?_;rintro e w6 ⟨rfl,ht,hd6⟩;have q6:=cells4_turns ht q5))
 all_goals
  go_wp2;go_ret;exact ⟨rfl,(Turns.ofKeeps kw5).trans ht,hd6⟩
theorem final_left4 {G:List Fm} (hf:Fm.fls∉G) (h:∀ t∈G,Left4 G t):Final G:=by
 refine ⟨hf,fun a ha=>?_⟩
 rcases h a ha with rfl | h | h | h
 ·exact absurd ha hf
 ·exact .inl h
 ·exact .inr (.inl h)
 ·exact .inr (.inr (.inr h))
theorem decide_rest (n:Nat) (ih:ProvesOk n) (G:List Fm) (c:Fm) (hG:OkL G) (hc:OkF c) (hn:wts G+wt c≤n) (hl:wts G+wt c≤50000000) (h1:¬c∈G) (h2:¬Fm.fls∈G)
  (hf:(∃ p,c=Fm.var p∧Fm.var p∉G)∨c=Fm.fls∨(∃ d e,c=Fm.or d e)) (K:Int) (hK:c.kind=K) (hK2:(K==2)=false) (hK4:(K==4)=false)
  (p:Option Addr) (k q:Nat) (s:ByteArray) (d m:Nat) (w:World) (hv:Left w (.slice p k q) G) (hs:bts s=c.body) (hd:Dec w d m):
  Calls Tryz.prog 197 #[.pointer (some ⟨d,0,none⟩),.agg #[.slice p k q,.string s]] w (Says w d m (sqB G c)):=by
 have kA:=(Keeps.refl w).alloc (.cells #[.slice p k q,.string s] 177);have H1:=containsL_any G hG s _ hs hc _ _ (hv.keeps kA);have H2:=containsL_any G hG ⟨#[70]⟩ Fm.fls bts_F okF_fls _ _ (hv.keeps kA);rw [decide_eq_false h1] at H1;rw [decide_eq_false h2] at H2
 replace H1:=hid H1
 replace H2:=hid H2
 have pa:(w.alloc (.cells #[.slice p k q,.string s] 177)).cell? ⟨w.heap.size,0,none⟩=some (.slice p k q):=by simp
 have pb':(w.alloc (.cells #[.slice p k q,.string s] 177)).cell? ⟨w.heap.size,1,none⟩=some (.string s):=by simp
 have hlen:=len_le_wt c
 have hsz:s.size≤2147483648:=by
  have:=body_len c;rw [←bts_len,hs];omega
 have hlenT:c.enc.length≤2147483648:=by omega
 have HT:=hid (treeOf_any _ hc.1 s (w.alloc (.cells #[.slice p k q,.string s] 177)) hs hsz (by omega));have HPT:=hid (fun vt w2 (hvt:Nds w2 vt c.enc)=>partTexts_any c hc.1 (by omega) vt w2 hvt);have HTr:=hid (fun (hF:Final G) vc w2 (kw:Keeps w w2) (hvc:Nds w2 vc c.enc)=>tries_any n ih G c hG hc hn hl hF hf p k q s vc d m w2 (hv.keeps kw) hs hvc (hd.keeps kw))
 have HAll:=hid (fun gs (hp:Prem G c gs) v w2 (kw:Keeps w w2) (hg:GoalL w2 v gs)=>by
  have h3:=all_any n ih gs (fun g hg=>⟨(hp.1 g hg).1,(hp.1 g hg).2.1,by have:=(hp.1 g hg).2.2;omega,by have:=(hp.1 g hg).2.2;omega⟩) v d m w2 hg (hd.keeps kw);rw [hp.all] at h3
  exact h3)
 have HTk:=hid (fun t (hm:t∈G) x (hx:bts x=t.body) va w2 (kw:Keeps w w2) (hva:Nds w2 va t.enc)=>taken_any G c t x s hx hs hm hG hc hl p k q va w2 (hv.keeps kw) hva);have HTo:=hid (fun t (hm:t∈G) x (hx:bts x=t.body) w2=>treeOf_any t (hG t hm).1 x w2 hx (by have:=body_len t;have:=len_le_wt t;have:=wts_mem hm;rw [←bts_len,hx];omega) (by have:=len_le_wt t;have:=wts_mem hm;omega));have hlG:=hid (fun t (hm:t∈G)=>(show t.enc.length≤2147483648 by have:=len_le_wt t;have:=wts_mem hm;omega));have hfin:=hid (fun h=>final_left4 (G:=G) h2 h);have HKc:=hid hK;obtain ⟨ss,hss,htx⟩:=hv
 obtain ⟨b0,off0,hpk,hkl,hkq,hqm⟩:∃ b off:Nat,True∧k=ss.length∧k≤q∧q≤maxLen:=by
  obtain ⟨p',c',e,g1,g2,_⟩:=hss.at
  cases e
  exact ⟨0,0,trivial,rfl,g1,g2⟩
 unfold maxLen at hqm
 have hkb:k≤50000000:=by have:=len_le_wts G;have:=htx.length;omega
 have HSS:=hid hss;have HTX:=hid htx;have HLn:=hid (hkl.trans htx.length);have HKL:=hid hkl;clear hkl hss htx hd h1 h2 hlen hsz hn hl hs hK hf hpk b0 off0;go_enter Tryz.func197,Tryz.ntmps197;go_wp2_with fail;refine H1.out.mono ?_;rintro e w2 ⟨rfl,rfl⟩;go_wp2_with fail;refine H2.out.mono ?_;rintro e w2 ⟨rfl,rfl⟩;go_wp2_with fail;refine HT.out.mono ?_;rintro e w2 ⟨vt,rfl,hvt,k2⟩;have hnt:Nds w2 vt c.enc:=hvt.nds hlenT;obtain ⟨bt,ot,nt,ct,rfl,g0,g1,g2,g3,hk,_⟩:=hnt.root;rw [HKc.out] at hk;have HNT:=hid hnt;clear hnt hvt;go_wp2_with fail;refine (HPT.out _ w2 HNT.out).mono ?_;rintro e w3 ⟨u,us,rfl,hus,hutx,k3⟩;obtain ⟨pu,cu,rfl,_⟩:=At.of_own hus;clear hus hutx
 replace hk:=k3.cell hk
 have kw:=kA.trans (k2.trans k3);obtain ⟨q1,q2⟩:=cells_keeps (k2.trans k3) (And.intro pa pb');have HNT3:=hid (HNT.out.keeps k3);clear pa pb';go_wp2_with fail
 go_loopw [62] (fun iv wr=>∃ j:Nat,j≤k∧iv=.int .i64 j∧Keeps w3 wr∧Hid (∀ i (h:i<G.length),i<j→Left4 G G[i])) (fun iv _=>k-(intOf iv).toNat)
 case atStart=>exact ⟨0,by omega,rfl,Keeps.refl _,hid (fun i h hi=>by omega)⟩
 case round=>
  obtain ⟨j,hj,rfl,kr,hleft⟩:=hrel;have kwr:=kw.trans kr
  by_cases hlt:j<k
  ·have hlt':(j:Int)<k:=by omega
   have hjs:j<ss.length:=by have:=HKL.out;omega
   have hjG:j<G.length:=by have:=HLn.out;omega
   obtain ⟨b,off,rfl,hcj⟩:=(HSS.out.keeps kwr).get j hjs;have hx:=hid (HTX.out.get j hjs hjG);generalize ss[j]=x at*;have hm:=hid (List.getElem_mem hjG)
   replace q1:=kr.cell q1
   replace q2:=kr.cell q2
   have qd:wr.drew.cell? ⟨w.heap.size,0,none⟩=some (.slice (some ⟨b,off,none⟩) k q)∧wr.drew.cell? ⟨w.heap.size,1,none⟩=some (.string s):=⟨q1,q2⟩;go_wp2_with fail;have HTo2:=hid (HTo.out _ hm.out x hx.out wr.drew);have HTk2:=hid (fun va w2 (kx:Keeps w w2) (hva:Nds w2 va G[j].enc)=>HTk.out _ hm.out x hx.out va w2 kx hva);have hlj:=hid (hlG.out _ hm.out)
   go_region_held3 (fun w'=>w'.cell? ⟨w.heap.size,0,none⟩=some (.slice (some ⟨b,off,none⟩) k q)∧w'.cell? ⟨w.heap.size,1,none⟩=some (.string s)) (first | exact qd | exact q4 | exact q5) (first
    | (go_at_call 222;refine HTo2.out.mono ?_;rintro e w4 ⟨v4,rfl,hv4,k4⟩;have hn4:=hv4.nds hlj.out;have q4:=cells_keeps k4 qd;obtain ⟨p4,n4,c4,rfl⟩:=hn4.shape)
    | (go_at_call 227;refine (HTk2.out _ w4 (kwr.drew.trans k4) hn4).mono ?_;rintro e w5 ⟨u5,ok,rfl,k5,hok,hno⟩;replace hok:=hid hok;replace hno:=hid hno;have q5:=cells_keeps k5 q4))
   have kw5:=(kwr.drew.trans k4).trans k5;have kr5:=(kr.drew.trans k4).trans k5
   cases ok with
   | true=>
    obtain ⟨gs,hgl,hpr⟩:=hok.out rfl;obtain ⟨pg,cg,rfl,_⟩:=hgl.shape;have HG:=hid (HAll.out gs hpr _ w5 kw5 hgl);clear hgl hpr;go_wp2_with fail;refine HG.out.mono ?_;rintro e w6 ⟨rfl,ht,hd6⟩;go_wp2_with fail;go_ret;exact ⟨rfl,(Turns.ofKeeps kw5).trans ht,hd6⟩
   | false=>
    have hl4:=hid (hno.out rfl);go_wp2;go_roundw
    case rel=>
     refine ⟨j+1,by omega,by go_num,kr5,hid (fun i hi hij=>?_)⟩
     by_cases e:i=j
     ·subst e;exact hl4.out
     ·exact hleft.out i hi (by omega)
    case measure=>simp [intOf];omega
  ·obtain rfl:j=k:=by omega
   have hlt':¬((j:Int)<j):=by omega
   have hF:=hfin.out (fun t ht=>by
    obtain ⟨i,hi,rfl⟩:=List.getElem_of_mem ht
    exact hleft.out i hi (by have:=HLn.out;omega))
   have hT:=hid (HTr.out hF _ wr kwr (HNT3.out.keeps kr))
   replace q1:=kr.cell q1
   replace q2:=kr.cell q2
   clear hF;go_wp2_with fail;refine hT.out.mono ?_;rintro e w5 ⟨rfl,ht,hd5⟩;go_wp2_with fail;go_ret;exact ⟨rfl,(Turns.ofKeeps kwr).trans ht,hd5⟩
theorem decide_any (n:Nat) (ih:ProvesOk n) (G:List Fm) (c:Fm) (hG:OkL G) (hc:OkF c) (hn:wts G+wt c≤n) (hl:wts G+wt c≤50000000)
  (p:Option Addr) (k q:Nat) (s:ByteArray) (d m:Nat) (w:World) (hv:Left w (.slice p k q) G) (hs:bts s=c.body) (hd:Dec w d m):
  Calls Tryz.prog 197 #[.pointer (some ⟨d,0,none⟩),.agg #[.slice p k q,.string s]] w (Says w d m (sqB G c)):=by
 by_cases h1:c∈G
 ·exact decide_quick G c hG hc (.inl h1) p k q s d m w hv hs hd
 by_cases h2:Fm.fls∈G
 ·exact decide_quick G c hG hc (.inr h2) p k q s d m w hv hs hd
 cases c with
 | and x y=>exact decide_and n ih G x y hG hc hn hl h1 h2 p k q s d m w hv hs hd
 | imp x y=>exact decide_imp n ih G x y hG hc hn hl h1 h2 p k q s d m w hv hs hd
 | var i=>exact decide_rest n ih G _ hG hc hn hl h1 h2 (.inl ⟨i,rfl,h1⟩) 0 rfl rfl rfl p k q s d m w hv hs hd
 | fls=>exact decide_rest n ih G _ hG hc hn hl h1 h2 (.inr (.inl rfl)) 1 rfl rfl rfl p k q s d m w hv hs hd
 | or x y=>exact decide_rest n ih G _ hG hc hn hl h1 h2 (.inr (.inr ⟨x,y,rfl⟩)) 3 rfl rfl rfl p k q s d m w hv hs hd
 | box x=>exact absurd hc.2 (by simp [Fm.plain])
 | dia x=>exact absurd hc.2 (by simp [Fm.plain])
theorem keyL_wts:∀ G:List Fm,(keyL (G.map Fm.body)).length≤5*wts G
 | []=>by simp [keyL]
 | a::G=>by
  have h1:=keyL_wts G;have h2:=body_len a;have h3:=len_le_wt a;simp only [keyL,List.map_cons,List.flatMap_cons,List.length_append,List.length_cons,List.length_nil,wts] at h1 ⊢;omega
theorem proves_step (n:Nat) (ih:ProvesOk n):ProvesOk (n+1):=by
 intro G c hG hc hn hl p k q s d m w hv hs hd;have kA:=(Keeps.refl w).alloc (.cells #[.slice p k q,.string s] 177)
 have pa:(w.alloc (.cells #[.slice p k q,.string s] 177)).cell? ⟨w.heap.size,0,none⟩=some (.slice p k q):=by simp
 have pb':(w.alloc (.cells #[.slice p k q,.string s] 177)).cell? ⟨w.heap.size,1,none⟩=some (.string s):=by simp
 have kB:=kA.alloc (.cells #[.string s] 9);obtain ⟨ss,hss,htx⟩:=hv
 have hkey:(keyL (ss.map bts)).length+(keyL ([s].map bts)).length≤1000000000:=by
  have h1:=keyL_wts G;have h2:=keyL_wts [c];rw [show ss.map bts=G.map Fm.body from htx,show [s].map bts=[c].map Fm.body by simp [hs]];simp only [wts] at h2;omega
 have hkeq:keyOf (ss.map bts) ([s].map bts)=keyF G c:=by
  rw [show ss.map bts=G.map Fm.body from htx,show [s].map bts=[c.body] by simp [hs]];rfl
 have HK:=hid (fun (v:Value) (hu:Strs ((w.alloc (.cells #[.slice p k q,.string s] 177)).alloc (.cells #[.string s] 9)) v [s])=>seqKey_any ss [s] _ v _ (hss.keeps kB) hu hkey);rw [hkeq] at HK
 have hlit:Strs ((w.alloc (.cells #[.slice p k q,.string s] 177)).alloc (.cells #[.string s] 9)) (.slice (some ⟨w.heap.size+1,0,none⟩) 1 1) [s]:=by
  have:=Strs.lit1 (w.alloc (.cells #[.slice p k q,.string s] 177)) s;rwa [show (w.alloc (.cells #[.slice p k q,.string s] 177)).heap.size=w.heap.size+1 by simp] at this
 have HLit:=hid hlit;have HDc:=hid (fun w2 (kw:Keeps w w2)=>decide_any n ih G c hG hc (by omega) hl p k q s d m w2 ⟨ss,hss.keeps kw,htx⟩ hs (hd.keeps kw));have HD:=hid hd;have HKn:=hid (fun key b (h:Known key b) (e:bts key=keyF G c)=>h.is hG hc e);have HKp:=hid (fun key (e:bts key=keyF G c)=>(⟨G,c,hG,hc,e,rfl⟩:Known key (sqB G c)));clear hss htx hkey hkeq hd hlit hs;go_enter Tryz.func158,Tryz.ntmps158;go_wp2_with fail;refine (HK.out _ HLit.out).mono ?_;rintro e w2 ⟨key,rfl,hkb,k2⟩;have kw:=kB.trans k2;have kC:=((Keeps.refl _).alloc (.cells #[.string s] 9)).trans k2;obtain ⟨q1,q2⟩:=cells_keeps kC (And.intro pa pb');obtain ⟨d1,d2⟩:=HD.out.keeps kw;have HB:=hid hkb;clear hkb
 go_wp2_with (at_lookup;refine wpList_ans_look (S:=Known) (m:=m) Tryz.underlying171 Tryz.underlying9 rfl _ _ rfl (Tryz.zeroValue4 _) rfl d2 key rfl ?_;intro b ok hb;replace hb:=hid hb)
 ·rename_i hok
  go_ret;exact ⟨ret_bool (HKn.out key b (hb.out hok) HB.out),Turns.ofKeeps kw,HD.out.keeps kw⟩
 ·refine (HDc.out w2 kw).mono ?_;rintro e w3 ⟨rfl,ht,hd3⟩
  obtain ⟨d3,d4⟩:=hd3;have hbs:=HKp.out key HB.out
  go_wp2_with (at_mapUpdate;refine wpList_ans_put (S:=Known) (m:=m) Tryz.underlying171 Tryz.underlying9 rfl _ _ _ rfl rfl d4 key rfl _ rfl hbs ?_;intro w4 ha ht4)
  go_ret;exact ⟨rfl,((Turns.ofKeeps kw).trans ht).trans ht4,ht4.2 _ _ d3,ha⟩
theorem proves_all:∀ n,ProvesOk n
 | 0=>fun _ _ _ _ h=>absurd h (Nat.not_lt_zero _)
 | n+1=>proves_step n (proves_all n)
theorem newDecider_any (w:World):Calls Tryz.prog 125 #[] w fun e w'=>∃ d m,e=.returned (.pointer (some ⟨d,0,none⟩))∧Dec w' d m∧w.heap.size≤m∧Keeps w w':=by
 have hmm:=@run_makeMap Tryz.prog;go_enter Tryz.func125,Tryz.ntmps125;go_wp2;go_ret;refine ⟨_,w.heap.size,rfl,⟨?_,?_⟩,Nat.le_refl _,((Keeps.refl w).alloc _).alloc _⟩
 ·simp
 ·exact (Ans.made w Known).keeps ((Keeps.refl _).alloc _)
theorem dprovable_any (G:List Fm) (c:Fm) (hG:OkL G) (hc:OkF c) (hl:wts G+wt c≤50000000) (s:ByteArray) (v:Value) (d m:Nat) (w:World) (hv:Left w v G) (hs:bts s=c.body) (hd:Dec w d m):
  Calls Tryz.prog 126 #[.pointer (some ⟨d,0,none⟩),v,.string s] w (Says w d m (sqB G c)):=by
 obtain ⟨p,n,q,rfl⟩:=hv.shape;have HP:=hid (put_fm G [] _ _ w hv (Left.nil w) hG okL_nil (by simp only [wts];omega))
 have HR:=hid (fun R (hR:∀ a,a∈R↔a∈G∨a∈([]:List Fm)) (hw:wts R≤wts G+wts [])=>by
  have h1:wts R+wt c≤50000000:=by simp only [wts] at hw;omega
  have h2:=proves_all (wts R+wt c+1) R c (fun a ha=>hG a (by simpa using (hR a).1 ha)) hc (by omega) h1;rw [sqB_congr (sq_same (fun a=>(hR a).trans (by simp):∀ a,a∈R↔a∈G))] at h2
  exact h2)
 have HD:=hid hd;clear hv hd;go_enter Tryz.func126,Tryz.ntmps126;go_wp2_with fail;refine HP.out.mono ?_;rintro e w2 ⟨v2,R,rfl,hR,hm,hwt,k2⟩;obtain ⟨p2,n2,q2,rfl⟩:=hR.left.shape;go_wp2_with fail;refine (HR.out R hm hwt p2 n2 q2 s d m w2 hR.left hs (HD.out.keeps k2)).mono ?_;rintro e w3 ⟨rfl,ht,hd3⟩;go_wp2_with fail;go_ret;exact ⟨rfl,(Turns.ofKeeps k2).trans ht,hd3⟩
theorem provable_any (G:List Fm) (c:Fm) (hG:OkL G) (hc:OkF c) (hl:wts G+wt c≤50000000) (s:ByteArray) (v:Value) (w:World) (hv:Left w v G) (hs:bts s=c.body):
  Calls Tryz.prog 93 #[v,.string s] w fun e w'=>e=.returned (.bool (sqB G c))∧Keeps w w':=by
 obtain ⟨p,n,q,rfl⟩:=hv.shape;have HP:=hid (fun d m w2 (k:Keeps w w2) (hd:Dec w2 d m)=>dprovable_any G c hG hc hl s _ d m w2 (hv.keeps k) hs hd);clear hv;go_enter Tryz.func93,Tryz.ntmps93;go_wp2_with fail;refine (newDecider_any w).mono ?_;rintro e w2 ⟨d,m,rfl,hd,hm,k2⟩;go_wp2_with fail;refine (HP.out d m w2 k2 hd).mono ?_;rintro e w3 ⟨rfl,ht,hd3⟩;go_wp2_with fail;go_ret;exact ⟨rfl,ht.keeps hm k2⟩
theorem pow20 {n:Nat} (h:n≤20):2^n≤1048576:=Nat.le_trans (Nat.pow_le_pow_right (by omega) h) (by decide)
theorem wtH_small {c:Fm} (h:c.enc.length≤20):wt c≤1048576:=Nat.le_trans (wt_le_pow c) (pow20 h)
theorem fmH_err {t:Fm} (ht:OkF t) (hl:t.enc.length≤40):plainErr t.enc=0:=by
 unfold plainErr
 have h1:isFm t.enc=true:=by unfold isFm;rw [isTree_of_enc ht.1,decide_eq_true hl];rfl
 rw [if_pos h1,plainL_enc,if_pos ht.2]
theorem flH_tot (l:List (List Nd)):(fl l l.length).length=tot l:=by
 rw [fl_all]
 induction l with
 | nil=>rfl
 | cons x l ih=>simp [tot] at ih ⊢;omega
def smCodeH (a:List Nd):Int:=if plainErr a=0 then (if 20<a.length then 3 else 0) else plainErr a
theorem smallFormulasCode_oneH (a:List Nd) (hl:a.length≤1048576) (v:Value) (w:World) (hv:NdsL w v [a]):
  Calls Tryz.prog 92 #[v] w fun e w'=>e=.returned (.int .i64 (smCodeH a))∧Keeps w w':=by
 obtain ⟨p,n,cap,rfl⟩:=NdsL.shapeL hv;have h1:=plainCode_any [a] _ _ hv;rw [plainErrs_one] at h1;have hft:=flH_tot [a]
 have ht1:tot [a]=a.length:=by simp [tot]
 have HC:=hid (fun w2 (k:Keeps w w2)=>concatN_any [a] _ w2 (NdsL.keeps hv k) (by rw [flH_tot,ht1];omega));have HL:=hid (hft.trans ht1)
 by_cases h:plainErr a=0
 ·rw [h] at h1
  have H1:=hid h1
  have hsm:smCodeH a=if 20<a.length then 3 else 0:=by unfold smCodeH;rw [if_pos h]
  rw [hsm];clear h h1 hft ht1 hv hsm;go_enter Tryz.func92,Tryz.ntmps92;go_wp2_with fail;refine H1.out.mono ?_;rintro e w2 ⟨rfl,k2⟩;go_wp2_with fail;refine (HC.out w2 k2).mono ?_;rintro e w3 ⟨v3,rfl,hv3,k3⟩;obtain ⟨p3,c3,rfl,hc3,_⟩:=At.of_own hv3;have hlen3:=HL.out;generalize (fl [a] [a].length).length=m3 at*
  by_cases h20:20<a.length
  ·have h20':(20:Int)<m3:=by omega
   clear hlen3;go_wp2_with fail;go_ret;exact ⟨ret_int rfl,k2.trans k3⟩
  ·have h20':¬(20:Int)<m3:=by omega
   clear hlen3;go_wp2_with fail;go_ret;exact ⟨ret_int rfl,k2.trans k3⟩
 ·have hne:(plainErr a != 0)=true:=by simp [h]
  have hsm:smCodeH a=plainErr a:=by unfold smCodeH;rw [if_neg h]
  rw [hsm];have H1:=hid h1;clear h h1 hft ht1 hv hsm HC;go_enter Tryz.func92,Tryz.ntmps92;go_wp2_with fail;refine H1.out.mono ?_;rintro e w2 ⟨rfl,k2⟩;go_wp2_with fail;go_ret;exact ⟨rfl,k2⟩
theorem isIntTheorem_okH (c:Fm) (hc:OkF c) (hl:c.enc.length≤20) (v:Value) (w:World) (hv:Nds w v c.enc):
  Calls Tryz.prog 48 #[v] w fun e w'=>e=.returned (.tuple #[.bool (sqB [] c),.int .i64 0])∧Keeps w w':=by
 obtain ⟨p,n,cap,rfl⟩:=hv.shape;have hwt:=wtH_small hl;have he:plainErr c.enc=0:=fmH_err hc (by omega);have h1:=smallFormulasCode_oneH c.enc (by omega) _ _ (NdsL.lit1 hv);rw [show smCodeH c.enc=0 by unfold smCodeH;rw [if_pos he,if_neg (by omega)]] at h1;have H1:=hid h1;have k1:=(Keeps.refl w).alloc (.cells #[.slice p n cap] 34);have HT:=hid (fun w2 (k:Keeps w w2)=>text_any c hc.1 (by omega) _ w2 (hv.keeps k));have HP:=hid (fun s (hs:bts s=c.body) w2=>provable_any [] c okL_nil hc (by simp only [wts];omega) s (.slice none 0 0) w2 (Left.nil w2) hs);clear hv h1 he;go_enter Tryz.func48,Tryz.ntmps48;go_wp2_with fail;refine H1.out.mono ?_;rintro e w2 ⟨rfl,k2⟩;go_wp2_with fail;refine (HT.out w2 (k1.trans k2)).mono ?_;rintro e w3 ⟨s,rfl,hs,k3⟩;go_wp2_with fail;refine (HP.out s hs w3).mono ?_;rintro e w4 ⟨rfl,k4⟩;go_wp2_with fail
 go_ret2
 exact ⟨rfl,((k1.trans k2).trans k3).trans k4⟩
theorem isIntTheorem_bad (a:List Nd) (hl:a.length≤1000) (v:Value) (w:World) (hv:Nds w v a) (hc:smCodeH a≠0):
  Calls Tryz.prog 48 #[v] w fun e w'=>e=.returned (.tuple #[.bool false,.int .i64 (smCodeH a)])∧Keeps w w':=by
 obtain ⟨p,n,cap,rfl⟩:=hv.shape;have H1:=hid (smallFormulasCode_oneH a (by omega) _ _ (NdsL.lit1 hv));have k1:=(Keeps.refl w).alloc (.cells #[.slice p n cap] 34)
 have hc':(smCodeH a != 0)=true:=by simpa using hc
 clear hv hl hc;generalize smCodeH a=c at*;go_enter Tryz.func48,Tryz.ntmps48;go_wp2_with fail;refine H1.out.mono ?_;rintro e w2 ⟨rfl,k2⟩;go_wp2_with fail
 go_ret2
 exact ⟨rfl,k1.trans k2⟩
theorem isIntTheorem_full (t:Fm) (_hw:t.wf) (hl:t.enc.length≤1000) (ht:Sq [] t) (v:Value) (w:World) (hv:Nds w v t.enc):
  Calls Tryz.prog 48 #[v] w fun e w'=>(∃ (b:Bool) (c:Int),e=.returned (.tuple #[.bool b,.int .i64 c])∧(c=0→b=true))∧Keeps w w':=by
 by_cases hc:smCodeH t.enc=0
 ·have h2:plainErr t.enc=0∧t.enc.length≤20:=by
   unfold smCodeH at hc
   split at hc
   ·rename_i h1
    split at hc
    ·cases hc
    ·exact ⟨h1,by omega⟩
   ·rename_i h1
    exact absurd hc h1
  obtain ⟨u,hw2,he,hp,_⟩:=plain_tree h2.1;obtain rfl:=enc_inj he;refine (isIntTheorem_okH t ⟨hw2,hp⟩ h2.2 v w hv).mono ?_;rintro e w' ⟨rfl,k⟩;exact ⟨⟨_,_,rfl,fun _=>sqB_iff.2 ht⟩,k⟩
 ·refine (isIntTheorem_bad t.enc hl v w hv hc).mono ?_
  rintro e w' ⟨rfl,k⟩;exact ⟨⟨_,_,rfl,fun h=>absurd h hc⟩,k⟩
theorem ownH_shape {w:World} {B:Nat} {v:Value} {a:List Nd} (h:OwnN w B v a):∃ p n q,v=.slice p n q:=by
 obtain ⟨p,c,e,_⟩:=At.of_own h;exact ⟨p,_,c,e⟩
theorem isFmH_of {t:Fm} (hw:t.wf) (hl:t.enc.length≤40):isFm t.enc=true:=by unfold isFm;rw [isTree_of_enc hw,decide_eq_true hl];rfl
def JoinI (w:World) (a b:List Nd) (e:Ending) (w':World):Prop:=∃ (u:Value) (c:Int),e=.returned (.tuple #[u,.int .i64 c])∧(c=0→isFm a=true∧isFm b=true∧1+a.length+b.length≤40∧OwnN w' w.heap.size u (⟨4,0⟩::(a++b)))∧(∃ p n q,u=.slice p n q)∧Keeps w w'
theorem specJoinI_any (a b:List Nd) (va vb:Value) (w:World) (hva:Nds w va a) (hvb:Nds w vb b):
  Calls Tryz.prog 15 #[.int .i64 4,va,vb] w (JoinI w a b):=by
 have HA:=hid (l02Is_any a va w hva);have HB:=hid (l02Is_any b vb w hvb);have HV:=hid (And.intro hva hvb)
 have HJ:=hid (fun (h1:isFm a=true) (h2:isFm b=true)=>l02Pair_any 4 a b va vb w hva hvb (by
  unfold isFm at h1 h2;simp only [Bool.and_eq_true,decide_eq_true_eq] at h1 h2
  omega))
 obtain ⟨p,n,q,rfl⟩:=hva.shape;obtain ⟨p2,n2,q2,rfl⟩:=hvb.shape;clear hva hvb
 cases ha:isFm a with
 | false=>
  rw [ha] at HA
  have hr:isFm a=true→False:=fun h=>by rw [ha] at h;cases h
  have HR:=hid hr;clear ha hr HB HV HJ;go_enter Tryz.func15,Tryz.ntmps15;go_wp2_with fail;refine HA.out.mono ?_;rintro e w' ⟨rfl,rfl⟩;go_wp2_with fail
  go_ret2
  exact ⟨.slice none 0 0,1,rfl,fun h=>absurd h (by decide),⟨none,0,0,rfl⟩,Keeps.refl _⟩
 | true=>
  rw [ha] at HA
  cases hb:isFm b with
  | false=>
   rw [hb] at HB;clear ha hb HV HJ;go_enter Tryz.func15,Tryz.ntmps15;go_wp2_with fail;refine HA.out.mono ?_;rintro e w' ⟨rfl,rfl⟩;go_wp2_with fail;refine HB.out.mono ?_;rintro e w' ⟨rfl,rfl⟩;go_wp2_with fail
   go_ret2
   exact ⟨.slice none 0 0,1,rfl,fun h=>absurd h (by decide),⟨none,0,0,rfl⟩,Keeps.refl _⟩
  | true=>
   rw [hb] at HB;have HF:=hid (And.intro ha hb);have HIN:=hid (l01In_any 4 2 4 w);rw [show inR 4 2 4=true from by decide] at HIN;have HP:=hid (HJ.out ha hb)
   have HL:=hid (show a.length≤40∧b.length≤40 from by
    unfold isFm at ha hb;simp only [Bool.and_eq_true,decide_eq_true_eq] at ha hb
    omega)
   clear ha hb HV HJ;go_enter Tryz.func15,Tryz.ntmps15;go_wp2_with fail;refine HA.out.mono ?_;rintro e w' ⟨rfl,rfl⟩;go_wp2_with fail;refine HB.out.mono ?_;rintro e w' ⟨rfl,rfl⟩;go_wp2_with fail;refine HIN.out.mono ?_;rintro e w' ⟨rfl,rfl⟩;go_wp2_with fail;refine HP.out.mono ?_;rintro e w1 ⟨v1,rfl,hv1,k1⟩;have HM:=hid (l02Made_own _ v1 w1 w.heap.size hv1 (by have:=HL.out;simp only [List.length_cons,List.length_append];omega));obtain ⟨p1,n1,q1,rfl⟩:=ownH_shape hv1;clear hv1;go_wp2_with fail;refine HM.out.mono ?_;rintro e w2 ⟨u,rfl,hu,rfl⟩;have HU:=hid hu;obtain ⟨pu,nu,qu,rfl⟩:=ownH_shape hu;clear hu;go_wp2_with fail
   go_ret2
   refine ⟨_,_,rfl,fun h=>?_,⟨_,_,_,rfl⟩,k1⟩;have h2:=HU.out;unfold madeL at h h2
   split at h
   ·rename_i h40
    rw [if_pos h40] at h2;exact ⟨HF.out.1,HF.out.2,by simp only [List.length_cons,List.length_append] at h40;omega,h2⟩
   ·cases h
theorem specFormulaText_any (t:Fm) (hw:t.wf) (hl:t.enc.length≤40) (v:Value) (w:World) (hv:Nds w v t.enc):
  Calls Tryz.prog 99 #[v] w fun e w'=>∃ s,e=.returned (.tuple #[.string s,.int .i64 0])∧IsTx s t∧Keeps w w':=by
 have HI:=hid (l02Is_any t.enc v w hv);rw [isFmH_of hw hl] at HI;have HT:=hid (l02TextA t hw (by omega) v w hv);have HW:=hid (And.intro hw hl);obtain ⟨p,n,q,rfl⟩:=hv.shape;clear hv hw hl;go_enter Tryz.func99,Tryz.ntmps99;go_wp2_with fail;refine HI.out.mono ?_;rintro e w' ⟨rfl,rfl⟩;go_wp2_with fail;refine HT.out.mono ?_;rintro e w2 ⟨s,rfl,hs,k2⟩;go_wp2_with fail
 go_ret2
 exact ⟨s,rfl,⟨HW.out.1,hs,HW.out.2⟩,k2⟩
theorem say5_any (t:Fm) (hw:t.wf) (hl:t.enc.length≤40) (v:Value) (w:World) (hv:Nds w v t.enc):
  Calls Tryz.prog 51 #[v] w fun e w'=>∃ s,e=.returned (.string s)∧IsTx s t∧Keeps w w':=by
 have HI:=hid (specFormulaText_any t hw hl v w hv);obtain ⟨p,n,q,rfl⟩:=hv.shape;clear hv hw hl;go_enter Tryz.func51,Tryz.ntmps51;go_wp2_with fail;refine HI.out.mono ?_;rintro e w2 ⟨s,rfl,hs,k2⟩;go_wp2_with fail;go_ret;exact ⟨s,rfl,hs,k2⟩
theorem modal_dec (L:Nat) (hL:L<8) (t:Fm) (hf:Fol L [] t) (s:ByteArray) (hs:IsTx s t) (v u:Value) (w:World) (hv:Strs w v []) (hu:Strs w u [s]):
  Calls Tryz.prog 50 #[.string (syS L),.agg #[v,u]] w fun e w'=>∃ (b:Bool) (c:Int),e=.returned (.tuple #[.bool b,.int .i64 c])∧(c=0∧b=true∨c=3)∧Keeps w w':=by
 have hz:=hs.small;refine (implIsModalTheorem (syS L) [] [s] v u w hv hu (fun x hx=>by cases hx) (fun x hx=>by rw [List.mem_singleton.1 hx];omega)).mono ?_;rintro e w' ⟨rfl,k⟩
 rcases srC_one hL hs with h0 | h3
 ·exact ⟨_,_,rfl,.inl ⟨h0,mt_one hL hs hf h0⟩,k⟩
 ·exact ⟨_,_,rfl,.inr h3,k⟩
theorem theorem5_any (L:Nat) (hL:L≤9) (t:Fm) (hw:t.wf) (hl:t.enc.length≤40) (hf:Fol L [] t) (v:Value) (w:World) (hv:Nds w v t.enc):
  Calls Tryz.prog 16 #[.string (syS L),v] w fun e w'=>e=.returned (.bool true)∧Keeps w w':=by
 by_cases h8:L=8
 ·subst h8
  have hsq:Sq [] t:=by unfold Fol at hf;rwa [if_pos rfl] at hf
  have HI:=hid (isIntTheorem_full t hw (by omega) hsq v w hv);obtain ⟨p,n,q,rfl⟩:=hv.shape;clear hv hw hl hf hsq hL;rw [show syS 8=⟨#[73,110,116]⟩ from rfl];go_enter Tryz.func16,Tryz.ntmps16;go_wp2_with fail;refine HI.out.mono ?_;rintro e w2 ⟨⟨b,c,rfl,hb⟩,k2⟩
  by_cases hc:c=0
  ·subst hc
   obtain rfl:=hb rfl;clear hb;go_wp2_with fail;go_ret;exact ⟨rfl,k2⟩
  ·have hc':(c != 0)=true:=by simpa using hc
   clear hc hb;go_wp2_with fail;go_ret;exact ⟨rfl,k2⟩
 by_cases h9:L=9
 ·subst h9
  have HI:=hid (isTautology_full t hw (by omega) hf v w hv);obtain ⟨p,n,q,rfl⟩:=hv.shape;clear hv hw hl hf hL h8;rw [show syS 9=⟨#[67,76]⟩ from rfl];go_enter Tryz.func16,Tryz.ntmps16;go_wp2_with fail;refine HI.out.mono ?_;rintro e w2 ⟨⟨b,c,rfl,hb⟩,k2⟩
  by_cases hc:c=0
  ·subst hc
   obtain rfl:=hb rfl;clear hb;go_wp2_with fail;go_ret;exact ⟨rfl,k2⟩
  ·have hc':(c != 0)=true:=by simpa using hc
   clear hc hb;go_wp2_with fail;go_ret;exact ⟨rfl,k2⟩
 have h7:L<8:=by omega
 have kA:=(Keeps.refl w).alloc (.cells #[] 9);have hE:Strs (w.alloc (.cells #[] 9)) (.slice (some ⟨w.heap.size,0,none⟩) 0 0) []:=Strs.lit (w:=w) [] (by simp);have HS:=hid (say5_any t hw hl v _ (hv.keeps kA));have HM:=hid (fun s (hs:IsTx s t) (w2:World) (k2:Keeps (w.alloc (.cells #[] 9)) w2)=>modal_dec L h7 t hf s hs _ _ _ ((hE.keeps k2).keeps ((Keeps.refl w2).alloc (.cells #[.string s] 9))) (Strs.lit1 w2 s));have HKA:=hid kA;obtain ⟨p,n,q,rfl⟩:=hv.shape;clear hv hw hl hf hE kA hL h8 h9
 have hh:L=0∨L=1∨L=2∨L=3∨L=4∨L=5∨L=6∨L=7:=by omega
 clear h7
 rcases hh with rfl | rfl | rfl | rfl | rfl | rfl | rfl | rfl
 all_goals
  first | (rw [show syS 0=⟨#[75]⟩ from rfl] at *) | (rw [show syS 1=⟨#[68]⟩ from rfl] at *) | (rw [show syS 2=⟨#[84]⟩ from rfl] at *) | (rw [show syS 3=⟨#[75,52]⟩ from rfl] at *) | (rw [show syS 4=⟨#[83,52]⟩ from rfl] at *) | (rw [show syS 5=⟨#[71,76]⟩ from rfl] at *) | (rw [show syS 6=⟨#[83,53]⟩ from rfl] at *) | (rw [show syS 7=⟨#[75,66]⟩ from rfl] at *)
  go_enter Tryz.func16,Tryz.ntmps16;go_wp2_with fail;refine HS.out.mono ?_;rintro e w2 ⟨s,rfl,hs,k2⟩;have HM2:=hid (HM.out s hs w2 k2);have kB:=(HKA.out.trans k2).alloc (.cells #[.string s] 9);clear HM hs;go_wp2_with fail;refine HM2.out.mono ?_;rintro e w3 ⟨b,c,rfl,(⟨rfl,rfl⟩ | rfl),k3⟩
  ·go_wp2_with fail
   go_ret;exact ⟨rfl,kB.trans k3⟩
  ·go_wp2_with fail
   go_ret;exact ⟨rfl,kB.trans k3⟩
end Go.Proofs.YtbccmdfdclomiaaGreatDoor
