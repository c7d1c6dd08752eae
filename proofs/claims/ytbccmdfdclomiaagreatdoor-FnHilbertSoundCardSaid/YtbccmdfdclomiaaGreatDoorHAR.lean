import Derived.Test.YtbccmdfdclomiaaGreatDoorHAM
/- own -/
namespace Go.Proofs.YtbccmdfdclomiaaGreatDoor
set_option maxRecDepth 20000
set_option maxHeartbeats 8000000
open Go.RowKit
theorem asc_len:∀ (l:List Nat) (m n:Nat),l.Pairwise (· < ·)→(∀ z∈l,m≤z∧z<n)→l.length≤n-m
 | [],m,n,_,_=>by simp
 | a::l,m,n,h,hb=>by
  rw [List.pairwise_cons] at h;obtain ⟨h1,h2⟩:=hb a (by simp);have:=asc_len l (a+1) n h.2 (fun z hz=>⟨h.1 z hz,(hb z (by simp [hz])).2⟩);simp only [List.length_cons];omega
def UsB (n:Nat) (us:List (List Nat)):Prop:=∀ i,(getI [] us i).Pairwise (· < ·)∧∀ z∈getI [] us i,z<n
theorem UsB.nil (n:Nat):UsB n []:=fun i=>by simp [getI]
theorem UsB.len {n:Nat} {us:List (List Nat)} (h:UsB n us) (i:Int):(getI [] us i).length≤n:=by
 have:=asc_len _ 0 n (h i).1 (fun z hz=>⟨Nat.zero_le _,(h i).2 z hz⟩);omega
theorem okL_pre {L:Nat} {H:List (List Nd)} {ls:List Ln} {x:Ln} (h:okL L H ls x=true):PreOk (usP ls) x∧(x.r=2→0≤x.f∧x.f<H.length):=by
 unfold okL at h;rw [Bool.and_eq_true] at h;obtain ⟨_,h⟩:=h;unfold PreOk;rw [usP_len]
 by_cases r1:x.r=1
 ·exact ⟨⟨fun e=>by omega,fun e=>by omega,fun e=>by omega⟩,fun e=>by omega⟩
 ·rw [if_neg r1] at h
  by_cases r2:x.r=2
  ·rw [if_pos r2] at h
   simp only [Bool.and_eq_true,inR_iff] at h;exact ⟨⟨fun e=>by omega,fun e=>by omega,fun _=>by omega⟩,fun _=>by omega⟩
  ·rw [if_neg r2] at h
   by_cases r3:x.r=3
   ·rw [if_pos r3] at h
    simp only [Bool.and_eq_true,inR_iff] at h;exact ⟨⟨fun _=>⟨⟨by omega,by omega⟩,by omega,by omega⟩,fun e=>by omega,fun e=>by omega⟩,fun e=>by omega⟩
   ·rw [if_neg r3] at h
    by_cases r4:x.r=4
    ·rw [if_pos r4] at h
     simp only [Bool.and_eq_true,inR_iff] at h;exact ⟨⟨fun e=>by omega,fun _=>⟨by omega,by omega⟩,fun e=>by omega⟩,fun e=>by omega⟩
    ·exact ⟨⟨fun e=>by omega,fun e=>by omega,fun e=>by omega⟩,fun e=>by omega⟩
theorem UsB.snoc {n:Nat} {us:List (List Nat)} {x:Ln} (h:UsB n us) (h2:x.r=2→0≤x.f∧x.f<n):UsB n (us++[useO us x]):=fun i=>by
 rw [getI_snoc]
 split
 ·exact h i
 ·split
  ·refine ⟨useO_asc _ _,fun z hz=>?_⟩
   unfold useO at hz
   split at hz
   ·rename_i e
    have:=(sortC_mem z _).1 hz;simp only [List.mem_singleton] at this;have:=h2 e;omega
   ·split at hz
    ·rcases List.mem_append.1 ((sortC_mem z _).1 hz) with hz | hz
     ·exact (h _).2 z hz
     ·exact (h _).2 z hz
    ·split at hz
     ·exact (h _).2 z ((sortC_mem z _).1 hz)
     ·simp at hz
  ·exact ⟨List.Pairwise.nil,by simp⟩
theorem gat_small {n:Nat} {us:List (List Nat)} {x:Ln} (h:UsB n us) (hn:n≤6):(gatI us x).length≤12:=by
 unfold gatI preI;have h1:=h.len x.f;have h2:=h.len x.s
 by_cases r2:x.r=2
 ·rw [if_pos r2,if_neg (by omega),if_neg (by omega)];simp
 ·rw [if_neg r2]
  by_cases r3:x.r=3
  ·rw [if_pos r3];simp;omega
  ·rw [if_neg r3]
   by_cases r4:x.r=4
   ·rw [if_pos r4];simp;omega
   ·rw [if_neg r4];simp
theorem bdF_step (L:Nat) (H:List (List Nd)) (ls:List Ln) (i:Nat) (h:i<ls.length):bdF L H (ls.take i) (ls.drop i)=if okL L H (ls.take i) ls[i] then bdF L H (ls.take (i+1)) (ls.drop (i+1)) else i:=by
 rw [List.drop_eq_getElem_cons h,bdF,List.take_succ_eq_append_getElem h]
 split
 ·rfl
 ·simp;omega
theorem firstBad_any (r L:Nat) (hL:L≤9) (hv lv:Value) (H:List (List Nd)) (ls:List Ln) (hM:MidLn ls) (hll:ls.length≤1000) (hHl:H.length≤6) (w0 w:World) (k0:Keeps w0 w) (hb:BoxG w r 60 [.string (syS L),hv,lv,.slice none 0 0]) (hr:w0.heap.size≤r)
  (hHs:NdsL w0 hv H) (hLs:LnL w0 lv ls) (hN:LaidS 0 texts19 w0):
  Calls Tryz.prog 39 #[.pointer (some ⟨r,0,none⟩)] w fun e w'=>e=.returned (.int .i64 (bdL L H ls))∧(bdL L H ls = -1→∃ uv',BoxG w' r 60 [.string (syS L),hv,lv,uv']∧OwnLI w' w0.heap.size uv' (usP ls))∧Keeps w0 w':=by
 have HIG:=hid (fun k (hk:k<ls.length) uv wz (kz:Keeps w0 wz) (hbz:BoxG wz r 60 [.string (syS L),hv,lv,uv]) (hu:OwnLI wz w0.heap.size uv (usP (ls.take k)))=>
  isGood_any r L w0.heap.size hL hv lv uv H ls k hk hM (by omega) wz ⟨hbz,hHs.keeps kz,hLs.keeps kz,hu⟩ (hN.keeps kz))
 have HST:=hid (fun i (h:i<ls.length)=>bdF_step L H ls i h)
 obtain ⟨R,hR0⟩:∃ R,bdL L H ls=R:=⟨_,rfl⟩
 have HB0:=hid (show R=bdF L H (ls.take 0) (ls.drop 0) from by rw [←hR0];simp [bdL]);have HR0:=hid hR0;clear hR0;have HE:=hid (show bdF L H (ls.take ls.length) (ls.drop ls.length) = -1 from by simp [bdF]);have HLS:=hid (fun wz (kz:Keeps w0 wz)=>hLs.keeps kz);obtain ⟨pl,cl,rfl,hle,hmx,_⟩:=hLs.shape;unfold maxLen at hmx;have HBX:=hid hb;have c2:=hb.cell 2 (by simp);simp only [List.getElem_cons_succ,List.getElem_cons_zero] at c2;clear hHs hLs hN hb;go_enter Tryz.func39,Tryz.ntmps39;go_wp2_with fail
 go_loopw [10] (fun i' wr=>∃ (i:Nat) (uv:Value),i≤ls.length∧i'=.int .i64 i∧R=bdF L H (ls.take i) (ls.drop i)∧UsB H.length (usP (ls.take i))∧BoxG wr r 60 [.string (syS L),hv,.slice pl ls.length cl,uv]∧OwnLI wr w0.heap.size uv (usP (ls.take i))∧Keeps w0 wr) (fun i' _=>ls.length-(intOf i').toNat)
 case atStart=>exact ⟨0,_,by omega,rfl,HB0.out,by simpa [usP,usF] using UsB.nil _,HBX.out,by simpa [usP,usF] using OwnLI.nil _ _,k0⟩
 case round=>
  obtain ⟨i,uv,hi,rfl,hR,hUB,hb,hu,kw⟩:=hrel;clear c2 HBX
  by_cases hlt:i<ls.length
  ·have hlt':(i:Int)<ls.length:=by omega
   obtain ⟨bl,ol,q,m,c,epl,⟨y0,y1,y2,y3⟩,hna⟩:=(HLS.out wr kw).get i hlt;subst epl;rw [HST.out i hlt] at hR;have HUS:=hid (show usP (ls.take (i+1))=usP (ls.take i)++[useO (usP (ls.take i)) ls[i]] from by rw [List.take_succ_eq_append_getElem hlt,usP_snoc])
   have hul:(usP (ls.take i)).length=i:=by rw [usP_len];simp;omega
   have kA:=(Keeps.refl wr).alloc (.cells #[.int .i64 ls[i].r,.int .i64 ls[i].f,.int .i64 ls[i].s,.slice q m c] 72);have HG1:=hid (HIG.out i hlt uv _ (kw.trans kA) (hb.keeps kA) (hu.keeps kA));have HOP:=hid (fun (h:okL L H (ls.take i) ls[i]=true)=>okL_pre (L:=L) (H:=H) (ls:=ls.take i) (x:=ls[i]) h);have HR:=hid hR;have HB:=hid hb;have HU:=hid hu;have HUB:=hid hUB;have HK:=hid kw;have c2:=(hb.keeps kA).cell 2 (by simp);simp only [List.getElem_cons_succ,List.getElem_cons_zero] at c2
   have hwi:wrap64 ((i:Int)+1)=((i+1:Nat):Int):=by unfold wrap64;omega
   clear hR hb hu hUB kw hna;have HKA:=hid kA
   have b0:(wr.alloc (.cells #[.int .i64 ls[i].r,.int .i64 ls[i].f,.int .i64 ls[i].s,.slice q m c] 72)).cell? ⟨wr.heap.size,0,none⟩=some (.int .i64 ls[i].r):=by simp
   have b1:(wr.alloc (.cells #[.int .i64 ls[i].r,.int .i64 ls[i].f,.int .i64 ls[i].s,.slice q m c] 72)).cell? ⟨wr.heap.size,1,none⟩=some (.int .i64 ls[i].f):=by simp
   have b2:(wr.alloc (.cells #[.int .i64 ls[i].r,.int .i64 ls[i].f,.int .i64 ls[i].s,.slice q m c] 72)).cell? ⟨wr.heap.size,2,none⟩=some (.int .i64 ls[i].s):=by simp
   have b3:(wr.alloc (.cells #[.int .i64 ls[i].r,.int .i64 ls[i].f,.int .i64 ls[i].s,.slice q m c] 72)).cell? ⟨wr.heap.size,3,none⟩=some (.slice q m c):=by simp
   clear kA
   go_upto_region 4 with fail
   have HNT:=hid (fun us uvv wz (kz:Keeps w0 wz) (hbb:BoxG wz r 60 [.string (syS L),hv,.slice (some ⟨bl,ol,none⟩) ls.length cl,uvv]) (huu:OwnLI wz w0.heap.size uvv us) (hp:PreOk us ls[i]) (hg:(gatI us ls[i]).length≤12) (hl:us.length≤1000)=>note_any r L hv (.slice (some ⟨bl,ol,none⟩) ls.length cl) uvv us ls[i] q m c w0 wz kz hbb hr huu hl hp hg);generalize hx:ls[i]=x at*;obtain ⟨xr,xf,xs,xa⟩:=x
   simp only at*
   generalize wr.alloc (.cells #[.int .i64 xr,.int .i64 xf,.int .i64 xs,.slice q m c] 72)=wA at*
   cases hok:okL L H (ls.take i) ⟨xr,xf,xs,xa⟩
   ·rw [hok] at HG1 HR
    have HR2:Hid (R=(i:Int)):=hid (by have h:=HR.out;simpa using h);clear HR HNT HOP y0 y1 y2 y3;go_wp2_with fail;refine HG1.out.mono ?_;rintro e w3 ⟨rfl,k3⟩;go_wp2_with fail;go_ret;rw [HR0.out,HR2.out];exact ⟨rfl,fun e=>by omega,(HK.out.trans HKA.out).trans k3⟩
   ·rw [hok] at HG1 HR
    have HR2:Hid (R=bdF L H (ls.take (i+1)) (ls.drop (i+1))):=hid (by have h:=HR.out;simpa using h);obtain ⟨hpo,hp2⟩:=HOP.out hok;have HPO:=hid hpo;have HP2:=hid hp2;clear HR HOP y0 y1 y2 y3 hpo hp2;go_wp2_with fail;refine HG1.out.mono ?_;rintro e w3 ⟨rfl,k3⟩;have k13:=HKA.out.trans k3
    replace b0:=k3.cell b0
    replace b1:=k3.cell b1
    replace b2:=k3.cell b2
    replace b3:=k3.cell b3
    have HN2:=hid (HNT.out _ uv w3 (HK.out.trans k13) (HB.out.keeps k13) (HU.out.keeps k13) HPO.out (gat_small HUB.out hHl) (by omega));have hus2:=HUB.out.snoc (x:=⟨xr,xf,xs,xa⟩) HP2.out;rw [←HUS.out] at hus2;rw [←HUS.out] at HN2;have HUS2:=hid hus2;clear hus2 HNT HG1 k3 c2 HUS;go_wp2_with fail;refine HN2.out.mono ?_;rintro e w4 ⟨rfl,uv',hb4,hu4,k4⟩;have HU4:=hid hu4;clear b0 b1 b2 b3 hu4;go_wp2_with fail;go_roundw
    case rel=>exact ⟨i+1,uv',by omega,by go_num,HR2.out,HUS2.out,hb4,HU4.out,k4⟩
    case measure=>simp [intOf];omega
  ·obtain rfl:i=ls.length:=by omega
   have hlt':¬((ls.length:Nat):Int)<ls.length:=by omega
   rw [HE.out] at hR;subst hR;have HU:=hid hu;clear hu;go_wp2_with fail;go_ret;rw [HR0.out];exact ⟨rfl,fun _=>⟨uv,hb,by have h:=HU.out;rwa [List.take_length] at h⟩,kw⟩
def hcE (L:Nat) (H:List (List Nd)):Int:=if L≤9 then (if allFm H then 0 else 1) else 2
def cntB (ls:List Ln):Bool:=decide (1≤ls.length∧ls.length≤200)
noncomputable def prE (L:Nat) (H:List (List Nd)) (ls:List Ln):Int:=if hcE L H≠0 then hcE L H else if cntB ls=false then 3 else if 0≤bdL L H ls then 5 else 0
theorem bdF_or {L:Nat} {H:List (List Nd)}:∀ (r ls:List Ln),bdF L H ls r = -1∨0≤bdF L H ls r
 | [],_=>.inl rfl
 | x::r,ls=>by
  unfold bdF
  split
  ·exact bdF_or r _
  ·exact .inr (Int.natCast_nonneg _)
theorem hypothesesCode_any (L:Nat) (hL:L≤12) (H:List (List Nd)) (hv:Value) (w:World) (hH:NdsL w hv H):Calls Tryz.prog 37 #[.string (syS L),hv] w fun e w'=>e=.returned (.int .i64 (hcE L H))∧Keeps w w':=by
 obtain ⟨p,n,c,rfl⟩:=hH.shapeL
 by_cases h9:L≤9
 ·have HS:=hid (schemesOf_any L h9 w)
  have HA:=hid (fun wz (kz:Keeps w wz)=>areFormulas_any H _ wz (hH.keeps kz));have HE:Hid (hcE L H=if allFm H=true then 0 else 1):=hid (by unfold hcE;rw [if_pos h9]);generalize allFm H=b at*;clear hH;go_enter Tryz.func37,Tryz.ntmps37;go_wp2_with fail;refine HS.out.mono ?_;rintro e w2 ⟨u,rfl,hu,k2⟩;obtain ⟨pu,nu,cu,rfl⟩:=hu.shape0;go_wp2_with fail;refine (HA.out w2 k2).mono ?_;rintro e w3 ⟨rfl,k3⟩
  cases b
  ·go_wp2_with fail
   go_ret;exact ⟨ret_int HE.out.symm,k2.trans k3⟩
  ·go_wp2_with fail
   go_ret;exact ⟨ret_int HE.out.symm,k2.trans k3⟩
 ·have HS:=hid (schemesOf_none L (by omega) w)
  have HE:Hid (hcE L H=2):=hid (by unfold hcE;rw [if_neg h9]);clear hH;go_enter Tryz.func37,Tryz.ntmps37;go_wp2_with fail;refine HS.out.mono ?_;rintro e w2 ⟨rfl,k2⟩;go_wp2_with fail;go_ret;exact ⟨ret_int HE.out.symm,k2⟩
theorem isLineCount_any (ls:List Ln) (p:Option Addr) (c:Nat) (w:World):Calls Tryz.prog 38 #[.slice p ls.length c] w fun e w'=>e=.returned (.bool (cntB ls))∧w=w':=by
 have HE:Hid (cntB ls=decide (1≤ls.length∧ls.length≤200)):=hid rfl;generalize cntB ls=b at*;generalize ls.length=n at*
 by_cases h1:1≤n
 ·have h1':((n:Int)≥1):=by omega
  by_cases h2:n≤200
  ·have HR:Hid (b=true):=hid (by rw [HE.out,decide_eq_true ⟨h1,h2⟩])
   have h2':((n:Int)≤200):=by omega
   clear HE;go_enter Tryz.func38,Tryz.ntmps38;go_wp2_with fail;go_ret;exact ⟨ret_bool HR.out.symm,rfl⟩
  ·have HR:Hid (b=false):=hid (by rw [HE.out,decide_eq_false (fun h=>h2 h.2)])
   have h2':¬((n:Int)≤200):=by omega
   clear HE;go_enter Tryz.func38,Tryz.ntmps38;go_wp2_with fail;go_ret;exact ⟨ret_bool HR.out.symm,rfl⟩
 ·have HR:Hid (b=false):=hid (by rw [HE.out,decide_eq_false (fun h=>h1 h.1)])
  have h1':¬((n:Int)≥1):=by omega
  clear HE;go_enter Tryz.func38,Tryz.ntmps38;go_wp2_with fail;go_ret;exact ⟨ret_bool HR.out.symm,rfl⟩
noncomputable def fblE (L:Nat) (H:List (List Nd)) (ls:List Ln):Int:=if hcE L H≠0 then hcE L H else if cntB ls=false then 3 else 0
noncomputable def fblR (L:Nat) (H:List (List Nd)) (ls:List Ln):Int:=if fblE L H ls=0 then bdL L H ls else 0
theorem implFirstBadLine_any (L:Nat) (hL:L≤12) (hv lv:Value) (H:List (List Nd)) (ls:List Ln) (hM:MidLn ls) (hll:ls.length≤1000) (hHl:H.length≤6) (w:World) (hHs:NdsL w hv H) (hLs:LnL w lv ls) (hN:LaidS 0 texts19 w):
  Calls Tryz.prog 9 #[.string (syS L),hv,lv] w fun e w'=>e=.returned (.tuple #[.int .i64 (fblR L H ls),.int .i64 (fblE L H ls)])∧Keeps w w':=by
 have HHC:=hid (hypothesesCode_any L hL H hv w hHs)
 have h9:hcE L H=0→L≤9:=fun h=>by
  unfold hcE at h
  split at h
  ·assumption
  ·omega
 have HFB:=hid (fun (h0:hcE L H=0) r wz (kz:Keeps w wz) (hb:BoxG wz r 60 [.string (syS L),hv,lv,.slice none 0 0]) (hr:w.heap.size≤r)=>firstBad_any r L (h9 h0) hv lv H ls hM hll hHl w wz kz hb hr hHs hLs hN);obtain ⟨p,n,c,rfl⟩:=hHs.shapeL;obtain ⟨q,d,rfl,_⟩:=hLs.shape;have HLC:=hid (fun wz=>isLineCount_any ls q d wz);have HR:Hid (fblR L H ls=if fblE L H ls=0 then bdL L H ls else 0):=hid rfl;have HE:Hid (fblE L H ls=if hcE L H≠0 then hcE L H else if cntB ls=false then 3 else 0):=hid rfl;generalize hcE L H=hc at*;generalize cntB ls=cb at*;clear hHs hLs hN h9;go_enter Tryz.func9,Tryz.ntmps9;go_wp2_with fail;refine HHC.out.mono ?_;rintro e w2 ⟨rfl,k2⟩
 by_cases h0:hc=0
 ·subst h0
  cases cb
  ·go_wp2_with fail
   refine (HLC.out _).mono ?_;rintro e w3 ⟨rfl,rfl⟩;go_wp2_with fail
   go_ret2
   refine ⟨?_,k2⟩;rw [HR.out,HE.out];rfl
  ·have HE2:Hid (fblE L H ls=0):=hid HE.out
   have HR2:Hid (fblR L H ls=bdL L H ls):=hid (by rw [HR.out,if_pos HE2.out]);go_wp2_with fail;refine (HLC.out _).mono ?_;rintro e w3 ⟨rfl,rfl⟩;have kA:=k2.alloc (.cells #[.string (syS L),.slice p n c,.slice q ls.length d,.slice none 0 0] 60);have hbx:=BoxG.made w2 60 [.string (syS L),.slice p n c,.slice q ls.length d,.slice none 0 0] (by simp) (by simp);have HF2:=hid (HFB.out (by first | rfl | trivial) _ _ kA hbx k2.size);clear hbx HFB HR HE HHC HLC;go_wp2_with fail;refine HF2.out.mono ?_;rintro e w4 ⟨rfl,-,k4⟩;go_wp2_with fail
   go_ret2
   refine ⟨?_,k4⟩;rw [HR2.out,HE2.out];rfl
 ·have h0':(hc != 0)=true:=by simpa using h0
  have HE2:Hid (fblE L H ls=hc):=hid (by rw [HE.out,if_pos h0]);have HR2:Hid (fblR L H ls=0):=hid (by rw [HR.out,HE2.out,if_neg h0]);clear HE HR HFB;go_wp2_with fail
  go_ret2
  refine ⟨?_,k2⟩;rw [HR2.out,HE2.out];rfl
theorem provenLines1_any (ls:List Ln) (p:Option Addr) (c:Nat) (w:World):Calls Tryz.prog 102 #[.slice p ls.length c] w fun e w'=>e=.returned (.bool (!cntB ls))∧w=w':=by
 have HC:=hid (isLineCount_any ls p c w);generalize cntB ls=b at*;go_enter Tryz.func102,Tryz.ntmps102;go_wp2_with fail;refine HC.out.mono ?_;rintro e w2 ⟨rfl,rfl⟩;go_wp2_with fail;go_ret;exact ⟨rfl,rfl⟩
theorem enters_provenLines_1:Enters 102:=fun _ _=>by kernel_rfl
theorem containsLn_one (ls:List Ln) (p:Option Addr) (c:Nat) (g cg:Nat) (w:World) (hc:w.cell? ⟨g,0,none⟩=some (.slice p ls.length c)):
  Calls Tryz.prog 101 #[.slice (some ⟨g,0,none⟩) 1 cg,.func (.func 102) #[] #[]] w fun e w'=>e=.returned (.bool (!cntB ls))∧w=w':=by
 have HP:=hid (provenLines1_any ls p c w)
 have HIX:Hid (Calls Tryz.prog 142 #[.slice (some ⟨g,0,none⟩) 1 cg,.func (.func 102) #[] #[]] w fun e w'=>e=.returned (.int .i64 (if cntB ls then -1 else 0))∧w=w'):=hid (by
  have hcf':∀ args w,(callFunc 102 args).run Tryz.prog w=.ok (.enter 102 args) w:=enters_provenLines_1
  generalize cntB ls=b at*;go_enter Tryz.func142,Tryz.ntmps142;go_wp2
  go_loopw [4,8] (fun r i' wr=>∃ k:Nat,k≤1∧(k=1→b=true)∧i'=.int .i64 k∧r=.int .i64 0∧w=wr) (fun _ i _=>1-(intOf i).toNat)
  case atStart=>exact ⟨0,by omega,by omega,rfl,rfl,rfl⟩
  case round=>
   obtain ⟨k,hk,hb,rfl,rfl,rfl⟩:=hrel
   have:k=0∨k=1:=by omega
   rcases this with rfl | rfl
   ·clear hb hk
    cases b
    all_goals
     go_wp2_with ((with_reducible refine HP.out.mono ?_);rintro e w2 ⟨rfl,rfl⟩)
    ·go_ret
     exact ⟨rfl,rfl⟩
    ·go_roundw
     case rel=>exact ⟨1,by omega,by simp,by go_num,rfl,trivial⟩
     case measure=>simp [intOf]
   ·have hb:=hb rfl
    subst hb;go_wp2;go_ret
    exact ⟨rfl,rfl⟩)
 generalize cntB ls=b at*
 obtain ⟨k,hk⟩:∃ k:Int,k=if b then -1 else 0:=⟨_,rfl⟩
 rw [←hk] at HIX;have hkb:Hid (decide (k≥0)=!b):=hid (by rw [hk];cases b<;>rfl);clear hk;go_enter Tryz.func101,Tryz.ntmps101
 go_wp2_with (go_at_call 142;refine HIX.out.mono ?_;rintro e w2 ⟨rfl,rfl⟩)
 go_ret;exact ⟨ret_bool hkb.out,rfl⟩
def PrOk (w0 w':World) (L:Nat) (hv lv:Value) (ls:List Ln) (u:Value):Prop:=∃ gu cu r uv,u=.slice (some ⟨gu,0,none⟩) 1 cu∧w'.cell? ⟨gu,0,none⟩=some (.pointer (some ⟨r,0,none⟩))∧BoxG w' r 60 [.string (syS L),hv,lv,uv]∧OwnLI w' w0.heap.size uv (usP ls)
noncomputable def pvE (L:Nat) (H:List (List Nd)) (ls:List Ln):Int:=if cntB ls=false then 3 else if 0≤bdL L H ls then 5 else 0
theorem infoPD:(Tryz.prog.info? 61).map (fun i=>(i.zero,i.size,i.bytes))=some (some (.pointer none),1,8):=by kernel_rfl
theorem provenLines_one (L:Nat) (hL:L≤9) (hv lv:Value) (H:List (List Nd)) (ls:List Ln) (hM:MidLn ls) (hll:ls.length≤1000) (hHl:H.length≤6) (w:World) (hHs:NdsL w hv H) (hLs:LnL w lv ls) (hN:LaidS 0 texts19 w)
  (g cg:Nat) (hc:w.cell? ⟨g,0,none⟩=some lv) (_hcg:1≤cg∧cg≤maxLen):
  Calls Tryz.prog 55 #[.string (syS L),hv,.slice (some ⟨g,0,none⟩) 1 cg] w fun e w'=>(∃ u,e=.returned (.tuple #[u,.int .i64 (pvE L H ls)])∧(pvE L H ls=0→PrOk w w' L hv lv ls u))∧Keeps w w':=by
 have HFB:=hid (fun r wz (kz:Keeps w wz) (hb:BoxG wz r 60 [.string (syS L),hv,lv,.slice none 0 0]) (hr:w.heap.size≤r)=>firstBad_any r L hL hv lv H ls hM hll hHl w wz kz hb hr hHs hLs hN);obtain ⟨p,n,c,rfl⟩:=hHs.shapeL;obtain ⟨q,d,rfl,_⟩:=hLs.shape;have HCF:=hid (containsLn_one ls q d g cg w hc)
 obtain ⟨E,hE⟩:∃ E,pvE L H ls=E:=⟨_,rfl⟩
 have HE:=hid (show E=if cntB ls=false then 3 else if 0≤bdL L H ls then 5 else 0 from by rw [←hE];rfl);have HE0:=hid hE;have HOR:=hid (show bdL L H ls = -1∨0≤bdL L H ls from bdF_or ls []);unfold maxLen at _hcg;clear hHs hLs hN hE;generalize cntB ls=cb at*;generalize bdL L H ls=bd at*;go_enter Tryz.func55,Tryz.ntmps55;go_wp2_with fail;refine HCF.out.mono ?_;rintro e w2 ⟨rfl,rfl⟩
 cases cb
 ·have HE2:Hid (E=3):=hid HE.out
  clear HE HFB HOR;go_wp2_with fail
  go_ret2
  rw [HE0.out,HE2.out];exact ⟨⟨_,rfl,fun e=>by omega⟩,Keeps.refl _⟩
 ·have HE2:Hid (E=if 0≤bd then 5 else 0):=hid HE.out
  clear HE;go_wp2_with fail
  go_loopw [8,16] (fun u i' wr=>Keeps w wr∧((i'=.int .i64 0∧u=.slice none 0 0)∨(i'=.int .i64 1∧bd = -1∧PrOk w wr L (.slice p n c) (.slice q ls.length d) ls u))) (fun _ i' _=>1-(intOf i').toNat)
  case atStart=>exact ⟨Keeps.refl _,.inl ⟨rfl,rfl⟩⟩
  case round=>
   obtain ⟨kw,⟨rfl,rfl⟩ | ⟨rfl,hbd,hpo⟩⟩:=hrel
   ·have hcw:=kw.cell hc
    have kA:=kw.alloc (.cells #[.string (syS L),.slice p n c,.slice q ls.length d,.slice none 0 0] 60);have hbx:=BoxG.made wr 60 [.string (syS L),.slice p n c,.slice q ls.length d,.slice none 0 0] (by simp) (by simp);have HF2:=hid (HFB.out _ _ kA hbx kw.size);clear hbx;go_wp2_with fail;refine HF2.out.mono ?_;rintro e w3 ⟨rfl,hok,k3⟩;have HOK:=hid hok;clear hok HF2 kA
    by_cases hb:0≤bd
    ·have HE3:Hid (E=5):=hid (by rw [HE2.out,if_pos hb])
     have hb':(bd≥0):=hb;clear HOK;go_wp2_with fail
     go_ret2
     rw [HE0.out,HE3.out];exact ⟨⟨_,rfl,fun e=>by omega⟩,k3⟩
    ·have hb1:bd = -1:=by rcases HOR.out with h | h;exact h;exact absurd h hb
     obtain ⟨uv',hbx,hus⟩:=HOK.out hb1;have hb':¬(bd≥0):=hb;obtain ⟨i0,hi,hz0,hz1,hz2⟩:=info_parts infoPD;have hsz:wr.heap.size<w3.heap.size:=hbx.lt;have HBX:=hid hbx;have HUS:=hid hus;clear hbx hus HOK;have HLI:=hid (hi)
     go_wp2_with (at_builtin;refine wpList_plain rfl fun _ hK=>?_;refine wp_append_at _ _ _ rfl _ i0 _ 1 8 Tryz.underlying55 HLI.out hz0 hz1 hz2 rfl (by decide) w.heap.size _ 0 [] rfl (World.ownsRow_nil _ _ _ _) _ 1 1 [.pointer (some ⟨wr.heap.size,0,none⟩)] rfl rfl (At.lit1 _ _ _) (by simp [Value.oneCell']) (by simp [maxLen]) (by omega) (by have:=k3.size;simp;omega) ?_;intro v5 w5 hv5 hg5 hr5;refine hK _ _ ?_)
     have K35:Keeps w3 w5:=((Keeps.refl w3).alloc _).grown hg5 (fun k e=>absurd e (by first | (simp [Value.ownBlock];done) | (intro e;cases e)))
     have hsh:∃ g5 c5,v5=.slice (some ⟨g5,0,none⟩) 1 c5∧w5.cell? ⟨g5,0,none⟩=some (.pointer (some ⟨wr.heap.size,0,none⟩)):=by
      have hl:=hv5.1
      have hcl:=fun (gg:Nat) (h:v5.ownBlock=some gg)=>World.ownsRow.cells hv5 (g:=gg) h 0 (.pointer (some ⟨wr.heap.size,0,none⟩)) (by simp)
      rcases hv5.2 with ⟨_,h0⟩ | ⟨g5,cap5,cur5,e,_⟩
      ·simp at h0
      ·refine ⟨g5,cap5,e,?_⟩
       have h:=hcl g5 (by rw [e];rfl)
       have hadd:(⟨g5,0,none⟩:Addr).add 0=⟨g5,0,none⟩:=by unfold Addr.add;split<;>simp_all
       rwa [hadd] at h
     obtain ⟨g5,c5,rfl,hp5⟩:=hsh;go_roundw
     case rel=>exact ⟨k3.trans K35,.inr ⟨by go_num,hb1,g5,c5,wr.heap.size,uv',rfl,hp5,HBX.out.keeps K35,HUS.out.keeps K35⟩⟩
     case measure=>simp [intOf]
   ·have HE3:Hid (E=0):=hid (by rw [HE2.out,if_neg (by omega)])
    have HPO:=hid hpo;obtain ⟨gu,cu,r,uv,rfl,_⟩:=hpo;clear HFB HOR;go_wp2_with fail
    go_ret2
    rw [HE0.out,HE3.out];exact ⟨⟨_,rfl,fun _=>HPO.out⟩,kw⟩
theorem prE_eq (L:Nat) (H:List (List Nd)) (ls:List Ln):prE L H ls=if hcE L H≠0 then hcE L H else pvE L H ls:=rfl
theorem hcE_zero {L:Nat} {H:List (List Nd)} (h:hcE L H=0):L≤9∧allFm H=true:=by
 unfold hcE at h
 split at h
 ·rename_i h9
  refine ⟨h9,?_⟩
  cases ha:allFm H
  ·rw [ha] at h;simp at h
  ·rfl
 ·omega
theorem proven_one (L:Nat) (hL:L≤12) (hv lv:Value) (H:List (List Nd)) (ls:List Ln) (hM:MidLn ls) (hll:ls.length≤1000) (hHl:H.length≤6) (w:World) (hHs:NdsL w hv H) (hLs:LnL w lv ls) (hN:LaidS 0 texts19 w)
  (g cg:Nat) (hc:w.cell? ⟨g,0,none⟩=some lv) (hcg:1≤cg∧cg≤maxLen):
  Calls Tryz.prog 33 #[.string (syS L),hv,.slice (some ⟨g,0,none⟩) 1 cg] w fun e w'=>∃ w1,Keeps w w1∧(∃ u,e=.returned (.tuple #[u,.int .i64 (prE L H ls)])∧(prE L H ls=0→PrOk w1 w' L hv lv ls u))∧Keeps w1 w':=by
 have HHC:=hid (hypothesesCode_any L hL H hv w hHs);have HPV:=hid (fun (h:hcE L H=0) wz (kz:Keeps w wz)=>provenLines_one L (hcE_zero h).1 hv lv H ls hM hll hHl wz (hHs.keeps kz) (hLs.keeps kz) (hN.keeps kz) g cg (kz.cell hc) hcg);have HP:=hid (prE_eq L H ls);obtain ⟨p,n,c,rfl⟩:=hHs.shapeL;clear hHs hLs hN hc;generalize hcE L H=hcc at*;go_enter Tryz.func33,Tryz.ntmps33;go_wp2_with fail;refine HHC.out.mono ?_;rintro e w2 ⟨rfl,k2⟩
 by_cases h0:hcc=0
 ·subst h0
  have HP2:Hid (prE L H ls=pvE L H ls):=hid HP.out;have HPV2:=hid (HPV.out (by first | rfl | trivial) w2 k2);clear HP HPV;go_wp2_with fail;refine HPV2.out.mono ?_;rintro e w3 ⟨⟨u,rfl,hu⟩,k3⟩;have HU:=hid hu;clear hu;go_wp2_with fail
  go_ret2
  rw [HP2.out];exact ⟨w2,k2,⟨u,rfl,HU.out⟩,k3⟩
 ·have h0':(hcc != 0)=true:=by simpa using h0
  have HP2:Hid (prE L H ls=hcc):=hid (by rw [HP.out,if_pos h0]);clear HP HPV;go_wp2_with fail
  go_ret2
  rw [HP2.out];exact ⟨w2,k2,⟨_,rfl,fun e=>absurd e h0⟩,Keeps.refl _⟩
noncomputable def uhR (L:Nat) (H:List (List Nd)) (ls:List Ln):List Nat:=if prE L H ls=0 then getI [] (usP ls) ((ls.length:Int)-1) else []
theorem implUsedHypotheses_any (L:Nat) (hL:L≤12) (hv lv:Value) (H:List (List Nd)) (ls:List Ln) (hM:MidLn ls) (hll:ls.length≤1000) (hHl:H.length≤6) (w:World) (hHs:NdsL w hv H) (hLs:LnL w lv ls) (hN:LaidS 0 texts19 w):
  Calls Tryz.prog 7 #[.string (syS L),hv,lv] w fun e w'=>(∃ u,e=.returned (.tuple #[u,.int .i64 (prE L H ls)])∧OwnI w' w.heap.size u (zs (uhR L H ls)))∧Keeps w w':=by
 obtain ⟨p,n,c,rfl⟩:=hHs.shapeL;obtain ⟨q,d,rfl,hle,hmx,_⟩:=hLs.shape;have kA:=(Keeps.refl w).alloc (.cells #[.slice q ls.length d] 25)
 have c0:(w.alloc (.cells #[.slice q ls.length d] 25)).cell? ⟨w.heap.size,0,none⟩=some (.slice q ls.length d):=by simp
 have HPR:=hid (proven_one L hL _ _ H ls hM hll hHl _ (hHs.keeps kA) (hLs.keeps kA) (hN.keeps kA) w.heap.size 1 c0 ⟨by omega,by simp [maxLen]⟩);have HKA:=hid kA
 obtain ⟨E,hE⟩:∃ E,prE L H ls=E:=⟨_,rfl⟩
 have HR:=hid (show uhR L H ls=if E=0 then getI [] (usP ls) ((ls.length:Int)-1) else [] from by rw [←hE];rfl)
 have HLP:=hid (show E=0→0<ls.length from fun h=>by
  rw [←hE,prE_eq] at h
  split at h
  ·omega
  ·unfold pvE at h
   split at h
   ·omega
   ·rename_i hcb
    cases hl:ls with
    | nil=>rw [hl] at hcb;simp [cntB] at hcb
    | cons a b=>simp)
 rw [hE] at HPR;have HE0:=hid hE;clear hHs hLs hN kA hE c0;go_enter Tryz.func7,Tryz.ntmps7;go_wp2_with fail;refine HPR.out.mono ?_;rintro e w2 ⟨w1,k1,⟨u,rfl,hu⟩,k2⟩
 by_cases h0:E=0
 ·subst h0
  obtain ⟨gu,cu,r,uv,rfl,hcu,hbx,hus⟩:=hu (by first | rfl | trivial);have hlp:=HLP.out (by first | rfl | trivial);have HR2:Hid (uhR L H ls=getI [] (usP ls) ((ls.length:Int)-1)):=hid HR.out;have c3:=hbx.cell 3 (by simp);simp only [List.getElem_cons_succ,List.getElem_cons_zero] at c3;obtain ⟨pu,cuu,rfl,_,_⟩:=hus.shape;have hul:=usP_len ls
  obtain ⟨m,hm⟩:∃ m,ls.length=m+1:=⟨ls.length-1,by omega⟩
  obtain ⟨bu,ou,uu,epu,gcu,hou⟩:=hus.get m (by omega);subst epu
  have hgu:getI [] (usP ls) ((ls.length:Int)-1)=(usP ls)[m]'(by omega):=by
   unfold getI;rw [show ((ls.length:Int)-1).toNat=m by omega,List.getD_eq_getElem?_getD,List.getElem?_eq_getElem (by omega)];rfl
  have HO:=hid (show OwnI w2 w.heap.size uu (zs (uhR L H ls)) from by rw [HR2.out,hgu];exact hou.mono (Nat.le_trans HKA.out.size k1.size));rw [hul] at c3;rw [hm] at c3 ⊢
  have hix:((m+1:Nat):Int)-1=(m:Int):=by omega
  clear HR HR2 HLP hgu hou hus hbx hu hlp hul;go_wp2_with fail
  go_ret2
  rw [HE0.out];exact ⟨⟨_,rfl,HO.out⟩,(HKA.out.trans k1).trans k2⟩
 ·have h0':(E != 0)=true:=by simpa using h0
  have HR2:Hid (uhR L H ls=[]):=hid (by rw [HR.out,if_neg h0]);clear HR HLP hu;go_wp2_with fail
  go_ret2
  rw [HE0.out,HR2.out];exact ⟨⟨_,rfl,OwnI.nil _ _⟩,(HKA.out.trans k1).trans k2⟩
theorem pr_zero {L:Nat} {H:List (List Nd)} {ls:List Ln} (h:prE L H ls=0):hcE L H=0∧cntB ls=true∧bdL L H ls = -1:=by
 rw [prE_eq] at h
 split at h
 ·omega
 ·rename_i h0
  unfold pvE at h
  split at h
  ·omega
  ·rename_i hc
   split at h
   ·omega
   ·rename_i hb
    refine ⟨by omega,by simpa using hc,?_⟩
    rcases (bdF_or ls []:bdF L H [] ls = -1∨_) with h | h
    ·exact h
    ·exact absurd h hb
def lastL (ls:List Ln):Ln:=getI emL ls ((ls.length:Int)-1)
theorem lastL_at {ls:List Ln} {m:Nat} (h:ls.length=m+1):lastL ls=ls[m]:=by
 unfold lastL getI;rw [show ((ls.length:Int)-1).toNat=m by omega,List.getD_eq_getElem?_getD,List.getElem?_eq_getElem (by omega)];rfl
theorem last_fm {L:Nat} {H:List (List Nd)} {ls:List Ln} (h:prE L H ls=0):∃ m,ls.length=m+1∧∃ t:Fm,t.wf∧(lastL ls).a=t.enc∧t.enc.length≤40:=by
 obtain ⟨h1,h2,h3⟩:=pr_zero h
 have hl:1≤ls.length:=by
  unfold cntB at h2;exact (of_decide_eq_true h2).1
 obtain ⟨m,hm⟩:∃ m,ls.length=m+1:=⟨ls.length-1,by omega⟩
 refine ⟨m,hm,?_⟩;have hk:=bdF_all h3 m (by omega);rw [lastL_at hm];unfold okL at hk;rw [Bool.and_eq_true] at hk;have hf:=hk.1;unfold isFm at hf;rw [Bool.and_eq_true,decide_eq_true_eq] at hf;obtain ⟨t,hw,ht⟩:=isTree_enc hf.2;exact ⟨t,hw,ht,by rw [←ht];exact hf.1⟩
noncomputable def hcnR (L:Nat) (H:List (List Nd)) (ls:List Ln):List Nd:=if prE L H ls=0 then (lastL ls).a else []
theorem conclusion_any (r L:Nat) (hv lv uv:Value) (ls:List Ln) (m:Nat) (hm:ls.length=m+1) (w:World) (hb:BoxG w r 60 [.string (syS L),hv,lv,uv]) (hL:LnL w lv ls):
  Calls Tryz.prog 42 #[.pointer (some ⟨r,0,none⟩)] w fun e w'=>(∃ u,e=.returned u∧Nds w' u (lastL ls).a)∧Keeps w w':=by
 have c2:=hb.cell 2 (by simp);simp only [List.getElem_cons_succ,List.getElem_cons_zero] at c2;obtain ⟨p,cap,rfl,hle,hmx,hl2⟩:=hL.shape;unfold maxLen at hmx;obtain ⟨b,off,q,n,c,ep,⟨-,-,-,y3⟩,hn⟩:=hL.get m (by omega);subst ep;rw [←lastL_at hm] at hn;rw [hm] at c2
 have hix:((m+1:Nat):Int)-1=(m:Int):=by omega
 have hml:(m:Int)<((m+1:Nat):Int):=by omega
 have HN:=hid hn;clear hb hL hn;go_enter Tryz.func42,Tryz.ntmps42;go_wp2_with fail
 go_quiet (fail)
 go_wp2_with fail;go_ret;exact ⟨⟨_,rfl,HN.out.keeps ((Keeps.refl w).drewN _)⟩,(Keeps.refl w).drewN _⟩
theorem implHilbertConclusion_any (L:Nat) (hL:L≤12) (hv lv:Value) (H:List (List Nd)) (ls:List Ln) (hM:MidLn ls) (hll:ls.length≤1000) (hHl:H.length≤6) (w:World) (hHs:NdsL w hv H) (hLs:LnL w lv ls) (hN:LaidS 0 texts19 w):
  Calls Tryz.prog 12 #[.string (syS L),hv,lv] w fun e w'=>(∃ u,e=.returned (.tuple #[u,.int .i64 (prE L H ls)])∧OwnN w' w.heap.size u (hcnR L H ls))∧Keeps w w':=by
 have HLS:=hid (fun wz (kz:Keeps w wz)=>hLs.keeps kz);obtain ⟨p,n,c,rfl⟩:=hHs.shapeL;obtain ⟨q,d,rfl,hle,hmx,_⟩:=hLs.shape;have kA:=(Keeps.refl w).alloc (.cells #[.slice q ls.length d] 25)
 have c0:(w.alloc (.cells #[.slice q ls.length d] 25)).cell? ⟨w.heap.size,0,none⟩=some (.slice q ls.length d):=by simp
 have HPR:=hid (proven_one L hL _ _ H ls hM hll hHl _ (hHs.keeps kA) (hLs.keeps kA) (hN.keeps kA) w.heap.size 1 c0 ⟨by omega,by simp [maxLen]⟩);have HKA:=hid kA;have HLF:=hid (fun h=>last_fm (L:=L) (H:=H) (ls:=ls) h)
 obtain ⟨E,hE⟩:∃ E,prE L H ls=E:=⟨_,rfl⟩
 rw [hE] at HPR HLF;have HE0:=hid hE;have HCR:=hid (show hcnR L H ls=if E=0 then (lastL ls).a else [] from by rw [←hE];rfl);clear hHs hLs hN kA hE c0;go_enter Tryz.func12,Tryz.ntmps12;go_wp2_with fail;refine HPR.out.mono ?_;rintro e w2 ⟨w1,k1,⟨u,rfl,hu⟩,k2⟩
 by_cases h0:E=0
 ·subst h0
  obtain ⟨gu,cu,r,uv,rfl,hcu,hbx,hus⟩:=hu (by first | rfl | trivial);obtain ⟨m,hm,t,hw,ht,hl40⟩:=HLF.out (by first | rfl | trivial);have K2:=hid ((HKA.out.trans k1).trans k2);have HCN:=hid (conclusion_any r L _ _ uv ls m hm w2 hbx (HLS.out w2 K2.out));rw [ht] at HCN;have HT:=hid (show hcnR L H ls=t.enc from by rw [←ht];simpa using HCR.out);have HCL:=hid (fun v wz (h:Nds wz v t.enc)=>clone_any t.enc v wz h (Fm.enc_pos t) (by omega));clear HLF hus hbx hu ht k1 k2;go_wp2_with fail;refine HCN.out.mono ?_;rintro e w3 ⟨⟨v,rfl,hv⟩,k3⟩;obtain ⟨pv,nv,cv,rfl⟩:=hv.shape;go_wp2_with fail;refine (HCL.out _ w3 hv).mono ?_;rintro e w4 ⟨v4,rfl,hv4,k4⟩;go_wp2_with fail
  go_ret2
  rw [HE0.out,HT.out];exact ⟨⟨_,rfl,hv4.mono (Nat.le_trans K2.out.size k3.size)⟩,(K2.out.trans k3).trans k4⟩
 ·have h0':(E != 0)=true:=by simpa using h0
  clear HLF hu;go_wp2_with fail
  go_ret2
  rw [HE0.out,HCR.out,if_neg h0];exact ⟨⟨_,rfl,OwnN.nil _ _⟩,(HKA.out.trans k1).trans k2⟩
end Go.Proofs.YtbccmdfdclomiaaGreatDoor
