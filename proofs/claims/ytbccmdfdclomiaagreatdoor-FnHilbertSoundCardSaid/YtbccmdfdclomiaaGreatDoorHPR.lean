import Derived.Test.YtbccmdfdclomiaaGreatDoorHNV
/- own -/
namespace Go.Proofs.YtbccmdfdclomiaaGreatDoor
set_option maxHeartbeats 1000000
open Go.RowKit
theorem elT_len {G:List Fm} (h:Fine G):(elT G).length≤40*G.length:=by
 unfold elT;exact Nat.le_trans (List.length_filter_le _ _) (subT_len h)
noncomputable def seE (ss tt:List ByteArray):List Fm:=elF (fmL (ss++tt))
noncomputable def seN (ss tt:List ByteArray):Nat:=2^(seE ss tt).length
noncomputable def lgN (s:ByteArray):Nat:=@dite _ (isLg s=true) (Classical.propDecidable _) (fun h=>Classical.choose (isLg_of h)) (fun _=>0)
theorem lgN_spec {s:ByteArray} (h:isLg s=true):lgN s<8∧s=lgS (lgN s):=by
 unfold lgN;rw [dif_pos h];exact Classical.choose_spec (isLg_of h)
noncomputable def srC (s:ByteArray) (ss tt:List ByteArray):Int:=if isLg s=true then (if isQ ss tt=true then (if (elT (fmL (ss++tt))).length≤8 then 0 else 3) else 1) else 2
structure SrOk (s:ByteArray) (ss tt:List ByteArray):Prop where
 lg:lgN s<8
 eq:s=lgS (lgN s)
 hs:Side ss
 ht:Side tt
 h1:ss.length≤16
 h2:tt.length≤16
 h8:(seE ss tt).length≤8
 hN:seN ss tt≤256
theorem srC_ok {s:ByteArray} {ss tt:List ByteArray} (h:srC s ss tt=0):SrOk s ss tt:=by
 unfold srC at h
 split at h
 ·rename_i hl
  split at h
  ·rename_i hq
   split at h
   ·rename_i h8
    obtain ⟨a,b,c,d⟩:=isQ_iff hq
    have h8':(seE ss tt).length≤8:=by unfold seE;rw [elF_len];exact h8
    exact ⟨(lgN_spec hl).1,(lgN_spec hl).2,c,d,a,b,h8',two8 h8'⟩
   ·cases h
  ·cases h
 ·cases h
theorem liveL_get (L:Nat) (E:List Fm) (N t:Nat) (h:t<N):(liveL L E N).getD t false=liveB L E N t:=by
 unfold liveL;rw [List.getD_eq_getElem?_getD,List.getElem?_map,List.getElem?_range h];rfl
theorem refL_get (E A B:List Fm) (N t:Nat) (h:t<N):(refL E A B N).getD t false=refB E A B t:=by
 unfold refL;rw [List.getD_eq_getElem?_getD,List.getElem?_map,List.getElem?_range h];rfl
theorem liveL_len (L:Nat) (E:List Fm) (N:Nat):(liveL L E N).length=N:=by simp [liveL]
theorem refL_len (E A B:List Fm) (N:Nat):(refL E A B N).length=N:=by simp [refL]
theorem refuting_fst (r L:Nat) (E A B:List Fm) (N:Nat) (ss:List ByteArray) (hN:N≤256) (w:World) (h:NwR w r L E N (refL E A B N) ss):
  Calls Tryz.prog 138 #[.pointer (some ⟨r,0,none⟩)] w fun e w'=>e=.returned (.int .i64 (fstI L E N A B))∧w=w':=by
 obtain ⟨v5,c5,b5⟩:=h.ty.c5;obtain ⟨v4,c4,b4⟩:=h.c4;refine (refuting_any r N hN (liveL L E N) (refL E A B N) (liveL_len L E N) (refL_len E A B N) v4 v5 w h.ty.c3 c4 c5 b4 b5).mono ?_;rintro e w' ⟨rfl,rfl⟩;refine ⟨ret_int ?_,rfl⟩;exact idx_same _ _ N (fun t ht=>by rw [liveL_get L E N t ht,refL_get E A B N t ht])
set_option maxRecDepth 100000 in
theorem isModalTheorem_any (s:ByteArray) (ss tt:List ByteArray) (v u:Value) (w:World) (hv:Strs w v ss) (hu:Strs w u tt) (hk:SrOk s ss tt):
  Calls Tryz.prog 98 #[.string s,.agg #[v,u]] w fun e w'=>e=.returned (.bool (thmB (lgN s) (seE ss tt) (seN ss tt) (fmL ss) (fmL tt)))∧Keeps w w':=by
 have kA:=(Keeps.refl w).alloc (.cells #[v,u] 85);obtain ⟨c0,c1⟩:=BoxQ.made w v u 85;have HNT:=hid (newTypes_any (lgN s) hk.lg ss tt v u _ (hv.keeps kA) (hu.keeps kA) hk.hs hk.ht hk.h1 hk.h2 hk.h8);rw [←hk.eq] at HNT;have HRF:=hid (fun r wz h=>refuting_fst r (lgN s) (seE ss tt) (fmL ss) (fmL tt) (seN ss tt) (elT (fmL (ss++tt))) hk.hN wz h);have HD:Hid (thmB (lgN s) (seE ss tt) (seN ss tt) (fmL ss) (fmL tt)=decide (fstI (lgN s) (seE ss tt) (seN ss tt) (fmL ss) (fmL tt)<0)):=hid rfl;rw [HD.out];obtain ⟨p,c,rfl,_⟩:=hv.shape;obtain ⟨q,c2,rfl,_⟩:=hu.shape;clear hv hu hk;generalize fstI (lgN s) (seE ss tt) (seN ss tt) (fmL ss) (fmL tt)=j at*;go_enter Tryz.func98,Tryz.ntmps98;go_wp2_with fail;refine HNT.out.mono ?_;rintro e w2 ⟨r,rfl,k2,hr⟩;have HR2:=hid (HRF.out r w2 hr);clear hr;go_wp2_with fail;refine HR2.out.mono ?_;rintro e w3 ⟨rfl,rfl⟩;go_wp2_with fail;go_ret;exact ⟨ret_bool rfl,kA.trans k2⟩
theorem indexFuncQ (b:Bool) (f:FuncId) (v u:Value) (g:Nat) (w:World) (hv:∃ p n c,v=.slice p n c) (hu:∃ p n c,u=.slice p n c) (c0:w.cell? ⟨g,0,none⟩=some v) (c1:w.cell? ⟨g,1,none⟩=some u) (hcf:Enters f)
  (hf:∀ w1,Keeps w w1→Calls Tryz.prog f #[.agg #[v,u]] w1 fun e w2=>e=.returned (.bool b)∧Keeps w1 w2):
  Calls Tryz.prog 168 #[.slice (some ⟨g,0,none⟩) 1 1,.func (.func f) #[] #[]] w fun e w'=>e=.returned (.int .i64 (if b then 0 else -1))∧Keeps w w':=by
 have HF:=hid hf;clear hf
 have hcf':∀ args w,(callFunc f args).run Tryz.prog w=.ok (.enter f args) w:=hcf
 clear hcf;obtain ⟨p,n,c,rfl⟩:=hv;obtain ⟨q,m,d,rfl⟩:=hu
 cases b
 ·go_enter Tryz.func168,Tryz.ntmps168
  go_wp2
  go_loopw [4,8] (fun r i' wr=>∃ k:Nat,k≤1∧Keeps w wr∧i'=.int .i64 k∧r=.int .i64 0) (fun _ i _=>1-(intOf i).toNat)
  case atStart=>exact ⟨0,by omega,Keeps.refl w,rfl,rfl⟩
  case round=>
   obtain ⟨k,hk,kw,rfl,rfl⟩:=hrel
   by_cases hlt:k=0
   ·subst hlt
    have e0:=kw.cell c0;have e1:=kw.cell c1;have HF1:=hid (HF.out wr kw)
    go_wp2_with ((with_reducible refine HF1.out.mono ?_);rintro e w2 ⟨rfl,k2⟩)
    go_roundw
    case rel=>exact ⟨1,by omega,kw.trans k2,by go_num,rfl⟩
    case measure=>simp [intOf]
   ·obtain rfl:k=1:=by omega
    go_wp2;go_ret;exact ⟨rfl,kw⟩
 ·go_enter Tryz.func168,Tryz.ntmps168
  go_wp2
  go_loopw [4,8] (fun r i' wr=>Keeps w wr∧i'=.int .i64 0∧r=.int .i64 0) (fun _ i _=>1-(intOf i).toNat)
  case atStart=>exact ⟨Keeps.refl w,rfl,rfl⟩
  case round=>
   obtain ⟨kw,rfl,rfl⟩:=hrel;have e0:=kw.cell c0;have e1:=kw.cell c1;have HF1:=hid (HF.out wr kw)
   go_wp2_with ((with_reducible refine HF1.out.mono ?_);rintro e w2 ⟨rfl,k2⟩)
   go_ret;exact ⟨rfl,kw.trans k2⟩
theorem containsFuncQ (b:Bool) (f:FuncId) (v u:Value) (g:Nat) (w:World) (hv:∃ p n c,v=.slice p n c) (hu:∃ p n c,u=.slice p n c) (c0:w.cell? ⟨g,0,none⟩=some v) (c1:w.cell? ⟨g,1,none⟩=some u) (hcf:Enters f)
  (hf:∀ w1,Keeps w w1→Calls Tryz.prog f #[.agg #[v,u]] w1 fun e w2=>e=.returned (.bool b)∧Keeps w1 w2):
  Calls Tryz.prog 132 #[.slice (some ⟨g,0,none⟩) 1 1,.func (.func f) #[] #[]] w fun e w'=>e=.returned (.bool b)∧Keeps w w':=by
 have H:=hid (indexFuncQ b f v u g w hv hu c0 c1 hcf hf);clear hv hu hf hcf c0 c1
 cases b
 ·go_enter Tryz.func132,Tryz.ntmps132
  go_wp2_with (go_at_call 168;refine H.out.mono ?_;rintro e w2 ⟨rfl,k2⟩)
  go_ret;exact ⟨rfl,k2⟩
 ·go_enter Tryz.func132,Tryz.ntmps132
  go_wp2_with (go_at_call 168;refine H.out.mono ?_;rintro e w2 ⟨rfl,k2⟩)
  go_ret;exact ⟨rfl,k2⟩
theorem searchable1_any (ss tt:List ByteArray) (v u:Value) (w:World) (hv:Strs w v ss) (hu:Strs w u tt) (hs:Mid ss) (ht:Mid tt):
  Calls Tryz.prog 133 #[.agg #[v,u]] w fun e w'=>e=.returned (.bool (!isQ ss tt))∧Keeps w w':=by
 have kA:=(Keeps.refl w).alloc (.cells #[v,u] 85);obtain ⟨c0,c1⟩:=BoxQ.made w v u 85;have HI:=hid (isModalSequent_any ss tt v u _ (hv.keeps kA) (hu.keeps kA) hs ht);obtain ⟨p,c,rfl,_⟩:=hv.shape;obtain ⟨q,c2,rfl,_⟩:=hu.shape;clear hv hu hs ht;generalize isQ ss tt=b at*;go_enter Tryz.func133,Tryz.ntmps133;go_wp2_with fail;refine HI.out.mono ?_;rintro e w2 ⟨rfl,k2⟩;go_wp2_with fail;go_ret;exact ⟨rfl,kA.trans k2⟩
theorem searchable2_any (ss tt:List ByteArray) (v u:Value) (w:World) (hv:Strs w v ss) (hu:Strs w u tt) (hs:Side ss) (ht:Side tt) (h1:ss.length≤16) (h2:tt.length≤16):
  Calls Tryz.prog 135 #[.agg #[v,u]] w fun e w'=>e=.returned (.bool (!decide ((elT (fmL (ss++tt))).length≤8)))∧Keeps w w':=by
 have kA:=(Keeps.refl w).alloc (.cells #[v,u] 85);obtain ⟨c0,c1⟩:=BoxQ.made w v u 85;have HE:=hid (elementaryParts_any ss tt v u _ (hv.keeps kA) (hu.keeps kA) hs ht h1 h2)
 have hl:(elT (fmL (ss++tt))).length≤2147483648:=by
  have:=elT_len (by rw [fmL_append];exact (fmL_fine hs).append (fmL_fine ht):Fine (fmL (ss++tt)));rw [fmL_len,List.length_append] at this;omega
 have HFN:Hid (∀ x∈(elF (fmL (ss++tt))).map Fm.enc,x.length≤2147483648):=hid (fun x hx=>by
  obtain ⟨y,hy,rfl⟩:=List.mem_map.1 hx;have:=(elF_fine (by rw [fmL_append];exact (fmL_fine hs).append (fmL_fine ht):Fine (fmL (ss++tt))) y hy).2
  omega)
 obtain ⟨p,c,rfl,_⟩:=hv.shape;obtain ⟨q,c2,rfl,_⟩:=hu.shape;clear hv hu hs ht;generalize elT (fmL (ss++tt))=sE at*;generalize elF (fmL (ss++tt))=E at*;go_enter Tryz.func135,Tryz.ntmps135;go_wp2_with fail;refine HE.out.mono ?_;rintro e w2 ⟨pv,rfl,hpv,k2⟩;obtain ⟨pp,pcap,rfl,hple,hpmx,-⟩:=(hpv.elL hl HFN.out);clear hpv;go_wp2_with fail;go_ret;exact ⟨ret_bool (by rw [←decide_not];congr 1;simp;omega),kA.trans k2⟩
theorem enters_searchable1:Enters 133:=fun _ _=>by kernel_rfl
theorem enters_searchable2:Enters 135:=fun _ _=>by kernel_rfl
theorem searchableCode_any (s:ByteArray) (ss tt:List ByteArray) (v u:Value) (g:Nat) (w:World) (hv:Strs w v ss) (hu:Strs w u tt) (hs:Mid ss) (ht:Mid tt) (c0:w.cell? ⟨g,0,none⟩=some v) (c1:w.cell? ⟨g,1,none⟩=some u):
  Calls Tryz.prog 97 #[.string s,.slice (some ⟨g,0,none⟩) 1 1] w fun e w'=>e=.returned (.int .i64 (srC s ss tt))∧Keeps w w':=by
 have HI:=hid (isSearchLogic_any s w);obtain ⟨p,c,rfl,_⟩:=hv.shape;obtain ⟨q,c2,rfl,_⟩:=hu.shape;have HC1:=hid (fun wz (kz:Keeps w wz)=>containsFuncQ (!isQ ss tt) _ _ _ g wz ⟨_,_,_,rfl⟩ ⟨_,_,_,rfl⟩ (kz.cell c0) (kz.cell c1) enters_searchable1 (fun w1 k1=>searchable1_any ss tt _ _ w1 (hv.keeps (kz.trans k1)) (hu.keeps (kz.trans k1)) hs ht));have HC2:=hid (fun (hq:isQ ss tt=true) wz (kz:Keeps w wz)=>containsFuncQ (!decide ((elT (fmL (ss++tt))).length≤8)) _ _ _ g wz ⟨_,_,_,rfl⟩ ⟨_,_,_,rfl⟩ (kz.cell c0) (kz.cell c1) enters_searchable2 (fun w1 k1=>searchable2_any ss tt _ _ w1 (hv.keeps (kz.trans k1)) (hu.keeps (kz.trans k1)) (isQ_iff hq).2.2.1 (isQ_iff hq).2.2.2 (isQ_iff hq).1 (isQ_iff hq).2.1));have HR:Hid (srC s ss tt=if isLg s=true then (if isQ ss tt=true then (if (elT (fmL (ss++tt))).length≤8 then 0 else 3) else 1) else 2):=hid rfl;clear hv hu hs ht c0 c1;generalize srC s ss tt=r at*;generalize isLg s=bl at*;generalize isQ ss tt=bq at*;generalize (elT (fmL (ss++tt))).length=n at*
 cases bl
 ·rw [if_neg (by simp)] at HR
  rw [HR.out];clear HC1 HC2 HR;go_enter Tryz.func97,Tryz.ntmps97;go_wp2_with fail;refine HI.out.mono ?_;rintro e w2 ⟨rfl,k2⟩;go_wp2_with fail;go_ret;exact ⟨rfl,k2⟩
 ·rw [if_pos rfl] at HR
  cases bq
  ·rw [if_neg (by simp)] at HR
   rw [HR.out];clear HC2 HR;go_enter Tryz.func97,Tryz.ntmps97;go_wp2_with fail;refine HI.out.mono ?_;rintro e w2 ⟨rfl,k2⟩;go_wp2_with fail;refine (HC1.out _ k2).mono ?_;rintro e w3 ⟨rfl,k3⟩;go_wp2_with fail;go_ret;exact ⟨rfl,k2.trans k3⟩
  ·rw [if_pos rfl] at HR
   by_cases h8:n≤8
   ·rw [if_pos h8] at HR
    rw [decide_eq_true h8] at HC2;rw [HR.out];clear HR;go_enter Tryz.func97,Tryz.ntmps97;go_wp2_with fail;refine HI.out.mono ?_;rintro e w2 ⟨rfl,k2⟩;go_wp2_with fail;refine (HC1.out _ k2).mono ?_;rintro e w3 ⟨rfl,k3⟩;go_wp2_with fail;refine (HC2.out (by trivial) _ (k2.trans k3)).mono ?_;rintro e w4 ⟨rfl,k4⟩;go_wp2_with fail;go_ret;exact ⟨rfl,(k2.trans k3).trans k4⟩
   ·rw [if_neg h8] at HR
    rw [decide_eq_false h8] at HC2;rw [HR.out];clear HR;go_enter Tryz.func97,Tryz.ntmps97;go_wp2_with fail;refine HI.out.mono ?_;rintro e w2 ⟨rfl,k2⟩;go_wp2_with fail;refine (HC1.out _ k2).mono ?_;rintro e w3 ⟨rfl,k3⟩;go_wp2_with fail;refine (HC2.out (by trivial) _ (k2.trans k3)).mono ?_;rintro e w4 ⟨rfl,k4⟩;go_wp2_with fail;go_ret;exact ⟨rfl,(k2.trans k3).trans k4⟩
theorem asc_lt {T:List ByteArray} (h:Asc (T.map bts)) {i j:Nat} (hj:j<T.length) (hij:i<j):bts (T[i]'(by omega))<bts T[j]:=by
 unfold Asc at h;rw [List.pairwise_iff_getElem] at h;have:=h i j (by simp;omega) (by simp;omega) hij
 simpa using this
theorem sideB_of {ss:List ByteArray} (h:Side ss):sideB ss=true:=by
 refine side_true fun i hi=>?_
 have hg:∀ i (hi:i<ss.length),ss.getD i ⟨#[]⟩=ss[i]:=fun i hi=>by rw [List.getD_eq_getElem?_getD,List.getElem?_eq_getElem hi];rfl
 unfold okAt;rw [Bool.and_eq_true,hg i hi];refine ⟨isTx_iff.2 (h.1 _ (List.getElem_mem hi)),?_⟩
 by_cases h0:i=0
 ·subst h0;rfl
 ·rw [Bool.or_eq_true,decide_eq_true_eq,hg (i-1) (by omega)]
  exact .inr (asc_lt h.2 hi (by omega))
theorem isQ_of {ss tt:List ByteArray} (h1:ss.length≤16) (h2:tt.length≤16) (hs:Side ss) (ht:Side tt):isQ ss tt=true:=by
 unfold isQ;rw [sideB_of hs,sideB_of ht,decide_eq_true h1,decide_eq_true h2];rfl
theorem elT_asc (G:List Fm):Asc ((elT G).map bts):=by
 have h:=subT_asc G;unfold elT;unfold Asc at h ⊢;rw [List.pairwise_map] at h ⊢;exact List.Pairwise.filter _ h
theorem elF_nodup {G:List Fm} (hG:Fine G) {i j:Nat} (hi:i<(elF G).length) (hj:j<(elF G).length) (h:(elF G)[i]=(elF G)[j]):i=j:=by
 have hl:=elF_len G;have e1:=elF_get hi;have e2:=elF_get hj;have b1:=(elT_tx hG (List.getElem_mem (show i<(elT G).length by omega))).2.1;have b2:=(elT_tx hG (List.getElem_mem (show j<(elT G).length by omega))).2.1;rw [←e1] at b1;rw [←e2] at b2
 have e:bts ((elT G)[i]'(by omega))=bts ((elT G)[j]'(by omega)):=by rw [b1,b2,h]
 rcases Nat.lt_trichotomy i j with h1 | h1 | h1
 ·have:=asc_lt (elT_asc G) (show j<(elT G).length by omega) h1
  rw [e] at this;exact absurd this (txt_irrefl _)
 ·exact h1
 ·have:=asc_lt (elT_asc G) (show i<(elT G).length by omega) h1
  rw [e] at this;exact absurd this (txt_irrefl _)
theorem valB_el {G:List Fm} (hG:Fine G) (k:Nat) {i:Nat} (hi:i<(elF G).length):valB (elF G) k (elF G)[i]=k.testBit i:=by
 have hel:=elF_isEl hG (List.getElem_mem hi)
 have hx:(elF G).idxOf (elF G)[i]=i:=by
  obtain ⟨hj,he⟩:=idx_at (elF G) (elF G)[i] (List.getElem_mem hi);exact elF_nodup hG hj hi he
 have:valB (elF G) k (elF G)[i]=k.testBit ((elF G).idxOf (elF G)[i]):=by
  generalize (elF G)[i]=t at*
  cases t<;>first | rfl | (simp [isEl] at hel)
 rw [this,hx]
end Go.Proofs.YtbccmdfdclomiaaGreatDoor
