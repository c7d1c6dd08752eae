import Derived.Test.YtbccmdfdclomiaaGreatDoorHAA
/- own -/
namespace Go.Proofs.YtbccmdfdclomiaaGreatDoor
open Go.RowKit
theorem okL_fol {L:Nat} (hL:L≤9) {G:List Fm} {ls:List Ln} (hb:bdL L (G.map Fm.enc) ls = -1):
  ∀ k (h:k<ls.length),∃ t:Fm,ls[k].a=t.enc∧t.wf∧(∀ i∈getI [] (usP (ls.take (k+1))) k,i<G.length)∧Fol L ((getI [] (usP (ls.take (k+1))) k).map fun i=>G.getD i .fls) t:=by
 intro k
 induction k using Nat.strongRecOn with
 | _ k ih=>
  intro h;have hk:=bdF_all hb k h;simp only [List.nil_append] at hk;generalize hx:ls[k]=x at hk
  have hlen:(ls.take k).length=k:=by simp;omega
  have hus:usP (ls.take (k+1))=usP (ls.take k)++[useO (usP (ls.take k)) x]:=by
   rw [←usP_snoc,←hx,List.take_succ_eq_append_getElem h]
  have hul:(usP (ls.take k)).length=k:=by rw [usP_len,hlen]
  have hgk:getI [] (usP (ls.take (k+1))) k=useO (usP (ls.take k)) x:=by
   rw [hus];unfold getI;rw [List.getD_eq_getElem?_getD,List.getElem?_append_right (by rw [hul];simp)];simp [hul]
  rw [hgk]
  -- earlier lines
  have hearl:∀ i:Int,0≤i→i≤(k:Int)-1→∃ t:Fm,(getI emL (ls.take k) i).a=t.enc∧t.wf∧(∀ j∈getI [] (usP (ls.take k)) i,j<G.length)∧Fol L ((getI [] (usP (ls.take k)) i).map fun j=>G.getD j .fls) t:=by
   intro i h0 h1;obtain ⟨n,rfl⟩:=Int.eq_ofNat_of_zero_le h0
   have hn:n<k:=by omega
   obtain ⟨t,e1,e2,e3,e4⟩:=ih n hn (by omega)
   have g1:getI emL (ls.take k) (n:Int)=ls[n]:=by
    unfold getI;rw [List.getD_eq_getElem?_getD,Int.toNat_natCast,List.getElem?_take_of_lt hn,List.getElem?_eq_getElem (by omega)];rfl
   have g2:getI [] (usP (ls.take k)) (n:Int)=getI [] (usP (ls.take (n+1))) (n:Int):=by
    have hsp:ls.take k=ls.take (n+1)++(ls.take k).drop (n+1):=by
     have:=(List.take_append_drop (n+1) (ls.take k)).symm;rwa [List.take_take,Nat.min_eq_left (by omega)] at this
    rw [hsp]
    have:∀ (r l:List Ln) m,m<l.length→getI [] (usP (l++r)) (m:Int)=getI [] (usP l) (m:Int):=by
     intro r
     induction r with
     | nil=>intro l m _;rw [List.append_nil]
     | cons y r ihr=>
      intro l m hm;rw [show l++y::r=(l++[y])++r from by simp,ihr (l++[y]) m (by simp;omega),usP_snoc];unfold getI;rw [List.getD_eq_getElem?_getD,List.getElem?_append_left (by rw [usP_len];simpa using hm),←List.getD_eq_getElem?_getD]
    exact this _ _ n (by simp;omega)
   rw [g1,g2];exact ⟨t,e1,e2,e3,e4⟩
  unfold okL at hk;rw [Bool.and_eq_true] at hk;obtain ⟨hf,hk⟩:=hk
  have hfm:∃ t:Fm,t.wf∧x.a=t.enc:=by
   unfold isFm at hf;rw [Bool.and_eq_true] at hf;exact isTree_enc hf.2
  obtain ⟨t,hw,ht⟩:=hfm;refine ⟨t,ht,hw,?_⟩;unfold useO
  by_cases r1:x.r=1
  ·rw [if_pos r1] at hk
   simp only [Bool.and_eq_true,decide_eq_true_eq] at hk;obtain ⟨_,hc,hi⟩:=hk;rw [if_neg (by omega),if_neg (by omega),if_neg (by omega)];refine ⟨by simp,?_⟩;rw [ht,insL_enc] at hi;obtain ⟨τ,rfl⟩:=insT_sound hi
   have h0:0≤x.f:=by
    have:=List.contains_iff_mem.1 hc;unfold schS at this
    rcases List.mem_append.1 this with h | h
    ·obtain ⟨j,_,e⟩:=List.mem_map.1 h
     rw [←e];exact Int.natCast_nonneg j
    ·unfold moreS at h
     repeat' (split at h)
     all_goals simp at h
     all_goals omega
   obtain ⟨n,hn⟩:=Int.eq_ofNat_of_zero_le h0;rw [hn] at hc ⊢;exact sch_fol hL (List.contains_iff_mem.1 hc) τ
  ·rw [if_neg r1] at hk
   by_cases r2:x.r=2
   ·rw [if_pos r2] at hk
    simp only [Bool.and_eq_true,decide_eq_true_eq,inR_iff,List.length_map] at hk;obtain ⟨_,⟨h0,h1⟩,he⟩:=hk;rw [if_pos r2];refine ⟨fun i hi=>?_,?_⟩
    ·have:=(sortC_mem i _).1 hi
     simp only [List.mem_singleton] at this;omega
    ·refine fol_mem (List.mem_map.2 ⟨x.f.toNat,(sortC_mem _ _).2 (by simp),?_⟩)
     rw [ht] at he;refine enc_inj (he▸?_);unfold getI;rw [List.getD_eq_getElem?_getD,List.getD_eq_getElem?_getD,List.getElem?_map,List.getElem?_eq_getElem (by omega)];rfl
   ·rw [if_neg r2] at hk
    by_cases r3:x.r=3
    ·rw [if_pos r3] at hk
     simp only [Bool.and_eq_true,decide_eq_true_eq,inR_iff,hlen] at hk;obtain ⟨⟨f0,f1⟩,⟨s0,s1⟩,he⟩:=hk;rw [if_neg r2,if_pos r3];obtain ⟨a,a1,_,a3,a4⟩:=hearl x.f f0 f1;obtain ⟨b,b1,_,b3,b4⟩:=hearl x.s s0 s1;rw [a1,b1,ht] at he;have hab:a=.imp b t:=enc_inj he;subst hab;refine ⟨fun i hi=>?_,fol_mp (fol_mono (fun c hc=>?_) a4) (fol_mono (fun c hc=>?_) b4)⟩
     ·rcases List.mem_append.1 ((sortC_mem i _).1 hi) with h | h
      ·exact a3 i h
      ·exact b3 i h
     ·obtain ⟨j,hj,rfl⟩:=List.mem_map.1 hc
      exact List.mem_map.2 ⟨j,(sortC_mem _ _).2 (List.mem_append.2 (.inl hj)),rfl⟩
     ·obtain ⟨j,hj,rfl⟩:=List.mem_map.1 hc
      exact List.mem_map.2 ⟨j,(sortC_mem _ _).2 (List.mem_append.2 (.inr hj)),rfl⟩
    ·rw [if_neg r3] at hk
     by_cases r4:x.r=4
     ·rw [if_pos r4] at hk
      simp only [Bool.and_eq_true,decide_eq_true_eq,inR_iff,hlen] at hk;obtain ⟨⟨h8,h9⟩,⟨f0,f1⟩,_,hn,he⟩:=hk;rw [if_neg r2,if_neg r3,if_pos r4];obtain ⟨a,a1,_,a3,a4⟩:=hearl x.f f0 f1;rw [a1,ht] at he;have hab:t=.box a:=enc_inj he;subst hab;rw [hn] at a4 ⊢;exact ⟨by simp [sortC],fol_box h8 h9 a4⟩
     ·rw [if_neg r4] at hk;cases hk
def impsF (A:List Fm) (b:Fm):Fm:=A.foldr Fm.imp b
theorem fol_imps {L:Nat} {b:Fm}:∀ A:List Fm,Fol L A b→Fol L [] (impsF A b)
 | A,h=>by
  have gen:∀ (A B:List Fm) (b:Fm),Fol L (A++B) b→Fol L B (impsF A b):=by
   intro A
   induction A with
   | nil=>intro B b h;exact h
   | cons a A ih=>
    intro B b h;exact fol_imp (ih (a::B) b (fol_mono (fun c hc=>by simp only [List.cons_append,List.mem_append,List.mem_cons] at hc ⊢;rcases hc with h | h | h<;>simp [h]) h))
  exact gen A [] b (by simpa using h)
def ctB (V:Nat→Bool):Fm→Bool
 | .var v=>V v
 | .fls=>false
 | .and a b=>ctB V a&&ctB V b
 | .or a b=>ctB V a||ctB V b
 | .imp a b=>!ctB V a||ctB V b
 | .box _=>false
 | .dia _=>false
theorem ctB_clT (V:Nat→Bool):∀ t,ctB V t=true↔clT (fun v=>V v=true) t
 | .var _=>Iff.rfl
 | .fls=>by simp [ctB,clT]
 | .and a b=>by rw [ctB,clT,Bool.and_eq_true,ctB_clT V a,ctB_clT V b]
 | .or a b=>by rw [ctB,clT,Bool.or_eq_true,ctB_clT V a,ctB_clT V b]
 | .imp a b=>by
  rw [ctB,clT,←ctB_clT V a,←ctB_clT V b]
  cases ctB V a<;>simp
 | .box _=>by simp [ctB,clT]
 | .dia _=>by simp [ctB,clT]
def rowsN (t:Fm):Nat:=mskB (fun r=>ctB (fun v=>r.testBit v) t) 64
theorem msk_bit (p:Nat→Bool) (i:Nat):∀ n,(mskB p n).testBit i=(decide (i<n)&&p i):=mskB_bit p i
theorem msk_and (p q:Nat→Bool) (n:Nat):mskB p n &&& mskB q n=mskB (fun i=>p i&&q i) n:=by
 refine Nat.eq_of_testBit_eq fun i=>?_
 rw [Nat.testBit_and,msk_bit,msk_bit,msk_bit]
 cases decide (i<n)<;>simp
theorem msk_or (p q:Nat→Bool) (n:Nat):mskB p n ||| mskB q n=mskB (fun i=>p i||q i) n:=by
 refine Nat.eq_of_testBit_eq fun i=>?_
 rw [Nat.testBit_or,msk_bit,msk_bit,msk_bit]
 cases decide (i<n)<;>simp
theorem msk_xor (p:Nat→Bool) (n:Nat):(2^n-1) ^^^ mskB p n=mskB (fun i=>!p i) n:=by
 refine Nat.eq_of_testBit_eq fun i=>?_
 rw [Nat.testBit_xor,msk_bit,msk_bit,Nat.testBit_two_pow_sub_one]
 cases decide (i<n)<;>simp
theorem msk_lt (p:Nat→Bool):∀ n,mskB p n<2^n:=fun n=>by
 refine Nat.lt_pow_two_of_testBit _ fun i hi=>?_
 rw [msk_bit,decide_eq_false (by omega)];rfl
theorem msk_all (p:Nat→Bool) (n:Nat) (h:∀ i,i<n→p i=true):mskB p n=2^n-1:=by
 refine Nat.eq_of_testBit_eq fun i=>?_
 rw [msk_bit,Nat.testBit_two_pow_sub_one]
 by_cases hi:i<n
 ·rw [decide_eq_true hi,h i hi];rfl
 ·rw [decide_eq_false hi];rfl
theorem rowsN_and (a b:Fm):rowsN (.and a b)=rowsN a &&& rowsN b:=(msk_and _ _ 64).symm
theorem rowsN_or (a b:Fm):rowsN (.or a b)=rowsN a ||| rowsN b:=(msk_or _ _ 64).symm
theorem rowsN_imp (a b:Fm):rowsN (.imp a b)=((2^64-1) ^^^ rowsN a) ||| rowsN b:=by
 unfold rowsN;rw [msk_xor,msk_or];rfl
theorem rowsN_lt (a:Fm):rowsN a<18446744073709551616:=msk_lt _ 64
theorem taut_all {t:Fm} (h:Fol 9 [] t):rowsN t=18446744073709551615:=by
 unfold Fol at h;rw [if_neg (by decide),if_pos rfl] at h
 exact msk_all _ 64 fun r _=>(ctB_clT _ t).2 (h _ (by simp))
theorem rowsN_fls:rowsN .fls=0:=by decide
noncomputable def mtB (s:ByteArray) (ss tt:List ByteArray):Bool:=thmB (lgN s) (seE ss tt) (seN ss tt) (fmL ss) (fmL tt)
noncomputable def mtR (s:ByteArray) (ss tt:List ByteArray):Bool:=if srC s ss tt=0 then mtB s ss tt else false
theorem seq1 (w:World) (v u:Value):Keeps w ((w.alloc (.cells #[v,u] 85)).alloc (.cells #[v,u] 85))∧
  ((w.alloc (.cells #[v,u] 85)).alloc (.cells #[v,u] 85)).cell? ⟨w.heap.size,0,none⟩=some v∧((w.alloc (.cells #[v,u] 85)).alloc (.cells #[v,u] 85)).cell? ⟨w.heap.size,1,none⟩=some u∧
  ((w.alloc (.cells #[v,u] 85)).alloc (.cells #[v,u] 85)).cell? ⟨w.heap.size+1,0,none⟩=some v∧((w.alloc (.cells #[v,u] 85)).alloc (.cells #[v,u] 85)).cell? ⟨w.heap.size+1,1,none⟩=some u:=by
 obtain ⟨a0,a1⟩:=BoxQ.made w v u 85;obtain ⟨b0,b1⟩:=BoxQ.made (w.alloc (.cells #[v,u] 85)) v u 85;rw [size1] at b0 b1;have k:=(Keeps.refl (w.alloc (.cells #[v,u] 85))).alloc (.cells #[v,u] 85);exact ⟨((Keeps.refl w).alloc _).alloc _,k.cell a0,k.cell a1,b0,b1⟩
set_option maxRecDepth 100000 in
set_option maxHeartbeats 4000000 in
theorem implIsModalTheorem (s:ByteArray) (ss tt:List ByteArray) (v u:Value) (w:World) (hv:Strs w v ss) (hu:Strs w u tt) (hs:Mid ss) (ht:Mid tt):
  Calls Tryz.prog 50 #[.string s,.agg #[v,u]] w fun e w'=>e=.returned (.tuple #[.bool (mtR s ss tt),.int .i64 (srC s ss tt)])∧Keeps w w':=by
 obtain ⟨kA,c0,c1,d0,d1⟩:=seq1 w v u;have HC:=hid (searchableCode_any s ss tt v u (w.heap.size+1) _ (hv.keeps kA) (hu.keeps kA) hs ht d0 d1);have HR:Hid (mtR s ss tt=if srC s ss tt=0 then mtB s ss tt else false):=hid rfl
 by_cases hz:srC s ss tt=0
 ·rw [if_pos hz] at HR
  rw [hz] at HC;rw [HR.out,hz];have hk:=srC_ok hz;have HM:=hid (fun wz (kz:Keeps w wz)=>isModalTheorem_any s ss tt v u wz (hv.keeps kz) (hu.keeps kz) hk);change Hid (∀ wz,Keeps w wz→Calls Tryz.prog _ _ wz fun e w'=>e=.returned (.bool (mtB s ss tt))∧Keeps wz w') at HM;obtain ⟨p,c,rfl,_⟩:=hv.shape;obtain ⟨q,c2,rfl,_⟩:=hu.shape;clear hv hu hs ht hz hk HR d0 d1;generalize mtB s ss tt=b at*;go_enter Tryz.func50,Tryz.ntmps50;go_wp2_with fail;refine HC.out.mono ?_;rintro e w2 ⟨rfl,k2⟩;have e0:=k2.cell c0;have e1:=k2.cell c1;go_wp2_with fail;refine (HM.out _ (kA.trans k2)).mono ?_;rintro e w3 ⟨rfl,k3⟩;go_wp2_with fail
  go_ret2
  exact ⟨rfl,(kA.trans k2).trans k3⟩
 ·rw [if_neg hz] at HR
  rw [HR.out];obtain ⟨p,c,rfl,_⟩:=hv.shape;obtain ⟨q,c2,rfl,_⟩:=hu.shape;clear hv hu hs ht HR c0 c1 d0 d1;generalize srC s ss tt=code at*;go_enter Tryz.func50,Tryz.ntmps50;go_wp2_with fail;refine HC.out.mono ?_;rintro e w2 ⟨rfl,k2⟩;go_wp2_with fail
  go_ret2
  exact ⟨rfl,kA.trans k2⟩
theorem mt_val {ss tt:List ByteArray} (h:isQ ss tt=true) (s:ByteArray):mtB s ss tt=true↔ValS (lgN s) (fmL ss) (fmL tt):=by
 obtain ⟨_,_,hs,ht⟩:=isQ_iff h
 have hG:Fine (fmL (ss++tt)):=by rw [fmL_append];exact (fmL_fine hs).append (fmL_fine ht)
 have hin:∀ a,a∈fmL ss++fmL tt→a∈subG (fmL (ss++tt)):=fun a ha=>by rw [fmL_append];exact List.mem_flatMap.2 ⟨a,ha,subs_self a⟩
 exact thm_val (elP hG) (lgN s) (fun a ha=>hin a (List.mem_append_left _ ha)) (fun b hb=>hin b (List.mem_append_right _ hb))
theorem syS_lg {L:Nat} (h:L<8):syS L=lgS L:=if_pos h
theorem syS_isLg {L:Nat} (h:L<8):isLg (syS L)=true:=by
 rw [syS_lg h];unfold isLg;refine @decide_eq_true _ (Classical.propDecidable _) ?_
 have h8:L=0∨L=1∨L=2∨L=3∨L=4∨L=5∨L=6∨L=7:=by omega
 rcases h8 with rfl | rfl | rfl | rfl | rfl | rfl | rfl | rfl<;>simp [names8]
theorem lgS_inj {a b:Nat} (ha:a<8) (hb:b<8) (h:lgS a=lgS b):a=b:=by
 have h8:a=0∨a=1∨a=2∨a=3∨a=4∨a=5∨a=6∨a=7:=by omega
 have g8:b=0∨b=1∨b=2∨b=3∨b=4∨b=5∨b=6∨b=7:=by omega
 rcases h8 with rfl | rfl | rfl | rfl | rfl | rfl | rfl | rfl<;>rcases g8 with rfl | rfl | rfl | rfl | rfl | rfl | rfl | rfl<;>first | rfl | (exfalso;revert h;decide)
theorem lgN_sy {L:Nat} (h:L<8):lgN (syS L)=L:=by
 obtain ⟨h1,h2⟩:=lgN_spec (syS_isLg h);rw [syS_lg h] at h1 h2 ⊢;exact (lgS_inj h h1 h2).symm
theorem sideH_one {s:ByteArray} (h:∃ t,IsTx s t):Side [s]:=⟨fun x hx=>by rw [List.mem_singleton] at hx;subst hx;exact h,by simp [Asc]⟩
theorem srC_one {L:Nat} (h:L<8) {s:ByteArray} {t:Fm} (hs:IsTx s t):srC (syS L) [] [s]=0∨srC (syS L) [] [s]=3:=by
 have hq:isQ [] [s]=true:=isQ_of (by simp) (by simp) ⟨fun x hx=>(by cases hx),by simp [Asc]⟩ (sideH_one ⟨t,hs⟩);unfold srC;rw [if_pos (syS_isLg h),if_pos hq]
 split
 ·exact .inl rfl
 ·exact .inr rfl
theorem mt_one {L:Nat} (h:L<8) {s:ByteArray} {t:Fm} (hs:IsTx s t) (hf:Fol L [] t) (h0:srC (syS L) [] [s]=0):mtR (syS L) [] [s]=true:=by
 have hq:isQ [] [s]=true:=isQ_of (by simp) (by simp) ⟨fun x hx=>(by cases hx),by simp [Asc]⟩ (sideH_one ⟨t,hs⟩);unfold mtR;rw [if_pos h0];refine (mt_val hq _).2 ?_;rw [lgN_sy h];have e1:fmL []=[]:=rfl
 have e2:fmL [s]=[t]:=by
  show [txF s]=[t]
  rw [txF_eq hs]
 rw [e1,e2];unfold Fol at hf;rwa [if_neg (by omega),if_neg (by omega)] at hf
theorem impsF_cons (a:Fm) (A:List Fm) (b:Fm):impsF (a::A) b=.imp a (impsF A b):=rfl
end Go.Proofs.YtbccmdfdclomiaaGreatDoor
