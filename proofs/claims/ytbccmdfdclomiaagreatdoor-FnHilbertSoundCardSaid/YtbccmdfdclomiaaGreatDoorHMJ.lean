import Derived.Test.YtbccmdfdclomiaaGreatDoorHPO
/- own -/
namespace Go.Proofs.YtbccmdfdclomiaaGreatDoor
set_option maxRecDepth 100000
set_option maxHeartbeats 4000000
open Go.RowKit
theorem mkS_bts (s:ByteArray):mkS (bts s)=s:=bts_inj (bts_mkS _)
theorem less_bts (x s:ByteArray):Op.bytesLess x.toList s.toList=decide (bts x<bts s):=by
 rw [bytesLess_eq,bts_toList,bts_toList]
theorem okAt_eq {ss:List ByteArray} {i:Nat} (h:i<ss.length):okAt ss i=(isTx ss[i]&&(decide (i=0)||Op.bytesLess (ss[i-1]'(by omega)).toList ss[i].toList)):=by
 have hg:∀ i (hi:i<ss.length),ss.getD i ⟨#[]⟩=ss[i]:=fun i hi=>by rw [List.getD_eq_getElem?_getD,List.getElem?_eq_getElem hi];rfl
 unfold okAt;rw [hg i h,hg (i-1) (by omega),less_bts];rfl
theorem side_false {ss:List ByteArray} {i:Nat} (h:i<ss.length) (hf:okAt ss i=false):sideB ss=false:=by
 unfold sideB;rw [Bool.eq_false_iff];intro h2;have:=List.all_eq_true.1 h2 i (List.mem_range.2 h);rw [hf] at this;cases this
theorem side_true {ss:List ByteArray} (h:∀ i,i<ss.length→okAt ss i=true):sideB ss=true:=by
 unfold sideB;rw [List.all_eq_true];intro i hi;exact h i (List.mem_range.1 hi)
def Mid (ss:List ByteArray):Prop:=∀ s∈ss,s.size≤10000000
theorem isSide_any (ss:List ByteArray) (v:Value) (w:World) (hv:Strs w v ss) (hs:Mid ss):
  Calls Tryz.prog 169 #[v] w fun e w'=>e=.returned (.bool (sideB ss))∧Keeps w w':=by
 obtain ⟨p,cap,rfl,hle,hmx,hlen⟩:=hv.shape;unfold maxLen at hmx;have HV:=hid hv;clear hv;have HTX:=hid (fun i (h:i<ss.length) wz=>isTextA ss[i] wz (hs _ (List.getElem_mem h)));have HOK:=hid (fun i (h:i<ss.length)=>okAt_eq h);have HF:=hid (fun i (h:i<ss.length)=>side_false h);have HT:=hid (side_true (ss:=ss));clear hs;generalize sideB ss=sb at*;go_enter Tryz.func169,Tryz.ntmps169;go_wp2
 go_loopw [2,7] (fun r i' wr=>∃ i:Nat,i≤ss.length∧i'=.int .i64 i∧r=.bool false∧(∀ j,j<i→okAt ss j=true)∧Keeps w wr) (fun _ i' _=>ss.length-(intOf i').toNat)
 case atStart=>exact ⟨0,by omega,rfl,rfl,fun j h=>by omega,Keeps.refl _⟩
 case round=>
  obtain ⟨i,hi,rfl,rfl,hall,kw⟩:=hrel;have HA:=hid hall;clear hall
  by_cases hlt:i<ss.length
  ·have hlt':(i:Int)<ss.length:=by omega
   obtain ⟨b1,o1,rfl,h1⟩:=(HV.out.keeps kw).get i hlt;have HXi:=hid (HTX.out i hlt wr);have hok:=HOK.out i hlt
   cases ht:isTx ss[i]
   ·rw [ht] at HXi hok
    have hsb:=HF.out i hlt (by rw [hok];rfl);have HSB:=hid hsb;clear hsb hok ht;generalize ss[i]=x at*;go_wp2_with fail;refine HXi.out.mono ?_;rintro e w2 ⟨rfl,k2⟩;go_wp2_with fail;go_ret;exact ⟨ret_bool (by rw [HSB.out]),kw.trans k2⟩
   ·rw [ht,Bool.true_and] at hok
    rw [ht] at HXi;clear ht
    rcases Nat.eq_zero_or_pos i with rfl | hpos
    ·have HN:Hid (∀ j,j<0+1→okAt ss j=true):=hid (fun j hj=>by
      obtain rfl:j=0:=by omega
      rw [hok];simp)
     clear hok;rw [Nat.add_zero] at h1;generalize ss[0]=x at*;go_wp2_with fail;refine HXi.out.mono ?_;rintro e w2 ⟨rfl,k2⟩;go_wp2_with fail;go_roundw
     case rel=>exact ⟨0+1,by omega,by go_num,rfl,HN.out,kw.trans k2⟩
     case measure=>simp [intOf];omega
    ·have hp':(i:Int)>0:=by omega
     rw [decide_eq_false (by omega),Bool.false_or] at hok
     have hi1:i-1<ss.length:=by omega
     have HC1:=hid (fun wz (kz:Keeps w wz)=>(HV.out.keeps kz).get (i-1) hi1)
     have hsub:(i:Int)-1=((i-1:Nat):Int):=by omega
     cases hb:Op.bytesLess ss[i-1].toList ss[i].toList
     ·rw [hb] at hok
      have hsb:=HF.out i hlt hok;have HSB:=hid hsb;clear hsb hok;generalize ss[i]=x at*;go_wp2_with fail;refine HXi.out.mono ?_;rintro e w2 ⟨rfl,k2⟩;obtain ⟨b2,o2,e2,h2⟩:=HC1.out w2 (kw.trans k2)
      cases e2
      generalize ss[i-1]=y at*;go_wp2_with fail;go_ret;exact ⟨ret_bool (by rw [HSB.out]),kw.trans k2⟩
     ·rw [hb] at hok
      have HN:Hid (∀ j,j<i+1→okAt ss j=true):=hid (fun j hj=>by
       by_cases e:j=i
       ·subst e;exact hok
       ·exact HA.out j (by omega))
      clear hok;generalize ss[i]=x at*;go_wp2_with fail;refine HXi.out.mono ?_;rintro e w2 ⟨rfl,k2⟩;obtain ⟨b2,o2,e2,h2⟩:=HC1.out w2 (kw.trans k2)
      cases e2
      generalize ss[i-1]=y at*;go_wp2_with fail;go_roundw
      case rel=>exact ⟨i+1,by omega,by go_num,rfl,HN.out,kw.trans k2⟩
      case measure=>simp [intOf];omega
  ·obtain rfl:i=ss.length:=by omega
   have hlt':¬((ss.length:Int)<ss.length):=by omega
   have HSB:=hid (HT.out HA.out);go_wp2_with fail;go_ret;exact ⟨ret_bool (by rw [HSB.out]),kw⟩
theorem BoxQ.made (w:World) (v u:Value) (T:TypeId):(w.alloc (.cells #[v,u] T)).cell? ⟨w.heap.size,0,none⟩=some v∧(w.alloc (.cells #[v,u] T)).cell? ⟨w.heap.size,1,none⟩=some u:=by
 constructor<;>simp
theorem isModalSequent_any (ss tt:List ByteArray) (v u:Value) (w:World) (hv:Strs w v ss) (hu:Strs w u tt) (hs:Mid ss) (ht:Mid tt):
  Calls Tryz.prog 134 #[.agg #[v,u]] w fun e w'=>e=.returned (.bool (isQ ss tt))∧Keeps w w':=by
 have kA:=(Keeps.refl w).alloc (.cells #[v,u] 85);obtain ⟨c0,c1⟩:=BoxQ.made w v u 85;have HS:=hid (fun wz (kz:Keeps w wz)=>isSide_any ss v wz (hv.keeps kz) hs);have HT:=hid (fun wz (kz:Keeps w wz)=>isSide_any tt u wz (hu.keeps kz) ht);have HQ:Hid (isQ ss tt=(decide (ss.length≤16)&&decide (tt.length≤16)&&sideB ss&&sideB tt)):=hid rfl;obtain ⟨p,cap,rfl,hle,hmx,_⟩:=hv.shape;obtain ⟨q,cap2,rfl,hle2,hmx2,_⟩:=hu.shape;unfold maxLen at hmx hmx2;clear hs ht;generalize sideB ss=a at*;generalize sideB tt=b at*
 by_cases h1:ss.length≤16
 ·have h1':(ss.length:Int)≤16:=by omega
  by_cases h2:tt.length≤16
  ·have h2':(tt.length:Int)≤16:=by omega
   rw [decide_eq_true h1,decide_eq_true h2] at HQ
   cases a
   ·go_enter Tryz.func134,Tryz.ntmps134
    go_wp2_with fail;refine (HS.out _ kA).mono ?_;rintro e w2 ⟨rfl,k2⟩;go_wp2_with fail;go_ret;exact ⟨ret_bool (by rw [HQ.out];rfl),kA.trans k2⟩
   ·go_enter Tryz.func134,Tryz.ntmps134
    go_wp2_with fail;refine (HS.out _ kA).mono ?_;rintro e w2 ⟨rfl,k2⟩
    replace c0:=k2.cell c0
    replace c1:=k2.cell c1
    go_wp2_with fail;refine (HT.out _ (kA.trans k2)).mono ?_;rintro e w3 ⟨rfl,k3⟩;go_wp2_with fail;go_ret;exact ⟨ret_bool (by rw [HQ.out];cases b<;>rfl),(kA.trans k2).trans k3⟩
  ·have h2':¬((tt.length:Int)≤16):=by omega
   rw [decide_eq_true h1,decide_eq_false h2] at HQ;go_enter Tryz.func134,Tryz.ntmps134;go_wp2_with fail;go_ret;exact ⟨ret_bool (by rw [HQ.out];rfl),kA⟩
 ·have h1':¬((ss.length:Int)≤16):=by omega
  rw [decide_eq_false h1] at HQ;go_enter Tryz.func134,Tryz.ntmps134;go_wp2_with fail;go_ret;exact ⟨ret_bool (by rw [HQ.out];rfl),kA⟩
theorem formulas_any (ss tt:List ByteArray) (v u:Value) (w:World) (hv:Strs w v ss) (hu:Strs w u tt) (hl:ss.length+tt.length≤1000000):
  Calls Tryz.prog 172 #[.agg #[v,u]] w (RetSt w (ss++tt)):=by
 have kA:=(Keeps.refl w).alloc (.cells #[v,u] 85);obtain ⟨c0,c1⟩:=BoxQ.made w v u 85;have hC:=concatS_any [ss,tt] _ _ (StrL.lit2 (hv.keeps kA) (hu.keeps kA)) (by simp [fl];omega);rw [show fl [ss,tt] [ss,tt].length=ss++tt from by simp [fl]] at hC;rw [show (w.alloc (.cells #[v,u] 85)).heap.size=w.heap.size+1 by simp] at hC;have HC:=hid hC;clear hC;have kL:=kA.alloc (.cells #[v,u] 82);obtain ⟨p,c,rfl,_⟩:=hv.shape;obtain ⟨q,c2,rfl,_⟩:=hu.shape;clear hv hu;go_enter Tryz.func172,Tryz.ntmps172;go_wp2_with fail;refine HC.out.mono ?_;rintro e w2 ⟨v2,rfl,hv2,k2⟩;go_wp2_with fail;go_ret;exact ⟨_,rfl,hv2.mono kL.size,kL.trans k2⟩
theorem encs_tot {G:List Fm} (h:Fine G):tot (G.map Fm.enc)≤40*G.length:=by
 induction G with
 | nil=>simp [tot]
 | cons a l ih=>
  have h1:=ih (fun x hx=>h x (List.mem_cons_of_mem _ hx));have h2:=(h a (List.mem_cons_self ..)).2;have:tot ((a::l).map Fm.enc)=a.enc.length+tot (l.map Fm.enc):=rfl;rw [this,List.length_cons];omega
theorem formulasOf_any (ss:List ByteArray) (hs:∀ s∈ss,∃ t,IsTx s t) (v:Value) (w:World) (hv:Strs w v ss):
  Calls Tryz.prog 171 #[v] w (RetL w ((fmL ss).map Fm.enc)):=by
 obtain ⟨p,cap,rfl,hle,hmx,hlen⟩:=hv.shape;unfold maxLen at hmx;have HV:=hid hv;clear hv;have HP:=hid (fun i (h:i<ss.length) wz=>parsedT (txF ss[i]) ss[i] wz (txF_tx (hs _ (List.getElem_mem h))))
 have HTK:Hid (∀ i (h:i<ss.length),((fmL ss).map Fm.enc).take (i+1)=((fmL ss).map Fm.enc).take i++[(txF ss[i]).enc]):=hid (fun i h=>by
  rw [List.take_succ_eq_append_getElem (by simp [fmL,h])]
  simp [fmL])
 have HLN:Hid (∀ i,(((fmL ss).map Fm.enc).take i).length≤ss.length):=hid (fun i=>by rw [List.length_take,List.length_map,fmL_len];exact Nat.min_le_right _ _);have HFN:Hid (((fmL ss).map Fm.enc).take ss.length=(fmL ss).map Fm.enc):=hid (List.take_of_length_le (by simp [fmL]));clear hs;go_enter Tryz.func171,Tryz.ntmps171;go_wp2
 go_loopw [3,8] (fun o i' wr=>∃ k:Nat,k≤ss.length∧i'=.int .i64 k∧OwnL wr w.heap.size o (((fmL ss).map Fm.enc).take k)∧Keeps w wr) (fun _ i _=>ss.length-(intOf i).toNat)
 case atStart=>exact ⟨0,by omega,rfl,OwnL.nil _ _,Keeps.refl w⟩
 case round=>
  obtain ⟨k,hk,rfl,hown,kw⟩:=hrel;have hsz:=kw.size
  by_cases hlt:k<ss.length
  ·have hlt':(k:Int)<ss.length:=by omega
   obtain ⟨b1,o1,rfl,h1⟩:=(HV.out.keeps kw).get k hlt;have HPk:=hid (HP.out k hlt wr);have HT:=hid (HTK.out k hlt);have hll:=HLN.out k;generalize (txF ss[k]).enc=y at*;generalize hL:((fmL ss).map Fm.enc).take k=L at*;have HL:=hid hL;clear hL;generalize ss[k]=x at*;go_wp2_with fail;refine HPk.out.mono ?_;rintro e w2 ⟨v2,rfl,hv2,k2⟩
   obtain ⟨p2,n2,c2,rfl⟩:∃ p n c,v2=.slice p n c:=by obtain ⟨p,c,e,_⟩:=At.of_own hv2;exact ⟨p,_,c,e⟩
   have k3:=k2.alloc (.cells #[.slice p2 n2 c2] 34);have hv3:=hv2.keeps ((Keeps.refl w2).alloc (.cells #[.slice p2 n2 c2] 34));have hat:=At.lit1 w2 (.slice p2 n2 c2) 34
   go_wp2_with (at_builtin;refine appL rfl _ _ rfl w.heap.size _ L rfl wr hown k3 _ _ hv3 hsz _ _ rfl hat (by omega) ?_;intro v4 w4 hv4 hg4 hr4;have k4:=(kw.trans k3).grown hg4 hr4)
   go_roundw
   case rel=>exact ⟨k+1,by omega,by go_num,by rw [HT.out];exact hv4,k4⟩
   case measure=>simp [intOf];omega
  ·obtain rfl:k=ss.length:=by omega
   have hlt':¬((ss.length:Int)<ss.length):=by omega
   rw [HFN.out] at hown;go_wp2;go_ret;exact ⟨_,rfl,hown,kw⟩
def txtsTo (G:List Fm) (k i:Nat):List ByteArray:=((subG (G.take k)++(subs (G.getD k .fls)).take i).map Fm.body).map mkS
theorem txtsTo_zero (G:List Fm):txtsTo G 0 0=[]:=by simp [txtsTo,subG]
theorem txtsTo_next {G:List Fm} {k:Nat} (h:k<G.length):txtsTo G k (G[k].enc.length)=txtsTo G (k+1) 0:=by
 have hg:G.getD k .fls=G[k]:=by rw [List.getD_eq_getElem?_getD,List.getElem?_eq_getElem h];rfl
 unfold txtsTo;rw [hg,←subs_len,List.take_length,List.take_succ_eq_append_getElem h];simp only [subG,List.flatMap_append,List.flatMap_cons,List.flatMap_nil,List.append_nil,List.take_zero]
theorem txtsTo_more {G:List Fm} {k i:Nat} (h:k<G.length) (hi:i<(subs G[k]).length):txtsTo G k (i+1)=txtsTo G k i++[mkS ((subs G[k])[i]).body]:=by
 have hg:G.getD k .fls=G[k]:=by rw [List.getD_eq_getElem?_getD,List.getElem?_eq_getElem h];rfl
 unfold txtsTo;rw [hg,List.take_succ_eq_append_getElem hi];simp only [List.map_append,List.map_cons,List.map_nil,List.append_assoc]
theorem txtsTo_end (G:List Fm):txtsTo G G.length 0=((subG G).map Fm.body).map mkS:=by simp [txtsTo]
theorem subG_len {G:List Fm} (h:Fine G):(subG G).length≤40*G.length:=by
 induction G with
 | nil=>simp [subG]
 | cons a l ih=>
  have h1:=ih (fun x hx=>h x (List.mem_cons_of_mem _ hx));have h2:=(h a (List.mem_cons_self ..)).2
  have:subG (a::l)=subs a++subG l:=by simp [subG]
  rw [this,List.length_append,subs_len,List.length_cons];omega
theorem txtsTo_len {G:List Fm} (h:Fine G) {k i:Nat} (_hk:k≤G.length):(txtsTo G k i).length≤40*G.length+40:=by
 unfold txtsTo;rw [List.length_map,List.length_map,List.length_append];have h1:=subG_len (G:=G.take k) (fun x hx=>h x (List.mem_of_mem_take hx))
 have h2:((subs (G.getD k .fls)).take i).length≤40:=by
  rw [List.length_take];refine Nat.le_trans (Nat.min_le_right _ _) ?_;rw [subs_len]
  rcases Nat.lt_or_ge k G.length with hl | hl
  ·rw [List.getD_eq_getElem?_getD,List.getElem?_eq_getElem hl]
   exact (h _ (List.getElem_mem hl)).2
  ·rw [List.getD_eq_getElem?_getD,List.getElem?_eq_none hl]
   simp [Fm.enc]
 rw [List.length_take] at h1;have:=Nat.min_le_left k G.length;have:min k G.length≤G.length:=Nat.min_le_right _ _;omega
theorem subformulas_any (G:List Fm) (hG:Fine G) (hn:G.length≤1000) (v:Value) (w:World) (hv:NdsL w v (G.map Fm.enc)):
  Calls Tryz.prog 170 #[v] w (RetSt w (subT G)):=by
 obtain ⟨p,cap,hvs,hle,hmx,hlen,_⟩:=id hv;rw [List.length_map] at hvs hle;subst hvs;unfold maxLen at hmx;have HV:=hid hv;clear hv
 have HGET:Hid (∀ k (h:k<G.length),∃ b off u,p=some ⟨b,off,none⟩∧w.cell? ⟨b,off+k,none⟩=some u∧Nds w u G[k].enc):=hid (fun k h=>by
  obtain ⟨b,off,u,h1,h2,h3⟩:=HV.out.get k (by simpa using h)
  exact ⟨b,off,u,h1,h2,by simpa using h3⟩)
 have HPT:Hid (∀ k (h:k<G.length) i (hi:i<(subs G[k]).length) u wz,Nds wz u G[k].enc→Calls Tryz.prog 107 #[u,.int .i64 (i:Int)] wz (RetS wz ((subs G[k])[i]).enc)):=hid (fun k h i hi u wz hu=>by
  obtain ⟨l,r,h1,h2⟩:=subs_at G[k] i hi
  exact part_any _ l _ r u i wz hu h1 (by omega))
 have HTX:Hid (∀ k (h:k<G.length) i (hi:i<(subs G[k]).length) u wz,Nds wz u ((subs G[k])[i]).enc→Calls Tryz.prog 94 #[u] wz fun e w'=>∃ s,e=.returned (.string s)∧bts s=((subs G[k])[i]).body∧Keeps wz w'):=hid (fun k h i hi u wz hu=>by
  have hf:=hG _ (List.getElem_mem h);have hm:=List.getElem_mem hi
  exact text_any _ (subs_wf hf.1 _ hm) (by have:=subs_le _ hm;omega) u wz hu)
 have HSL:Hid (∀ k (h:k<G.length),(subs G[k]).length=G[k].enc.length):=hid (fun k h=>subs_len _);have H40:Hid (∀ k (h:k<G.length),G[k].enc.length≤40):=hid (fun k h=>(hG _ (List.getElem_mem h)).2);have HZ:=hid (txtsTo_zero G);have HNX:=hid (fun k (h:k<G.length)=>txtsTo_next h);have HMR:=hid (fun k (h:k<G.length) i (hi:i<(subs G[k]).length)=>txtsTo_more h hi);have HLN:=hid (fun k i (hk:k≤G.length)=>txtsTo_len hG (k:=k) (i:=i) hk);have HEN:=hid (txtsTo_end G)
 have hbs0:((subG G).map Fm.body).length≤1000000:=by rw [List.length_map];have:=subG_len hG;omega
 have HST:Hid (subT G=(sortB ((subG G).map Fm.body)).map mkS):=hid rfl;clear hG;go_enter Tryz.func170,Tryz.ntmps170;go_wp2
 go_loopw [3,9] (fun o k' wr=>∃ k:Nat,k≤G.length∧k'=.int .i64 k∧OwnS wr w.heap.size o (txtsTo G k 0)∧Keeps w wr) (fun _ k' _=>G.length-(intOf k').toNat)
 case atStart=>exact ⟨0,by omega,rfl,by rw [HZ.out];exact OwnS.nil _ _,Keeps.refl _⟩
 case round=>
  obtain ⟨k,hk,rfl,hown,kw⟩:=hrel
  by_cases hlt:k<G.length
  ·have hlt':(k:Int)<G.length:=by omega
   obtain ⟨b1,o1,u,rfl,h1w,hu⟩:=HGET.out k hlt;have h1:=kw.cell h1w;obtain ⟨q1,n1,c1,rfl⟩:=hu.shape
   have hn1:n1=G[k].enc.length:=by obtain ⟨_,_,e,_⟩:=hu;cases e;rfl
   have h40:=H40.out k hlt;have HU:=hid hu;clear hu h1w;have HN1:=hid hn1;clear hn1
   have hn40:n1≤40:=by rw [HN1.out];exact h40
   have HO:=hid hown;clear hown;go_wp2
   go_loopw [3,15] (fun o i' wr'=>∃ i:Nat,i≤n1∧i'=.int .i64 i∧OwnS wr' w.heap.size o (txtsTo G k i)∧Keeps w wr') (fun _ i' _=>n1-(intOf i').toNat)
   case atStart=>exact ⟨0,by omega,rfl,HO.out,kw⟩
   case round=>
    obtain ⟨i,hi,rfl,howni,kk⟩:=hrel;clear h1
    by_cases hlti:i<n1
    ·have hlti':(i:Int)<n1:=by omega
     have his:i<(subs G[k]).length:=by rw [HSL.out k hlt,←HN1.out];exact hlti
     have HP:=hid (HPT.out k hlt i his _ _ (HU.out.keeps kk));have HX:=hid (fun u' wz hz=>HTX.out k hlt i his u' wz hz);have HM:=hid (HMR.out k hlt i his);have hll:=HLN.out k i hk;have hsz:=kk.size;generalize hT:txtsTo G k i=T at*;have HT:=hid hT;clear hT;generalize (subs G[k])[i]=y at*;go_wp2_with fail;refine HP.out.mono ?_;rintro e w' ⟨v2,rfl,hv2,rfl⟩;have HXv:=hid (HX.out _ _ hv2);go_wp2_with fail;refine HXv.out.mono ?_;rintro e w3 ⟨s,rfl,hs,k3⟩
     have hs':mkS y.body=s:=by rw [←hs];exact mkS_bts s
     have HS':=hid hs';clear hs' hs;have ho3:=howni.keeps k3;have hs3:=k3.size;clear howni
     go_wp2_with (at_builtin;refine appS rfl _ _ rfl w.heap.size _ T rfl (ho3.keeps ((Keeps.refl w3).alloc _)) _ [s] rfl (Strs.lit1 w3 _) (by simp;omega) (by simp;omega) ?_;intro v4 w4 hv4 hg4 hr4;have k4:=((kk.trans k3).alloc (.cells #[.string s] 9)).grown hg4 (fun q hq=>hr4 q hq))
     go_roundw
     case rel=>exact ⟨i+1,by omega,by go_num,by rw [HM.out,HS'.out];exact hv4,k4⟩
     case measure=>simp [intOf];omega
    ·obtain rfl:i=n1:=by omega
     have hlti':¬((i:Int)<i):=by omega
     have hx:=HNX.out k hlt;rw [←HN1.out] at hx;rw [hx] at howni;clear hx;go_wp2_with fail;go_roundw
     case rel=>exact ⟨k+1,by omega,by go_num,howni,kk⟩
     case measure=>simp [intOf];omega
  ·obtain rfl:k=G.length:=by omega
   have hlt':¬((G.length:Int)<G.length):=by omega
   rw [HEN.out] at hown;have HSO:=hid (sortS_any _ _ w wr hown kw (by omega));clear hown;go_wp2_with fail;refine HSO.out.mono ?_;rintro e w2 ⟨rfl,hc2⟩;have HC2:Hid (CompR w ((subG G).map Fm.body) _ w2):=hid hc2;clear hc2;unfold CompR at HC2;go_wp2_with fail;refine HC2.out.mono ?_;rintro e w3 ⟨v3,rfl,hv3,k3⟩;go_wp2_with fail;go_ret;exact ⟨_,rfl,by rw [HST.out];exact hv3,k3⟩
end Go.Proofs.YtbccmdfdclomiaaGreatDoor
