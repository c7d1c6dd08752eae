import Derived.Test.YtbccmdfdclomiaaGreatDoorHHL
/- own -/
namespace Go.Proofs.YtbccmdfdclomiaaGreatDoor
open Go.RowKit
def newW (w2:World) (lg pv:Value):World:=(w2.alloc (.cells #[lg,pv,.slice none 0 0,.int .i64 0,.slice none 0 0,.slice none 0 0] 188)).alloc (.cells #[.pointer (some ⟨w2.heap.size,0,none⟩)] 157)
structure NewW (w2 w3:World) (r:Nat) (lg pv:Value):Prop where
 k2:Keeps w2 w3
 box:BoxT w3 r lg pv (.slice none 0 0) (.int .i64 0) (.slice none 0 0) (.slice none 0 0)
 ptr:w3.cell? ⟨r+1,0,none⟩=some (.pointer (some ⟨r,0,none⟩))
 hr:r=w2.heap.size
 hs:w3.heap.size=r+2
theorem newW_made (w2:World) (lg pv:Value):NewW w2 (newW w2 lg pv) w2.heap.size lg pv:=by
 unfold newW;have h1:=BoxT.made w2 lg pv (.slice none 0 0) (.int .i64 0) (.slice none 0 0) (.slice none 0 0);have k2:=((Keeps.refl w2).alloc (.cells #[lg,pv,.slice none 0 0,.int .i64 0,.slice none 0 0,.slice none 0 0] 188)).alloc (.cells #[.pointer (some ⟨w2.heap.size,0,none⟩)] 157);have h3:=box1 (w2.alloc (.cells #[lg,pv,.slice none 0 0,.int .i64 0,.slice none 0 0,.slice none 0 0] 188)) (.pointer (some ⟨w2.heap.size,0,none⟩)) 157;rw [size1] at h3;exact ⟨k2,h1.keeps ((Keeps.refl _).alloc _),h3,rfl,by rw [size1,size1]⟩
theorem NewW.begin {w2 w3:World} {r:Nat} {lg pv:Value} (h:NewW w2 w3 r lg pv) (C N:Nat):Nw1 (w3.setCell ⟨r,3,none⟩ (.int .i64 N)) (w3.setCell ⟨r,3,none⟩ (.int .i64 N)) r C lg pv N (.slice none 0 0) []∧(w3.setCell ⟨r,3,none⟩ (.int .i64 N)).cell? ⟨r+1,0,none⟩=some (.pointer (some ⟨r,0,none⟩))∧Keeps w2 (w3.setCell ⟨r,3,none⟩ (.int .i64 N))∧(w3.setCell ⟨r,3,none⟩ (.int .i64 N)).heap.size=r+2:=by
 have g:=h.box.grown 3 (.int .i64 N);exact ⟨⟨h.box.set3 _,OwnNe.nil _ _,Touch.refl _ _⟩,((Touch.grown g).cellOf (by simp) h.ptr),h.k2.setCell (by rw [h.hr];exact Nat.le_refl _) _,by have:=h.hs;simp [this]⟩
theorem Nw1.base {w3 wr:World} {r C N:Nat} {lg pv v2:Value} {ns:List Nee} (h:Nw1 w3 wr r C lg pv N v2 ns):Nw1 wr wr r C lg pv N v2 ns:=⟨h.box,h.ne,Touch.refl _ _⟩
set_option maxRecDepth 100000 in
set_option maxHeartbeats 8000000 in
theorem newTypes_any (L:Nat) (hL:L<8) (ss tt:List ByteArray) (v u:Value) (w:World) (hv:Strs w v ss) (hu:Strs w u tt) (hs:Side ss) (ht:Side tt) (h16:ss.length≤16) (h16':tt.length≤16) (h8:(elF (fmL (ss++tt))).length≤8):
  Calls Tryz.prog 137 #[.string (lgS L),.agg #[v,u]] w fun e w'=>∃ r,e=.returned (.pointer (some ⟨r,0,none⟩))∧Keeps w w'∧NwR w' r L (elF (fmL (ss++tt))) (2^(elF (fmL (ss++tt))).length) (refL (elF (fmL (ss++tt))) (fmL ss) (fmL tt) (2^(elF (fmL (ss++tt))).length)) (elT (fmL (ss++tt))):=by
 have kA:=(Keeps.refl w).alloc (.cells #[v,u] 85);obtain ⟨c0,c1⟩:=BoxQ.made w v u 85;have HEL:=hid (elementaryParts_any ss tt v u _ (hv.keeps kA) (hu.keeps kA) hs ht h16 h16');have HFL:=hid (fun wz (kz:Keeps w wz)=>formulasOf_any ss hs.1 v wz (hv.keeps kz));have HFR:=hid (fun wz (kz:Keeps w wz)=>formulasOf_any tt ht.1 u wz (hu.keeps kz));have HEL2:=hid (elF_len (fmL (ss++tt)));obtain ⟨p,c,rfl,_⟩:=hv.shape;obtain ⟨q,c2,rfl,_⟩:=hu.shape;clear hv hu
 have hG:Fine (fmL (ss++tt)):=by rw [fmL_append];exact (fmL_fine hs).append (fmL_fine ht)
 have hGl:fmL (ss++tt)=fmL ss++fmL tt:=fmL_append ss tt;have HFN:Hid (∀ x∈elF (fmL (ss++tt)),x.enc.length≤2147483648):=hid (fun x hx=>by have:=(elF_fine hG x hx).2;omega);have HEC:Hid (∀ i,i<(elF (fmL (ss++tt))).length→isEl ((elF (fmL (ss++tt))).getD i .fls)=true):=hid (fun i hi=>elF_isEl hG (getD_mem hi));have HSUB:Hid (∀ i,i<(elF (fmL (ss++tt))).length→isMo ((elF (fmL (ss++tt))).getD i .fls)=true→∀ x∈subs (below ((elF (fmL (ss++tt))).getD i .fls)),isEl x=true→x∈elF (fmL (ss++tt))):=hid (fun i hi hm x hx he=>elF_sub hG (getD_mem hi) hm hx he);have HSL:Hid (∀ t∈fmL ss,∀ x∈subs t,isEl x=true→x∈elF (fmL (ss++tt))):=hid (fun t ht x hx he=>elF_of hG (by rw [hGl];exact List.mem_append.2 (.inl ht)) hx he);have HSR:Hid (∀ t∈fmL tt,∀ x∈subs t,isEl x=true→x∈elF (fmL (ss++tt))):=hid (fun t ht x hx he=>elF_of hG (by rw [hGl];exact List.mem_append.2 (.inr ht)) hx he)
 have HFG:Hid (tot ((fmL ss).map Fm.enc)≤2147483648∧tot ((fmL tt).map Fm.enc)≤2147483648∧(fmL ss).length≤16∧(fmL tt).length≤16):=hid (by
  have h1:=encs_tot (fmL_fine hs);have h2:=encs_tot (fmL_fine ht);rw [fmL_len] at*;rw [fmL_len] at*
  omega)
 clear hG hGl hs ht;generalize elF (fmL (ss++tt))=E at*;generalize elT (fmL (ss++tt))=sE at*
 obtain ⟨N,hN⟩:∃ N,N=2^E.length:=⟨_,rfl⟩
 have HNP:Hid (wrap64 (2^sE.length)=(N:Int)):=hid (by
  rw [←HEL2.out,wrap_pow _ (by omega),hN];simp)
 have hN256:N≤256:=by rw [hN];exact two8 h8
 rw [←hN];have HN:=hid hN;clear hN
 have hs8:sE.length≤8:=by rw [←HEL2.out];exact h8
 have HEN:Hid (∀ i,i<sE.length→i<E.length):=hid (fun i hi=>by rw [HEL2.out];exact hi)
 have HVAL:=hid (fun (i:Nat) (hi:i<E.length) (hm:isMo (E.getD i .fls)=true) (k:Nat) (hk:k<N) (r:Nat) (pv v':Value) (wz:World) (hz:Nds wz v' (below (E.getD i .fls)).enc) (hc:wz.cell? ⟨r,1,none⟩=some pv) (hp:ElL wz pv sE (E.map Fm.enc))=>
  valueIn_any E sE h8 k (by omega) r pv (below (E.getD i .fls)) v' wz (HSUB.out i hi hm) hz hc hp)
 generalize hlg:lgS L=lg at*;have HLG:=hid hlg;clear hlg;go_enter Tryz.func137,Tryz.ntmps137;go_wp2_with fail;refine HEL.out.mono ?_;rintro e w2 ⟨pv,rfl,hpv,k2⟩;obtain ⟨pp,pcap,rfl,hple,hpmx,-⟩:=(hpv.elL (by omega) (fun x hx=>by obtain ⟨y,hy,rfl⟩:=List.mem_map.1 hx;exact HFN.out y hy));unfold maxLen at hpmx;have HPV:=hid hpv;clear hpv;have hNW:=newW_made w2 (.string lg) (.slice pp sE.length pcap);unfold newW at hNW;go_wp2_with fail;generalize (w2.alloc (.cells #[.string lg,.slice pp sE.length pcap,.slice none 0 0,.int .i64 0,.slice none 0 0,.slice none 0 0] 188)).alloc (.cells #[.pointer (some ⟨w2.heap.size,0,none⟩)] 157)=w3 at*
 have hrw:w.heap.size<w2.heap.size:=by have:=k2.size;simp at this;omega
 generalize hr2:w2.heap.size=r at*;have HR2:=hid hr2;clear hr2;have hbx:=hNW.box;have d1:=hbx.cell1;have d3:=hbx.cell3;have f3:=hbx.froz 3;have dp:=hNW.ptr;have HNW:=hid hNW;clear hNW hbx
 go_region
 rw [HNP.out];obtain ⟨hb1,hb2,hb3,hb4⟩:=HNW.out.begin (w3.heap.size) N;have hkd:=(Keeps.refl (w3.setCell ⟨r,3,none⟩ (.int .i64 (N:Int)))).drew;have HB1:=hid (hb1.keeps hkd).base;have HDP:=hid (hkd.cell hb2);have hk24:=hb3.trans hkd;have hs4:(w3.setCell ⟨r,3,none⟩ (.int .i64 (N:Int))).drew.heap.size=r+2:=hb4;have hsz3:w3.heap.size=r+2:=HNW.out.hs;rw [hsz3] at HB1;clear d1 d3 f3 dp hb1 hb2 hb3 hb4 hkd;generalize (w3.setCell ⟨r,3,none⟩ (.int .i64 (N:Int))).drew=w4 at*
 have HELL:Hid (∀ wr,Touch w4 wr (fun i=>i=r)→ElL wr (.slice pp sE.length pcap) sE (E.map Fm.enc)):=hid (fun wr t=>
  ((HPV.out.keeps hk24).touch t (fun i hi=>.inr ⟨_,_,_,_,(by subst hi;exact HB1.out.box),by decide,by decide⟩)).elL (by omega) (fun x hx=>by obtain ⟨y,hy,rfl⟩:=List.mem_map.1 hx;exact HFN.out y hy))
 have hbx:=HB1.out.box;have d1:=hbx.cell1;have dp:=HDP.out;clear hbx;rw [←hs4] at HB1;have HS4:=hid hs4;clear hs4;go_wp2_with fail;clear d1 dp
 go_loopw [32] (fun i' wr=>∃ (i:Nat) (v2:Value),i≤sE.length∧i'=.int .i64 i∧Nw1 w4 wr r w4.heap.size (.string lg) (.slice pp sE.length pcap) N v2 (neT E N i)) (fun i' _=>sE.length-(intOf i').toNat)
 case atStart=>exact ⟨0,_,by omega,rfl,HB1.out⟩
 case round=>
  obtain ⟨i,v2,hi,rfl,h1⟩:=hrel;obtain ⟨p2,q2,rfl⟩:=h1.ne.shape;have hnl:=neT_len E N i;have dp:=h1.tchd.cellOf (by omega) HDP.out;have H1:=hid h1
  by_cases hlt:i<sE.length
  ·have hlt':(i:Int)<sE.length:=by omega
   have hiE:=HEN.out i hlt;obtain ⟨b5,o5,u5,rfl,e5a,e5b,hnd⟩:=(HELL.out wr h1.tchd).getE i hlt hiE;obtain ⟨b6,o6,n6,c6,rfl,hn0,hn1,hn2,hn3,hc,-⟩:=hnd.root;unfold maxLen at hn2;have HND:=hid hnd;clear h1 hnd;generalize sE[i]=si at*;have kE:=(Keeps.refl wr).alloc (.cells #[.string si,.slice (some ⟨b6,o6,none⟩) n6 c6] 185);obtain ⟨ze0,ze1⟩:=BoxQ.made wr (.string si) (.slice (some ⟨b6,o6,none⟩) n6 c6) 185
   replace hc:=kE.cell hc
   have dpE:=kE.cell dp
   have hszE:(wr.alloc (.cells #[.string si,.slice (some ⟨b6,o6,none⟩) n6 c6] 185)).heap.size=wr.heap.size+1:=by simp
   rcases el_case (HEC.out i hiE) with ⟨hm,hk⟩ | ⟨hm,hk,hkd,hx⟩
   ·rw [hk] at hc
    go_wp2_with fail;refine (isModal_any _ _).mono ?_;rintro e w' ⟨rfl,rfl⟩;rw [show modalB 0=false from rfl];have hno:=neT_no (N:=N) hm;have HNO:=hid hno;clear hno hm;go_wp2_with fail;go_roundw
    case rel=>exact ⟨i+1,_,by omega,by go_num,by rw [HNO.out];exact H1.out.keeps kE⟩
    case measure=>simp [intOf];omega
   ·obtain ⟨x,hx⟩:=hx
    have hyes:=neT_yes (N:=N) hm;have hkd2:(E.getD i .fls).kind=(nee E N i).kd:=hkd
    have hmk:modalB (nee E N i).kd=true:=by rw [←hkd2];rcases hk with h | h<;>rw [h]<;>rfl
    rw [hkd2] at hc;have HY:=hid hyes;have HX:=hid hx;have HM:=hid hm;clear hyes hx hm hk hkd hkd2;generalize hkq:(nee E N i).kd=kd at*;have HKQ:=hid hkq;clear hkq;go_wp2_with fail;refine (isModal_any _ _).mono ?_;rintro e w' ⟨rfl,rfl⟩;rw [hmk];clear hmk;have hB0:=BoxNe.made (wr.alloc (.cells #[.string si,.slice (some ⟨b6,o6,none⟩) n6 c6] 185)) (.int .i64 i) (.int .i64 kd) (.slice none 0 0);rw [hszE] at hB0;have kI:=(Keeps.refl (wr.alloc (.cells #[.string si,.slice (some ⟨b6,o6,none⟩) n6 c6] 185))).alloc (.cells #[.int .i64 i,.int .i64 kd,.slice none 0 0] 190);have hN2:Nw2 (wr.alloc (.cells #[.string si,.slice (some ⟨b6,o6,none⟩) n6 c6] 185)) _ (wr.heap.size+1) (.int .i64 i) (.int .i64 kd) (.slice none 0 0) []:=⟨hB0,OwnB.nil _ _,kI,by rw [hszE];exact Nat.le_refl _⟩;have HN2:=hid hN2;have b1:=(H1.out.box.keeps kE).keeps kI;have d3:=b1.cell3;have dpI:=kI.cell dpE;clear hB0 hN2 b1;go_wp2_with fail;have kwE:=HN2.out.kp;clear d3 dpI;have HF:=hid (fun wz (kz:Keeps wr wz)=>first_any _ x (below (E.getD i .fls)) [] _ wz (HND.out.keeps kz) HX.out);have HT1:=hid (fun wz (kz:Keeps (wr.alloc (.cells #[.string si,.slice (some ⟨b6,o6,none⟩) n6 c6] 185)) wz)=>H1.out.keeps (kE.trans kz));have HVI:=hid (fun k (hk:k<N) v' wz (hz:Nds wz v' (below (E.getD i .fls)).enc) (kz:Keeps wr wz)=>HVAL.out i hiE HM.out k hk r _ v' wz hz (H1.out.keeps kz).box.cell1 (HELL.out wz (H1.out.keeps kz).tchd))
    have hIB:∀ k,valB E k (below (E.getD i .fls))=innB E i k:=fun k=>rfl
    simp only [hIB] at HVI;clear hIB;generalize (wr.alloc (.cells #[.string si,.slice (some ⟨b6,o6,none⟩) n6 c6] 185)).alloc (.cells #[.int .i64 i,.int .i64 kd,.slice none 0 0] 190)=wI at*;generalize wr.alloc (.cells #[.string si,.slice (some ⟨b6,o6,none⟩) n6 c6] 185)=wE at*;clear kI kwE;generalize wr=wo at*
    go_loopw [54] (fun k' wq=>∃ (k:Nat) (cv:Value),k≤N∧k'=.int .i64 k∧Nw2 wE wq (wo.heap.size+1) (.int .i64 i) (.int .i64 kd) cv ((List.range k).map (innB E i))) (fun k' _=>N-(intOf k').toNat)
    case atStart=>exact ⟨0,_,by omega,rfl,HN2.out⟩
    case round=>
     obtain ⟨k,cv,hk,rfl,h2⟩:=hrel;have H2:=hid h2
     have hbl:((List.range k).map (innB E i)).length=k:=by simp
     obtain ⟨pc,cc,rfl⟩:=h2.row.shape0;have kq:=h2.kp;have xe1:=kq.cell ze1;have xp:=kq.cell dpE;have xb2:=h2.box.cell2;have hsq:=kq.size
     by_cases hkn:k<N
     ·have hkn':(k:Int)<N:=by omega
      have kd1:=(Keeps.refl wr).drew;have HNX:=hid (map_range_next (innB E i) k);have HBL:=hid hbl;have HF2:=hid (fun wz (kz:Keeps wr wz)=>HF.out wz (kE.trans (kq.trans kz)));have HV2:=hid (fun v' wz (hz:Nds wz v' (below (E.getD i .fls)).enc) (kz:Keeps wr wz)=>HVI.out k hkn v' wz hz (kE.trans (kq.trans kz)))
      have hl1:((List.range k).map (innB E i)).length≤256:=by rw [hbl];omega
      clear h2 hbl;generalize (List.range k).map (innB E i)=bs at*;generalize innB E i k=bk at*;have HYA:Hid (∀ wz,Keeps wr wz→wz.cell? ⟨wo.heap.size+1,2,none⟩=some (.slice pc bs.length cc)∧wz.cell? ⟨r+1,0,none⟩=some (.pointer (some ⟨r,0,none⟩))∧wz.cell? ⟨wo.heap.size,1,none⟩=some (.slice (some ⟨b6,o6,none⟩) n6 c6)):=hid (fun wz kz=>⟨kz.cell xb2,kz.cell xp,kz.cell xe1⟩);go_wp2_with fail;refine wp_region_noPanic ?_;refine wp_region_L (L:=11) (S:=(fun w'=>w'.cell? ⟨wo.heap.size+1,2,none⟩=some (.slice pc bs.length cc)∧w'.cell? ⟨r+1,0,none⟩=some (.pointer (some ⟨r,0,none⟩))∧w'.cell? ⟨wo.heap.size,1,none⟩=some (.slice (some ⟨b6,o6,none⟩) n6 c6))) (by kernel_rfl) (HYA.out _ kd1) (fun hHeld=>?_);refine wpAnyL_pure (i:=0) (oi:=⟨some 57,_,_,_,_,none⟩) (v:=?v0a) rfl (by kernel_rfl) (by kernel_rfl) (by kernel_rfl) (by kernel_rfl) (by kernel_rfl) (fun _ _ _ h=>h) (Or.inl ⟨by rfl,?h0a⟩) (by assumption) ?r0a
      case h0a=>(intro w hSw;clear hSw;go_simp;try with_reducible rfl)
      try simp only [Act.put,List.setIfInBounds_toArray,List.set_cons_zero,List.set_cons_succ]
      refine wpAnyL_take (i:=1) (oi:=⟨some 58,_,_,_,_,none⟩) (v:=?v1a) rfl (by kernel_rfl) (by kernel_rfl) (by kernel_rfl) (by kernel_rfl) (by kernel_rfl) (by kernel_rfl) (fun _ _ _ h=>h) (Or.inl ⟨by rfl,?h1a⟩) (by assumption) ?r1a
      case h1a=>(intro w hSw;(try dsimp only at hSw);go_simp;try with_reducible rfl)
      try simp only [Act.put,List.setIfInBounds_toArray,List.set_cons_zero,List.set_cons_succ]
      refine wpAnyL_take (i:=2) (oi:=⟨some 59,_,_,_,_,none⟩) (v:=?v2a) rfl (by kernel_rfl) (by kernel_rfl) (by kernel_rfl) (by kernel_rfl) (by kernel_rfl) (by kernel_rfl) (fun _ _ _ h=>h) (Or.inl ⟨by rfl,?h2a⟩) (by assumption) ?r2a
      case h2a=>(intro w hSw;(try dsimp only at hSw);go_simp;try with_reducible rfl)
      try simp only [Act.put,List.setIfInBounds_toArray,List.set_cons_zero,List.set_cons_succ]
      refine wpAnyL_pure (i:=3) (oi:=⟨some 60,_,_,_,_,none⟩) (v:=?v3a) rfl (by kernel_rfl) (by kernel_rfl) (by kernel_rfl) (by kernel_rfl) (by kernel_rfl) (fun _ _ _ h=>h) (Or.inl ⟨by rfl,?h3a⟩) (by assumption) ?r3a
      case h3a=>(intro w hSw;clear hSw;go_simp;try with_reducible rfl)
      try simp only [Act.put,List.setIfInBounds_toArray,List.set_cons_zero,List.set_cons_succ]
      refine wpAnyL_take (i:=4) (oi:=⟨some 61,_,_,_,_,none⟩) (v:=?v4a) rfl (by kernel_rfl) (by kernel_rfl) (by kernel_rfl) (by kernel_rfl) (by kernel_rfl) (by kernel_rfl) (fun _ _ _ h=>h) (Or.inl ⟨by rfl,?h4a⟩) (by assumption) ?r4a
      case h4a=>(intro w hSw;(try dsimp only at hSw);go_simp;try with_reducible rfl)
      try simp only [Act.put,List.setIfInBounds_toArray,List.set_cons_zero,List.set_cons_succ]
      refine wpAnyL_pure (i:=6) (oi:=⟨some 63,_,_,_,_,none⟩) (v:=?v6a) rfl (by kernel_rfl) (by kernel_rfl) (by kernel_rfl) (by kernel_rfl) (by kernel_rfl) (fun _ _ _ h=>h) (Or.inl ⟨by rfl,?h6a⟩) (by assumption) ?r6a
      case h6a=>(intro w hSw;clear hSw;go_simp;try with_reducible rfl)
      try simp only [Act.put,List.setIfInBounds_toArray,List.set_cons_zero,List.set_cons_succ]
      refine wpAnyL_one (i:=5) (o:=⟨some 62,_,_,_,_,none⟩) (by kernel_rfl) rfl (fun K hK=>?_)
      go_simp
      go_at_call 67
      refine (HF2.out _ kd1).mono ?_;rintro e w6 ⟨v6,rfl,hv6,rfl⟩;obtain ⟨p6,m6,q6,rfl⟩:=hv6.shape;refine hK.out _ _ (HYA.out _ kd1) (fun hHeld=>?_);clear hK K
      try simp only [Act.put,List.setIfInBounds_toArray,List.set_cons_zero,List.set_cons_succ]
      refine wpAnyL_one (i:=7) (o:=⟨some 64,_,_,_,_,none⟩) (by kernel_rfl) rfl (fun K hK=>?_)
      go_simp
      go_at_call 173
      refine (HV2.out _ _ hv6 kd1).mono ?_;rintro e w7 ⟨rfl,k7⟩;refine hK.out _ _ (HYA.out _ (kd1.trans k7)) (fun hHeld=>?_);clear hK K
      try simp only [Act.put,List.setIfInBounds_toArray,List.set_cons_zero,List.set_cons_succ]
      refine wpAnyL_one (i:=8) (o:=⟨some 65,_,_,_,_,none⟩) (by kernel_rfl) rfl (fun K hK=>?_)
      go_simp
      have k77:=(kd1.trans k7).alloc (.cells #[.bool bk] 4);have h27:=H2.out.keeps k77;refine hK.out _ _ (HYA.out _ k77) (fun hHeld=>?_);clear hK K
      try simp only [Act.put,List.setIfInBounds_toArray,List.set_cons_zero,List.set_cons_succ]
      refine wpAnyL_one (i:=9) (o:=⟨some 66,_,_,_,_,none⟩) (by kernel_rfl) rfl (fun K hK=>?_);refine stepB rfl (.tmp 58) (.tmp 65) rfl wE.heap.size (.slice pc bs.length cc) bs rfl h27.row _ [bk] rfl (Bools.lit1 w7 bk) (by have:=k77.size;omega) (by simp;omega) ?_;intro v8 w8 hv8 hg8 hr8;have hb8:=h27.box6 hg8;have z2:=hb8.cell2;have zf:=hb8.froz 2;obtain ⟨p8,c8,rfl⟩:=hv8.shape0;have k8:=h27.kp.grown hg8 (fun k e=>(h27.row.len k e).1);refine hK.out _ _ (And.intro z2 (And.intro (k8.cell dpE) (k8.cell ze1))) (fun hHeld=>?_);clear hK K
      try simp only [Act.put,List.setIfInBounds_toArray,List.set_cons_zero,List.set_cons_succ]
      refine wpAnyL_pure (i:=10) (oi:=⟨some 67,_,_,_,_,none⟩) (v:=?v10a) rfl (by kernel_rfl) (by kernel_rfl) (by kernel_rfl) (by kernel_rfl) (by kernel_rfl) (fun _ _ _ h=>h) (Or.inl ⟨by rfl,?h10a⟩) (by assumption) ?r10a
      case h10a=>(intro w hSw;clear hSw;go_simp;try with_reducible rfl)
      try simp only [Act.put,List.setIfInBounds_toArray,List.set_cons_zero,List.set_cons_succ]
      refine wpAnyL_last (o:=⟨none,_,_,_,_,none⟩) (by kernel_rfl) rfl (of_decide_eq_true (by kernel_rfl)) (fun K hK=>?_)
      go_simp
      refine hK.out _ _ ?_;clear hK K
      try simp only [Act.put,List.setIfInBounds_toArray,List.set_cons_zero,List.set_cons_succ]
      refine wpAnyL_done (by kernel_rfl) ?_ _;refine NoPanic.normal ?_;have hP:=h27.push hg8 hv8;simp only [List.length_append,List.length_cons,List.length_nil,Nat.zero_add] at hP;have HP:=hid hP;clear hP hb8 hv8 h27;go_wp2_with fail;go_roundw
      case rel=>exact ⟨k+1,_,by omega,by go_num,by rw [HNX.out];exact HP.out⟩
      case measure=>simp [intOf];omega
     ·obtain rfl:k=N:=by omega
      have hkn':¬((k:Int)<k):=by omega
      have hinn:(nee E k i).inn=(List.range k).map (innB E i):=rfl;have HI:=hid (HT1.out _ h2.kp);have b1:=HI.out.box;have x2:=b1.cell2;have xb0:=h2.box.cell0;have xb1:=h2.box.cell1;rw [hbl] at xb2 H2 h2;have hsE:w4.heap.size≤wE.heap.size:=Nat.le_trans H1.out.tchd.size kE.size
      have HNB:Hid (∀ j,(Value.slice p2 (neT E k i).length q2).ownBlock=some j→j≠wo.heap.size+1):=hid (fun j e hj=>by
       obtain ⟨us,ho,_⟩:=H1.out.ne;have:=(World.ownsRow.lt ho j e).2
       omega)
      have HYN:Hid (∀ wz,Keeps wr wz→wz.cell? ⟨r+1,0,none⟩=some (.pointer (some ⟨r,0,none⟩))∧wz.cell? ⟨r,2,none⟩=some (.slice p2 (neT E k i).length q2)∧wz.cell? ⟨wo.heap.size+1,0,none⟩=some (.int .i64 i)∧wz.cell? ⟨wo.heap.size+1,1,none⟩=some (.int .i64 kd)∧wz.cell? ⟨wo.heap.size+1,2,none⟩=some (.slice pc k cc)):=hid (fun wz kz=>⟨kz.cell xp,kz.cell x2,kz.cell xb0,kz.cell xb1,kz.cell xb2⟩);clear hbl x2 xb0 xb1 xb2 b1;go_wp2_with fail;refine wp_region_noPanic ?_;refine wp_region_L (L:=10) (S:=(fun w'=>w'.cell? ⟨r+1,0,none⟩=some (.pointer (some ⟨r,0,none⟩))∧w'.cell? ⟨r,2,none⟩=some (.slice p2 (neT E k i).length q2)∧w'.cell? ⟨wo.heap.size+1,0,none⟩=some (.int .i64 i)∧w'.cell? ⟨wo.heap.size+1,1,none⟩=some (.int .i64 kd)∧w'.cell? ⟨wo.heap.size+1,2,none⟩=some (.slice pc k cc))) (by kernel_rfl) (HYN.out _ (Keeps.refl wr).drew) (fun hHeld=>?_);generalize hwd:wr.drew=wd at*
      have kd1:Keeps wr wd:=by rw [←hwd];exact (Keeps.refl wr).drew
      clear hwd;have ka:=kd1.alloc (.cells #[.int .i64 i,.int .i64 kd,.slice pc k cc] 190)
      have hat0:At (wd.alloc (.cells #[.int .i64 i,.int .i64 kd,.slice pc k cc] 190)) (some ⟨wd.heap.size,0,none⟩) [.int .i64 (nee E k i).ix,.int .i64 (nee E k i).kd,.slice pc k cc]:=by
       rw [HKQ.out];exact At.lit3v wd _ _ _ _
      have HAT:=hid hat0;have hrow:=(h2.row.keeps ka).mono hsE;rw [←hinn] at hrow;have HROW:=hid hrow;have HKA:=hid (HI.out.keeps ka);have ys1:=HYN.out _ ka;have HBN:=hid (h2.box.keeps ka);have hszd:w4.heap.size≤(wd.alloc (.cells #[.int .i64 i,.int .i64 kd,.slice pc k cc] 190)).heap.size:=HKA.out.tchd.size;clear h2 hinn hrow hat0;refine wpAnyL_take (i:=0) (oi:=⟨some 69,_,_,_,_,none⟩) (v:=?v0b) rfl (by kernel_rfl) (by kernel_rfl) (by kernel_rfl) (by kernel_rfl) (by kernel_rfl) (by kernel_rfl) (fun _ _ _ h=>h) (Or.inl ⟨by rfl,?h0b⟩) (by assumption) ?r0b
      case h0b=>(intro w hSw;(try dsimp only at hSw);go_simp;try with_reducible rfl)
      try simp only [Act.put,List.setIfInBounds_toArray,List.set_cons_zero,List.set_cons_succ]
      refine wpAnyL_take (i:=1) (oi:=⟨some 70,_,_,_,_,none⟩) (v:=?v1b) rfl (by kernel_rfl) (by kernel_rfl) (by kernel_rfl) (by kernel_rfl) (by kernel_rfl) (by kernel_rfl) (fun _ _ _ h=>h) (Or.inl ⟨by rfl,?h1b⟩) (by assumption) ?r1b
      case h1b=>(intro w hSw;(try dsimp only at hSw);go_simp;try with_reducible rfl)
      try simp only [Act.put,List.setIfInBounds_toArray,List.set_cons_zero,List.set_cons_succ]
      refine wpAnyL_pure (i:=2) (oi:=⟨some 71,_,_,_,_,none⟩) (v:=?v2b) rfl (by kernel_rfl) (by kernel_rfl) (by kernel_rfl) (by kernel_rfl) (by kernel_rfl) (fun _ _ _ h=>h) (Or.inl ⟨by rfl,?h2b⟩) (by assumption) ?r2b
      case h2b=>(intro w hSw;clear hSw;go_simp;try with_reducible rfl)
      try simp only [Act.put,List.setIfInBounds_toArray,List.set_cons_zero,List.set_cons_succ]
      refine wpAnyL_pure (i:=3) (oi:=⟨some 72,_,_,_,_,none⟩) (v:=?v3b) rfl (by kernel_rfl) (by kernel_rfl) (by kernel_rfl) (by kernel_rfl) (by kernel_rfl) (fun _ _ _ h=>h) (Or.inl ⟨by rfl,?h3b⟩) (by assumption) ?r3b
      case h3b=>(intro w hSw;clear hSw;go_simp;try with_reducible rfl)
      try simp only [Act.put,List.setIfInBounds_toArray,List.set_cons_zero,List.set_cons_succ]
      refine wpAnyL_take (i:=4) (oi:=⟨some 73,_,_,_,_,none⟩) (v:=?v4b) rfl (by kernel_rfl) (by kernel_rfl) (by kernel_rfl) (by kernel_rfl) (by kernel_rfl) (by kernel_rfl) (fun _ _ _ h=>h) (Or.inl ⟨by rfl,?h4b⟩) (by assumption) ?r4b
      case h4b=>(intro w hSw;(try dsimp only at hSw);go_simp;try with_reducible rfl)
      try simp only [Act.put,List.setIfInBounds_toArray,List.set_cons_zero,List.set_cons_succ]
      refine wpAnyL_take (i:=5) (oi:=⟨some 74,_,_,_,_,none⟩) (v:=?v5b) rfl (by kernel_rfl) (by kernel_rfl) (by kernel_rfl) (by kernel_rfl) (by kernel_rfl) (by kernel_rfl) (fun _ _ _ h=>h) (Or.inl ⟨by rfl,?h5b⟩) (by assumption) ?r5b
      case h5b=>(intro w hSw;(try dsimp only at hSw);go_simp;try with_reducible rfl)
      try simp only [Act.put,List.setIfInBounds_toArray,List.set_cons_zero,List.set_cons_succ]
      refine wpAnyL_one (i:=6) (o:=⟨some 75,_,_,_,_,none⟩) (by kernel_rfl) rfl (fun K hK=>?_)
      go_simp
      refine hK.out _ _ (ys1) (fun hHeld=>?_);clear hK K
      try simp only [Act.put,List.setIfInBounds_toArray,List.set_cons_zero,List.set_cons_succ]
      refine wpAnyL_one (i:=7) (o:=⟨some 76,_,_,_,_,none⟩) (by kernel_rfl) rfl (fun K hK=>?_);refine stepNe rfl (.tmp 73) (.tmp 75) rfl w4.heap.size (.slice p2 (neT E k i).length q2) (neT E k i) rfl HKA.out.ne (nee E k i) (.slice pc k cc) HROW.out hszd (some ⟨wd.heap.size,0,none⟩) 1 rfl HAT.out (by omega) ?_;intro v9 w9 hv9 hg9 hr9;have hb9:=HKA.out.box6 hg9;have z2:=hb9.cell2;have zf:=hb9.froz 2;have y9:=(HKA.out.tchd.push hg9 (fun k e=>.inl (hr9 k e))).cellOf (by omega) HDP.out;have hbn:=HBN.out.far (hg9) (HNB.out);obtain ⟨p9,q9,rfl⟩:=hv9.shape;refine hK.out _ _ (And.intro y9 (And.intro z2 (And.intro hbn.cell0 (And.intro hbn.cell1 hbn.cell2)))) (fun hHeld=>?_);clear hK K
      try simp only [Act.put,List.setIfInBounds_toArray,List.set_cons_zero,List.set_cons_succ]
      refine wpAnyL_pure (i:=8) (oi:=⟨some 77,_,_,_,_,none⟩) (v:=?v8b) rfl (by kernel_rfl) (by kernel_rfl) (by kernel_rfl) (by kernel_rfl) (by kernel_rfl) (fun _ _ _ h=>h) (Or.inl ⟨by rfl,?h8b⟩) (by assumption) ?r8b
      case h8b=>(intro w hSw;clear hSw;go_simp;try with_reducible rfl)
      try simp only [Act.put,List.setIfInBounds_toArray,List.set_cons_zero,List.set_cons_succ]
      refine wpAnyL_pure (i:=9) (oi:=⟨some 78,_,_,_,_,none⟩) (v:=?v9b) rfl (by kernel_rfl) (by kernel_rfl) (by kernel_rfl) (by kernel_rfl) (by kernel_rfl) (fun _ _ _ h=>h) (Or.inl ⟨by rfl,?h9b⟩) (by assumption) ?r9b
      case h9b=>(intro w hSw;clear hSw;go_simp;try with_reducible rfl)
      try simp only [Act.put,List.setIfInBounds_toArray,List.set_cons_zero,List.set_cons_succ]
      refine wpAnyL_last (o:=⟨none,_,_,_,_,none⟩) (by kernel_rfl) rfl (of_decide_eq_true (by kernel_rfl)) (fun K hK=>?_)
      go_simp
      refine hK.out _ _ ?_;clear hK K
      try simp only [Act.put,List.setIfInBounds_toArray,List.set_cons_zero,List.set_cons_succ]
      refine wpAnyL_done (by kernel_rfl) ?_ _;refine NoPanic.normal ?_;have hP:=HKA.out.push hg9 hr9 hv9;simp only [List.length_append,List.length_cons,List.length_nil,Nat.zero_add] at hP;have HP:=hid hP;clear hP hb9 hv9;go_wp2_with fail;go_roundw
      case rel=>exact ⟨i+1,_,by omega,by go_num,by rw [HY.out];exact HP.out⟩
      case measure=>simp [intOf];omega
  ·obtain rfl:i=sE.length:=by omega
   have hlt':¬((sE.length:Int)<sE.length):=by omega
   have hnE:neT E N sE.length=nees E N:=by rw [←HEL2.out];exact neT_end E N
   rw [hnE] at h1 H1;clear hnE hnl;have hkw0:Keeps w wr:=(kA.trans (k2.trans hk24)).touch h1.tchd (fun i hi=>by omega);have c0':wr.cell? ⟨w.heap.size,0,none⟩=some (.slice p ss.length c):=h1.tchd.cellOf (by omega) ((k2.trans hk24).cell c0);have c1':wr.cell? ⟨w.heap.size,1,none⟩=some (.slice q tt.length c2):=h1.tchd.cellOf (by omega) ((k2.trans hk24).cell c1);have ys0:=And.intro c0' c1';have HL1:=hid (fun wz (kz:Keeps wr wz)=>HFL.out wz (hkw0.trans kz));have HL2:=hid (fun wz (kz:Keeps wr wz)=>HFR.out wz (hkw0.trans kz));have kd1:=(Keeps.refl wr).drew;have ys1:=And.intro (kd1.cell c0') (kd1.cell c1');clear HFL HFR hi hlt;go_wp2_with fail
   go_region_held3 (fun w'=>w'.cell? ⟨w.heap.size,0,none⟩=some (.slice p ss.length c)∧w'.cell? ⟨w.heap.size,1,none⟩=some (.slice q tt.length c2)) (first | (with_reducible exact ys0) | (with_reducible exact ys1) | (with_reducible exact ys5) | (with_reducible exact ys6)) (first
    | (go_at_call 171;(with_reducible refine (HL1.out _ kd1).mono ?_);rintro e w5 ⟨v5,rfl,hv5,k5⟩;have ys5:=And.intro (k5.cell ys1.1) (k5.cell ys1.2);have k15:=kd1.trans k5)
    | (go_at_call 171;(with_reducible refine (HL2.out _ k15).mono ?_);rintro e w6 ⟨v6,rfl,hv6,k6⟩;have ys6:=And.intro (k6.cell ys5.1) (k6.cell ys5.2)))
   obtain ⟨p5,n5,c5,rfl⟩:=hv5.shapeV;obtain ⟨p6,n6,c6,rfl⟩:=hv6.shapeV;have k16:=k15.trans k6;have HFG':=HFG.out;have hrl:r<wr.heap.size:=H1.out.box.lt;have HH1:=hid (H1.out.keeps k16).base;have HDP6:=hid (k16.cell dp);have hk06:=hkw0.trans k16;have HP6:=hid (fun wz (t:Touch w6 wz (fun i=>i=r))=>HELL.out wz ((H1.out.tchd.keeps k16).trans t));have HA:=hid (fun wz (t:Touch w6 wz (fun i=>i=r))=>((hv5.keeps k6).touchV t (fun i hi e=>by have:wr.heap.size≤i:=hi;omega)).ndsL (by rw [List.length_map];omega) HFG'.1);have HB:=hid (fun wz (t:Touch w6 wz (fun i=>i=r))=>(hv6.touchV t (fun i hi e=>by have:wr.heap.size≤i:=Nat.le_trans k15.size hi;omega)).ndsL (by rw [List.length_map];omega) HFG'.2.1);have hnl:=nees_len E N;have HNE:=hid (fun wz (t:Touch w6 wz (fun i=>i=r))=>HH1.out.ne.other HH1.out.box (by decide) (by decide) (fun i hi=>by rw [show i=r from hi];rfl) t);have HNL:=hid (fun wz (t:Touch w6 wz (fun i=>i=r))=>(HNE.out wz t).neeL (by omega) (fun n hn=>by rw [nees_inn n hn];omega));have HTY:=hid (fun (wz:World) v4 v5 R S (h3:Nw3 w6 wz r (.string lg) (.slice pp sE.length pcap) (.slice p2 (nees E N).length q2) N v4 v5 R S)=>(⟨by rw [HLG.out];exact h3.box.cell0,⟨_,h3.box.cell2,HNL.out wz h3.tchd⟩,hL,fun n hn=>by have:=nees_ix n hn;omega,nees_inn,hN256⟩:TyN wz r L N (nees E N)));have hb6:=HH1.out.box;have d3:=hb6.cell3;have dp6:=HDP6.out;have H30:Hid (Nw3 w6 w6 r (.string lg) (.slice pp sE.length pcap) (.slice p2 (nees E N).length q2) N (.slice none 0 0) (.slice none 0 0) [] []):=hid ⟨hb6,OwnB.nil _ _,OwnB.nil _ _,fun k e=>by simp [Value.ownBlock] at e,Touch.refl _ _⟩;clear hv5 hv6 k5 k6 kd1 ys0 ys1 ys5 ys6 k15 hb6 h1;generalize wr=wl at*;go_wp2_with fail;clear d3 dp6
   go_loopw [90] (fun k' wr=>∃ (k:Nat) (v4 v5:Value),k≤N∧k'=.int .i64 k∧Nw3 w6 wr r (.string lg) (.slice pp sE.length pcap) (.slice p2 (nees E N).length q2) N v4 v5 ((List.range k).map (refB E (fmL ss) (fmL tt))) ((List.range k).map (alwB L E))) (fun k' _=>N-(intOf k').toNat)
   case atStart=>exact ⟨0,_,_,by omega,rfl,H30.out⟩
   case round=>
    obtain ⟨k,v4,v5,hk,rfl,h3⟩:=hrel;clear H30
    have hbl4:((List.range k).map (refB E (fmL ss) (fmL tt))).length=k:=by simp
    have hbl5:((List.range k).map (alwB L E)).length=k:=by simp
    obtain ⟨p4,q4,rfl⟩:=h3.r4.shape0;obtain ⟨p7,q7,rfl⟩:=h3.r5.shape0;rw [hbl4,hbl5] at h3
    by_cases hkn:k<N
    ·have hkn':(k:Int)<N:=by omega
     have dpr:=h3.tchd.cellOf (by omega) HDP6.out;have kA3:=(Keeps.refl wr).alloc (.cells #[.int .i64 k] 2)
     have cT:(wr.alloc (.cells #[.int .i64 k] 2)).cell? ⟨wr.heap.size,0,none⟩=some (.int .i64 k):=by simp
     have h3A:=h3.keeps kA3;have dpA:=kA3.cell dpr;have xA4:=h3A.box.cell4;have hsA:w6.heap.size≤wr.heap.size:=h3.tchd.size;have HV4:Hid ((Value.slice p4 k q4).ownBlock≠some wr.heap.size):=hid (fun e=>by have:=(h3.r4.len _ e).2;omega);have HV5:Hid ((Value.slice p7 k q7).ownBlock≠some wr.heap.size):=hid (fun e=>by have:=(h3.r5.len _ e).2;omega);have hrg:r<wr.heap.size:=h3.box.lt;have H3A:=hid h3A;have HC1:=hid (fun wz (kz:Keeps (wr.alloc (.cells #[.int .i64 k] 2)) wz)=>newContains1 E (fmL ss) sE h8 k (by omega) r (r+1) wr.heap.size _ _ wz HSL.out (HA.out wz (H3A.out.tchd.keeps kz)) (kz.cell H3A.out.box.cell1) (HP6.out wz (H3A.out.tchd.keeps kz)) (kz.cell dpA) (kz.cell cT));have HC2:=hid (fun wz (kz:Keeps (wr.alloc (.cells #[.int .i64 k] 2)) wz)=>newContains2 E (fmL tt) sE h8 k (by omega) r (r+1) wr.heap.size _ _ wz HSR.out (HB.out wz (H3A.out.tchd.keeps kz)) (kz.cell H3A.out.box.cell1) (HP6.out wz (H3A.out.tchd.keeps kz)) (kz.cell dpA) (kz.cell cT));have HRF:Hid (refB E (fmL ss) (fmL tt) k=(!((fmL ss).any fun t=>!valB E k t)&&!((fmL tt).any fun t=>valB E k t))):=hid (by unfold refB;rw [any_not,Bool.not_not]);have HX4:=hid (map_range_next (refB E (fmL ss) (fmL tt)) k);have HX5:=hid (map_range_next (alwB L E) k);clear h3 h3A;generalize ((fmL ss).any fun t=>!valB E k t)=b1 at*;generalize ((fmL tt).any fun t=>valB E k t)=b2 at*;generalize refB E (fmL ss) (fmL tt) k=rk at*;generalize (List.range k).map (refB E (fmL ss) (fmL tt))=Rk at*;go_wp2_with fail
     have hszA:(wr.alloc (.cells #[.int .i64 k] 2)).heap.size=wr.heap.size+1:=by simp
     generalize hwA:wr.alloc (.cells #[.int .i64 k] 2)=wA at*;have HWA:=hid hwA;clear hwA;generalize hgt:wr.heap.size=gt at*;have HGT:=hid hgt;clear hgt;have kd:=(Keeps.refl wA).drew;clear dpr;generalize hal:(List.range k).map (alwB L E)=Ak at*;have HAL:=hid hal;clear hal;have hlR:Rk.length=k:=hbl4;have HLA:Hid (Ak.length=k):=hid hbl5;clear hbl5;have HLR:=hid hlR;clear hbl4 hlR;have HY:Hid (∀ wz,Keeps wA wz→wz.cell? ⟨r+1,0,none⟩=some (.pointer (some ⟨r,0,none⟩))∧wz.cell? ⟨r,4,none⟩=some (.slice p4 k q4)):=hid (fun wz kz=>⟨kz.cell dpA,kz.cell xA4⟩)
     cases b1
     ·refine wp_region_noPanic ?_
      refine wp_region_L (L:=19) (S:=(fun w'=>w'.cell? ⟨r+1,0,none⟩=some (.pointer (some ⟨r,0,none⟩))∧w'.cell? ⟨r,4,none⟩=some (.slice p4 k q4))) (by kernel_rfl) (HY.out _ kd) (fun hHeld=>?_);refine wpAnyL_take (i:=0) (oi:=⟨some 93,_,_,_,_,none⟩) (v:=?v0f) rfl (by kernel_rfl) (by kernel_rfl) (by kernel_rfl) (by kernel_rfl) (by kernel_rfl) (by kernel_rfl) (fun _ _ _ h=>h) (Or.inl ⟨by rfl,?h0f⟩) (by assumption) ?r0f
      case h0f=>(intro w hSw;(try dsimp only at hSw);go_simp;try with_reducible rfl)
      try simp only [Act.put,List.setIfInBounds_toArray,List.set_cons_zero,List.set_cons_succ]
      refine wpAnyL_take (i:=1) (oi:=⟨some 94,_,_,_,_,none⟩) (v:=?v1f) rfl (by kernel_rfl) (by kernel_rfl) (by kernel_rfl) (by kernel_rfl) (by kernel_rfl) (by kernel_rfl) (fun _ _ _ h=>h) (Or.inl ⟨by rfl,?h1f⟩) (by assumption) ?r1f
      case h1f=>(intro w hSw;(try dsimp only at hSw);go_simp;try with_reducible rfl)
      try simp only [Act.put,List.setIfInBounds_toArray,List.set_cons_zero,List.set_cons_succ]
      refine wpAnyL_pure (i:=2) (oi:=⟨some 95,_,_,_,_,none⟩) (v:=?v2f) rfl (by kernel_rfl) (by kernel_rfl) (by kernel_rfl) (by kernel_rfl) (by kernel_rfl) (fun _ _ _ h=>h) (Or.inl ⟨by rfl,?h2f⟩) (by assumption) ?r2f
      case h2f=>(intro w hSw;clear hSw;go_simp;try with_reducible rfl)
      try simp only [Act.put,List.setIfInBounds_toArray,List.set_cons_zero,List.set_cons_succ]
      refine wpAnyL_pure (i:=3) (oi:=⟨some 96,_,_,_,_,none⟩) (v:=?v3f) rfl (by kernel_rfl) (by kernel_rfl) (by kernel_rfl) (by kernel_rfl) (by kernel_rfl) (fun _ _ _ h=>h) (Or.inl ⟨by rfl,?h3f⟩) (by assumption) ?r3f
      case h3f=>(intro w hSw;clear hSw;go_simp;try with_reducible rfl)
      try simp only [Act.put,List.setIfInBounds_toArray,List.set_cons_zero,List.set_cons_succ]
      refine wpAnyL_take (i:=4) (oi:=⟨some 97,_,_,_,_,none⟩) (v:=?v4f) rfl (by kernel_rfl) (by kernel_rfl) (by kernel_rfl) (by kernel_rfl) (by kernel_rfl) (by kernel_rfl) (fun _ _ _ h=>h) (Or.inl ⟨by rfl,?h4f⟩) (by assumption) ?r4f
      case h4f=>(intro w hSw;(try dsimp only at hSw);go_simp;try with_reducible rfl)
      try simp only [Act.put,List.setIfInBounds_toArray,List.set_cons_zero,List.set_cons_succ]
      refine wpAnyL_pure (i:=5) (oi:=⟨some 98,_,_,_,_,none⟩) (v:=?v5f) rfl (by kernel_rfl) (by kernel_rfl) (by kernel_rfl) (by kernel_rfl) (by kernel_rfl) (fun _ _ _ h=>h) (Or.inl ⟨by rfl,?h5f⟩) (by assumption) ?r5f
      case h5f=>(intro w hSw;clear hSw;go_simp;try with_reducible rfl)
      try simp only [Act.put,List.setIfInBounds_toArray,List.set_cons_zero,List.set_cons_succ]
      refine wpAnyL_pure (i:=6) (oi:=⟨some 99,_,_,_,_,none⟩) (v:=?v6f) rfl (by kernel_rfl) (by kernel_rfl) (by kernel_rfl) (by kernel_rfl) (by kernel_rfl) (fun _ _ _ h=>h) (Or.inl ⟨by rfl,?h6f⟩) (by assumption) ?r6f
      case h6f=>(intro w hSw;clear hSw;go_simp;try with_reducible rfl)
      try simp only [Act.put,List.setIfInBounds_toArray,List.set_cons_zero,List.set_cons_succ]
      refine wpAnyL_one (i:=7) (o:=⟨some 100,_,_,_,_,none⟩) (by kernel_rfl) rfl (fun K hK=>?_)
      go_simp
      go_at_call 114
      refine (HC1.out _ kd).mono ?_;rintro e w7 ⟨rfl,k7⟩;have ys7:=HY.out w7 (kd.trans k7);refine hK.out _ _ (ys7) (fun hHeld=>?_);clear hK K
      try simp only [Act.put,List.setIfInBounds_toArray,List.set_cons_zero,List.set_cons_succ]
      refine wpAnyL_pure (i:=8) (oi:=⟨some 101,_,_,_,_,none⟩) (v:=?v8f) rfl (by kernel_rfl) (by kernel_rfl) (by kernel_rfl) (by kernel_rfl) (by kernel_rfl) (fun _ _ _ h=>h) (Or.inl ⟨by rfl,?h8f⟩) (by assumption) ?r8f
      case h8f=>(intro w hSw;clear hSw;go_simp;try with_reducible rfl)
      try simp only [Act.put,List.setIfInBounds_toArray,List.set_cons_zero,List.set_cons_succ]
      refine wpAnyL_pure (i:=9) (oi:=⟨some 102,_,_,_,_,none⟩) (v:=?v9f) rfl (by kernel_rfl) (by kernel_rfl) (by kernel_rfl) (by kernel_rfl) (by kernel_rfl) (fun _ _ _ h=>h) (Or.inl ⟨by rfl,?h9f⟩) (by assumption) ?r9f
      case h9f=>(intro w hSw;clear hSw;go_simp;try with_reducible rfl)
      try simp only [Act.put,List.setIfInBounds_toArray,List.set_cons_zero,List.set_cons_succ]
      refine wpAnyL_pure (i:=10) (oi:=⟨some 103,_,_,_,_,some (9,true)⟩) (v:=?v10f) rfl (by kernel_rfl) (by kernel_rfl) (by kernel_rfl) (by kernel_rfl) (by kernel_rfl) (fun _ _ _ h=>h) (Or.inl ⟨by rfl,?h10f⟩) (by assumption) ?r10f
      case h10f=>(intro w hSw;clear hSw;go_simp;try with_reducible rfl)
      try simp only [Act.put,List.setIfInBounds_toArray,List.set_cons_zero,List.set_cons_succ]
      refine wpAnyL_pure (i:=11) (oi:=⟨some 104,_,_,_,_,some (9,true)⟩) (v:=?v11f) rfl (by kernel_rfl) (by kernel_rfl) (by kernel_rfl) (by kernel_rfl) (by kernel_rfl) (fun _ _ _ h=>h) (Or.inl ⟨by rfl,?h11f⟩) (by assumption) ?r11f
      case h11f=>(intro w hSw;clear hSw;go_simp;try with_reducible rfl)
      try simp only [Act.put,List.setIfInBounds_toArray,List.set_cons_zero,List.set_cons_succ]
      refine wpAnyL_one (i:=12) (o:=⟨some 105,_,_,_,_,some (9,true)⟩) (by kernel_rfl) rfl (fun K hK=>?_);rw [if_pos (by kernel_rfl)]
      go_simp
      go_at_call 114
      refine (HC2.out _ (kd.trans k7)).mono ?_;rintro e w9 ⟨rfl,k9⟩;have ys9:=HY.out w9 ((kd.trans k7).trans k9);refine hK.out _ _ (ys9) (fun hHeld=>?_);clear hK K
      try simp only [Act.put,List.setIfInBounds_toArray,List.set_cons_zero,List.set_cons_succ]
      refine wpAnyL_pure (i:=13) (oi:=⟨some 106,_,_,_,_,some (9,true)⟩) (v:=?v13f) rfl (by kernel_rfl) (by kernel_rfl) (by kernel_rfl) (by kernel_rfl) (by kernel_rfl) (fun _ _ _ h=>h) (Or.inl ⟨by rfl,?h13f⟩) (by assumption) ?r13f
      case h13f=>(intro w hSw;clear hSw;go_simp;try with_reducible rfl)
      try simp only [Act.put,List.setIfInBounds_toArray,List.set_cons_zero,List.set_cons_succ]
      refine wpAnyL_pure (i:=14) (oi:=⟨some 107,_,_,_,_,none⟩) (v:=?v14f) rfl (by kernel_rfl) (by kernel_rfl) (by kernel_rfl) (by kernel_rfl) (by kernel_rfl) (fun _ _ _ h=>h) (Or.inl ⟨by rfl,?h14f⟩) (by assumption) ?r14f
      case h14f=>(intro w hSw;clear hSw;go_simp;try with_reducible rfl)
      try simp only [Act.put,List.setIfInBounds_toArray,List.set_cons_zero,List.set_cons_succ]
      refine wpAnyL_one (i:=15) (o:=⟨some 108,_,_,_,_,none⟩) (by kernel_rfl) rfl (fun K hK=>?_)
      go_simp
      have ka:=((kd.trans k7).trans k9).alloc (.cells #[.bool (!b2)] 4);have ysa:=HY.out _ ka;have h3K:=H3A.out.keeps ka;refine hK.out _ _ (ysa) (fun hHeld=>?_);clear hK K
      try simp only [Act.put,List.setIfInBounds_toArray,List.set_cons_zero,List.set_cons_succ]
      refine wpAnyL_one (i:=16) (o:=⟨some 109,_,_,_,_,none⟩) (by kernel_rfl) rfl (fun K hK=>?_);refine stepBL rfl (.tmp 97) (.tmp 108) rfl w6.heap.size (.slice p4 k q4) Rk rfl h3K.r4 _ (!b2) rfl (Bools.lit1 w9 (!b2)) (by have:=ka.size;have:=h3K.tchd.size;omega) (by have:=HLR.out;omega) ?_;intro v8 w8 hv8 hg8 hr8 hn8;have hb8:=h3K.box4 hg8;have z4:=hb8.cell4;have zf:=hb8.froz 4;have y5:=(h3K.tchd.push hg8 (fun k e=>.inl (hr8 k e))).cellOf (by omega) HDP6.out;obtain ⟨p8,q8,rfl⟩:=hv8.shape0;refine hK.out _ _ (And.intro y5 z4) (fun hHeld=>?_);clear hK K
      try simp only [Act.put,List.setIfInBounds_toArray,List.set_cons_zero,List.set_cons_succ]
      refine wpAnyL_pure (i:=17) (oi:=⟨some 110,_,_,_,_,none⟩) (v:=?v17f) rfl (by kernel_rfl) (by kernel_rfl) (by kernel_rfl) (by kernel_rfl) (by kernel_rfl) (fun _ _ _ h=>h) (Or.inl ⟨by rfl,?h17f⟩) (by assumption) ?r17f
      case h17f=>(intro w hSw;clear hSw;go_simp;try with_reducible rfl)
      try simp only [Act.put,List.setIfInBounds_toArray,List.set_cons_zero,List.set_cons_succ]
      refine wpAnyL_pure (i:=18) (oi:=⟨some 111,_,_,_,_,none⟩) (v:=?v18f) rfl (by kernel_rfl) (by kernel_rfl) (by kernel_rfl) (by kernel_rfl) (by kernel_rfl) (fun _ _ _ h=>h) (Or.inl ⟨by rfl,?h18f⟩) (by assumption) ?r18f
      case h18f=>(intro w hSw;clear hSw;go_simp;try with_reducible rfl)
      try simp only [Act.put,List.setIfInBounds_toArray,List.set_cons_zero,List.set_cons_succ]
      refine wpAnyL_last (o:=⟨none,_,_,_,_,none⟩) (by kernel_rfl) rfl (of_decide_eq_true (by kernel_rfl)) (fun K hK=>?_)
      go_simp
      refine hK.out _ _ ?_;clear hK K
      try simp only [Act.put,List.setIfInBounds_toArray,List.set_cons_zero,List.set_cons_succ]
      refine wpAnyL_done (by kernel_rfl) ?_ _;refine NoPanic.normal ?_;have hP:=h3K.push4 hg8 hv8 hn8;have hcg:=(Touch.grown hg8).cellOf (fun e=>HV4.out e.symm) (ka.cell cT);have hcg2:=(Touch.grown (hb8.grown 4 (.slice p8 (Rk++[(!b2)]).length q8))).cellOf (fun e=>by have:gt=r:=(by simpa using e);omega) hcg;rw [show (!b2)=rk by rw [HRF.out];simp] at hP hcg2;simp only [List.length_append,List.length_cons,List.length_nil,Nat.zero_add] at hP hcg2;have hP5:=hP.box.cell5;have hPp:=hP.tchd.cellOf (by omega) HDP6.out;have HP:=hid hP;clear hP hb8 hv8 h3K z4 zf y5 hcg ka hg8 hr8 hn8 hHeld ysa;go_wp2_with fail;generalize w8.setCell ⟨r,4,none⟩ (.slice p8 (Rk.length+1) q8)=wB at*;have kdB:=(Keeps.refl wB).drew;have HAW:=hid (fun wz (kz:Keeps wB wz)=>isAllowed_any r L N (nees E N) k hkn wz ((HTY.out wB _ _ _ _ HP.out).keeps kz));rw [nees_alw L E N k hkn] at HAW;have HYB:Hid (∀ wz,Keeps wB wz→wz.cell? ⟨r+1,0,none⟩=some (.pointer (some ⟨r,0,none⟩))∧wz.cell? ⟨r,5,none⟩=some (.slice p7 k q7)∧wz.cell? ⟨gt,0,none⟩=some (.int .i64 k)):=hid (fun wz kz=>⟨kz.cell hPp,kz.cell hP5,kz.cell hcg2⟩);clear hPp hP5 hcg2;generalize alwB L E k=ak at*;refine wp_region_noPanic ?_;refine wp_region_L (L:=12) (S:=(fun w'=>w'.cell? ⟨r+1,0,none⟩=some (.pointer (some ⟨r,0,none⟩))∧w'.cell? ⟨r,5,none⟩=some (.slice p7 k q7)∧w'.cell? ⟨gt,0,none⟩=some (.int .i64 k))) (by kernel_rfl) (HYB.out _ kdB) (fun hHeld=>?_);refine wpAnyL_take (i:=0) (oi:=⟨some 112,_,_,_,_,none⟩) (v:=?v0f2) rfl (by kernel_rfl) (by kernel_rfl) (by kernel_rfl) (by kernel_rfl) (by kernel_rfl) (by kernel_rfl) (fun _ _ _ h=>h) (Or.inl ⟨by rfl,?h0f2⟩) (by assumption) ?r0f2
      case h0f2=>(intro w hSw;(try dsimp only at hSw);go_simp;try with_reducible rfl)
      try simp only [Act.put,List.setIfInBounds_toArray,List.set_cons_zero,List.set_cons_succ]
      refine wpAnyL_take (i:=1) (oi:=⟨some 113,_,_,_,_,none⟩) (v:=?v1f2) rfl (by kernel_rfl) (by kernel_rfl) (by kernel_rfl) (by kernel_rfl) (by kernel_rfl) (by kernel_rfl) (fun _ _ _ h=>h) (Or.inl ⟨by rfl,?h1f2⟩) (by assumption) ?r1f2
      case h1f2=>(intro w hSw;(try dsimp only at hSw);go_simp;try with_reducible rfl)
      try simp only [Act.put,List.setIfInBounds_toArray,List.set_cons_zero,List.set_cons_succ]
      refine wpAnyL_pure (i:=2) (oi:=⟨some 114,_,_,_,_,none⟩) (v:=?v2f2) rfl (by kernel_rfl) (by kernel_rfl) (by kernel_rfl) (by kernel_rfl) (by kernel_rfl) (fun _ _ _ h=>h) (Or.inl ⟨by rfl,?h2f2⟩) (by assumption) ?r2f2
      case h2f2=>(intro w hSw;clear hSw;go_simp;try with_reducible rfl)
      try simp only [Act.put,List.setIfInBounds_toArray,List.set_cons_zero,List.set_cons_succ]
      refine wpAnyL_pure (i:=3) (oi:=⟨some 115,_,_,_,_,none⟩) (v:=?v3f2) rfl (by kernel_rfl) (by kernel_rfl) (by kernel_rfl) (by kernel_rfl) (by kernel_rfl) (fun _ _ _ h=>h) (Or.inl ⟨by rfl,?h3f2⟩) (by assumption) ?r3f2
      case h3f2=>(intro w hSw;clear hSw;go_simp;try with_reducible rfl)
      try simp only [Act.put,List.setIfInBounds_toArray,List.set_cons_zero,List.set_cons_succ]
      refine wpAnyL_take (i:=4) (oi:=⟨some 116,_,_,_,_,none⟩) (v:=?v4f2) rfl (by kernel_rfl) (by kernel_rfl) (by kernel_rfl) (by kernel_rfl) (by kernel_rfl) (by kernel_rfl) (fun _ _ _ h=>h) (Or.inl ⟨by rfl,?h4f2⟩) (by assumption) ?r4f2
      case h4f2=>(intro w hSw;(try dsimp only at hSw);go_simp;try with_reducible rfl)
      try simp only [Act.put,List.setIfInBounds_toArray,List.set_cons_zero,List.set_cons_succ]
      refine wpAnyL_take (i:=5) (oi:=⟨some 117,_,_,_,_,none⟩) (v:=?v5f2) rfl (by kernel_rfl) (by kernel_rfl) (by kernel_rfl) (by kernel_rfl) (by kernel_rfl) (by kernel_rfl) (fun _ _ _ h=>h) (Or.inl ⟨by rfl,?h5f2⟩) (by assumption) ?r5f2
      case h5f2=>(intro w hSw;(try dsimp only at hSw);go_simp;try with_reducible rfl)
      try simp only [Act.put,List.setIfInBounds_toArray,List.set_cons_zero,List.set_cons_succ]
      refine wpAnyL_take (i:=6) (oi:=⟨some 118,_,_,_,_,none⟩) (v:=?v6f2) rfl (by kernel_rfl) (by kernel_rfl) (by kernel_rfl) (by kernel_rfl) (by kernel_rfl) (by kernel_rfl) (fun _ _ _ h=>h) (Or.inl ⟨by rfl,?h6f2⟩) (by assumption) ?r6f2
      case h6f2=>(intro w hSw;(try dsimp only at hSw);go_simp;try with_reducible rfl)
      try simp only [Act.put,List.setIfInBounds_toArray,List.set_cons_zero,List.set_cons_succ]
      refine wpAnyL_one (i:=7) (o:=⟨some 119,_,_,_,_,none⟩) (by kernel_rfl) rfl (fun K hK=>?_)
      go_simp
      go_at_call 176
      refine (HAW.out _ kdB).mono ?_;rintro e w11 ⟨rfl,k11⟩;have ys11:=HYB.out w11 (kdB.trans k11);refine hK.out _ _ (ys11) (fun hHeld=>?_);clear hK K
      try simp only [Act.put,List.setIfInBounds_toArray,List.set_cons_zero,List.set_cons_succ]
      refine wpAnyL_one (i:=8) (o:=⟨some 120,_,_,_,_,none⟩) (by kernel_rfl) rfl (fun K hK=>?_)
      go_simp
      have kb:=(kdB.trans k11).alloc (.cells #[.bool ak] 4);have ysb:=HYB.out _ kb;have h3M:=HP.out.keeps kb;refine hK.out _ _ (ysb) (fun hHeld=>?_);clear hK K
      try simp only [Act.put,List.setIfInBounds_toArray,List.set_cons_zero,List.set_cons_succ]
      refine wpAnyL_one (i:=9) (o:=⟨some 121,_,_,_,_,none⟩) (by kernel_rfl) rfl (fun K hK=>?_);refine stepBL rfl (.tmp 116) (.tmp 120) rfl w6.heap.size (.slice p7 k q7) Ak rfl h3M.r5 _ ak rfl (Bools.lit1 w11 ak) (by have:=kb.size;have:=h3M.tchd.size;omega) (by have:=HLA.out;omega) ?_;intro v12 w12 hv12 hg12 hr12 hn12;have hb12:=h3M.box5 hg12;have z5:=hb12.cell5;have zg:=hb12.froz 5;have y6:=(h3M.tchd.push hg12 (fun k e=>.inl (hr12 k e))).cellOf (by omega) HDP6.out;have yg:=(Touch.grown hg12).cellOf (fun e=>HV5.out e.symm) ysb.2.2;obtain ⟨p12,q12,rfl⟩:=hv12.shape0;refine hK.out _ _ (And.intro y6 (And.intro z5 yg)) (fun hHeld=>?_);clear hK K
      try simp only [Act.put,List.setIfInBounds_toArray,List.set_cons_zero,List.set_cons_succ]
      refine wpAnyL_pure (i:=10) (oi:=⟨some 122,_,_,_,_,none⟩) (v:=?v10f2) rfl (by kernel_rfl) (by kernel_rfl) (by kernel_rfl) (by kernel_rfl) (by kernel_rfl) (fun _ _ _ h=>h) (Or.inl ⟨by rfl,?h10f2⟩) (by assumption) ?r10f2
      case h10f2=>(intro w hSw;clear hSw;go_simp;try with_reducible rfl)
      try simp only [Act.put,List.setIfInBounds_toArray,List.set_cons_zero,List.set_cons_succ]
      refine wpAnyL_pure (i:=11) (oi:=⟨some 123,_,_,_,_,none⟩) (v:=?v11f2) rfl (by kernel_rfl) (by kernel_rfl) (by kernel_rfl) (by kernel_rfl) (by kernel_rfl) (fun _ _ _ h=>h) (Or.inl ⟨by rfl,?h11f2⟩) (by assumption) ?r11f2
      case h11f2=>(intro w hSw;clear hSw;go_simp;try with_reducible rfl)
      try simp only [Act.put,List.setIfInBounds_toArray,List.set_cons_zero,List.set_cons_succ]
      refine wpAnyL_last (o:=⟨none,_,_,_,_,none⟩) (by kernel_rfl) rfl (of_decide_eq_true (by kernel_rfl)) (fun K hK=>?_)
      go_simp
      refine hK.out _ _ ?_;clear hK K
      try simp only [Act.put,List.setIfInBounds_toArray,List.set_cons_zero,List.set_cons_succ]
      refine wpAnyL_done (by kernel_rfl) ?_ _;refine NoPanic.normal ?_;have hQ:=h3M.push5 hg12 hv12 hn12;simp only [List.length_append,List.length_cons,List.length_nil,Nat.zero_add] at hQ;have HQ:=hid hQ;clear hQ hb12 hv12 h3M;go_wp2_with fail;go_roundw
      case rel=>exact ⟨k+1,_,_,by omega,by go_num,by rw [HX4.out,HX5.out];exact HQ.out⟩
      case measure=>simp [intOf];omega
     ·refine wp_region_noPanic ?_
      refine wp_region_L (L:=19) (S:=(fun w'=>w'.cell? ⟨r+1,0,none⟩=some (.pointer (some ⟨r,0,none⟩))∧w'.cell? ⟨r,4,none⟩=some (.slice p4 k q4))) (by kernel_rfl) (HY.out _ kd) (fun hHeld=>?_);refine wpAnyL_take (i:=0) (oi:=⟨some 93,_,_,_,_,none⟩) (v:=?v0t) rfl (by kernel_rfl) (by kernel_rfl) (by kernel_rfl) (by kernel_rfl) (by kernel_rfl) (by kernel_rfl) (fun _ _ _ h=>h) (Or.inl ⟨by rfl,?h0t⟩) (by assumption) ?r0t
      case h0t=>(intro w hSw;(try dsimp only at hSw);go_simp;try with_reducible rfl)
      try simp only [Act.put,List.setIfInBounds_toArray,List.set_cons_zero,List.set_cons_succ]
      refine wpAnyL_take (i:=1) (oi:=⟨some 94,_,_,_,_,none⟩) (v:=?v1t) rfl (by kernel_rfl) (by kernel_rfl) (by kernel_rfl) (by kernel_rfl) (by kernel_rfl) (by kernel_rfl) (fun _ _ _ h=>h) (Or.inl ⟨by rfl,?h1t⟩) (by assumption) ?r1t
      case h1t=>(intro w hSw;(try dsimp only at hSw);go_simp;try with_reducible rfl)
      try simp only [Act.put,List.setIfInBounds_toArray,List.set_cons_zero,List.set_cons_succ]
      refine wpAnyL_pure (i:=2) (oi:=⟨some 95,_,_,_,_,none⟩) (v:=?v2t) rfl (by kernel_rfl) (by kernel_rfl) (by kernel_rfl) (by kernel_rfl) (by kernel_rfl) (fun _ _ _ h=>h) (Or.inl ⟨by rfl,?h2t⟩) (by assumption) ?r2t
      case h2t=>(intro w hSw;clear hSw;go_simp;try with_reducible rfl)
      try simp only [Act.put,List.setIfInBounds_toArray,List.set_cons_zero,List.set_cons_succ]
      refine wpAnyL_pure (i:=3) (oi:=⟨some 96,_,_,_,_,none⟩) (v:=?v3t) rfl (by kernel_rfl) (by kernel_rfl) (by kernel_rfl) (by kernel_rfl) (by kernel_rfl) (fun _ _ _ h=>h) (Or.inl ⟨by rfl,?h3t⟩) (by assumption) ?r3t
      case h3t=>(intro w hSw;clear hSw;go_simp;try with_reducible rfl)
      try simp only [Act.put,List.setIfInBounds_toArray,List.set_cons_zero,List.set_cons_succ]
      refine wpAnyL_take (i:=4) (oi:=⟨some 97,_,_,_,_,none⟩) (v:=?v4t) rfl (by kernel_rfl) (by kernel_rfl) (by kernel_rfl) (by kernel_rfl) (by kernel_rfl) (by kernel_rfl) (fun _ _ _ h=>h) (Or.inl ⟨by rfl,?h4t⟩) (by assumption) ?r4t
      case h4t=>(intro w hSw;(try dsimp only at hSw);go_simp;try with_reducible rfl)
      try simp only [Act.put,List.setIfInBounds_toArray,List.set_cons_zero,List.set_cons_succ]
      refine wpAnyL_pure (i:=5) (oi:=⟨some 98,_,_,_,_,none⟩) (v:=?v5t) rfl (by kernel_rfl) (by kernel_rfl) (by kernel_rfl) (by kernel_rfl) (by kernel_rfl) (fun _ _ _ h=>h) (Or.inl ⟨by rfl,?h5t⟩) (by assumption) ?r5t
      case h5t=>(intro w hSw;clear hSw;go_simp;try with_reducible rfl)
      try simp only [Act.put,List.setIfInBounds_toArray,List.set_cons_zero,List.set_cons_succ]
      refine wpAnyL_pure (i:=6) (oi:=⟨some 99,_,_,_,_,none⟩) (v:=?v6t) rfl (by kernel_rfl) (by kernel_rfl) (by kernel_rfl) (by kernel_rfl) (by kernel_rfl) (fun _ _ _ h=>h) (Or.inl ⟨by rfl,?h6t⟩) (by assumption) ?r6t
      case h6t=>(intro w hSw;clear hSw;go_simp;try with_reducible rfl)
      try simp only [Act.put,List.setIfInBounds_toArray,List.set_cons_zero,List.set_cons_succ]
      refine wpAnyL_one (i:=7) (o:=⟨some 100,_,_,_,_,none⟩) (by kernel_rfl) rfl (fun K hK=>?_)
      go_simp
      go_at_call 114
      refine (HC1.out _ kd).mono ?_;rintro e w7 ⟨rfl,k7⟩;have ys7:=HY.out w7 (kd.trans k7);refine hK.out _ _ (ys7) (fun hHeld=>?_);clear hK K
      try simp only [Act.put,List.setIfInBounds_toArray,List.set_cons_zero,List.set_cons_succ]
      refine wpAnyL_pure (i:=8) (oi:=⟨some 101,_,_,_,_,none⟩) (v:=?v8t) rfl (by kernel_rfl) (by kernel_rfl) (by kernel_rfl) (by kernel_rfl) (by kernel_rfl) (fun _ _ _ h=>h) (Or.inl ⟨by rfl,?h8t⟩) (by assumption) ?r8t
      case h8t=>(intro w hSw;clear hSw;go_simp;try with_reducible rfl)
      try simp only [Act.put,List.setIfInBounds_toArray,List.set_cons_zero,List.set_cons_succ]
      refine wpAnyL_pure (i:=9) (oi:=⟨some 102,_,_,_,_,none⟩) (v:=?v9t) rfl (by kernel_rfl) (by kernel_rfl) (by kernel_rfl) (by kernel_rfl) (by kernel_rfl) (fun _ _ _ h=>h) (Or.inl ⟨by rfl,?h9t⟩) (by assumption) ?r9t
      case h9t=>(intro w hSw;clear hSw;go_simp;try with_reducible rfl)
      try simp only [Act.put,List.setIfInBounds_toArray,List.set_cons_zero,List.set_cons_succ]
      refine wpAnyL_pure (i:=10) (oi:=⟨some 103,_,_,_,_,some (9,true)⟩) (v:=undef) rfl (by kernel_rfl) (by kernel_rfl) (by kernel_rfl) (by kernel_rfl) (by kernel_rfl) (fun _ _ _ h=>h) (Or.inr ⟨by rfl,rfl⟩) (by assumption) ?_
      try simp only [Act.put,List.setIfInBounds_toArray,List.set_cons_zero,List.set_cons_succ]
      refine wpAnyL_pure (i:=11) (oi:=⟨some 104,_,_,_,_,some (9,true)⟩) (v:=undef) rfl (by kernel_rfl) (by kernel_rfl) (by kernel_rfl) (by kernel_rfl) (by kernel_rfl) (fun _ _ _ h=>h) (Or.inr ⟨by rfl,rfl⟩) (by assumption) ?_
      try simp only [Act.put,List.setIfInBounds_toArray,List.set_cons_zero,List.set_cons_succ]
      refine wpAnyL_one (i:=12) (o:=⟨some 105,_,_,_,_,some (9,true)⟩) (by kernel_rfl) rfl (fun K hK=>?_);rw [if_neg (Bool.eq_false_iff.1 (by kernel_rfl))];refine hK.out _ _ (by assumption) (fun hHeld=>?_);clear hK K
      try simp only [Act.put,List.setIfInBounds_toArray,List.set_cons_zero,List.set_cons_succ]
      refine wpAnyL_pure (i:=13) (oi:=⟨some 106,_,_,_,_,some (9,true)⟩) (v:=undef) rfl (by kernel_rfl) (by kernel_rfl) (by kernel_rfl) (by kernel_rfl) (by kernel_rfl) (fun _ _ _ h=>h) (Or.inr ⟨by rfl,rfl⟩) (by assumption) ?_
      try simp only [Act.put,List.setIfInBounds_toArray,List.set_cons_zero,List.set_cons_succ]
      refine wpAnyL_pure (i:=14) (oi:=⟨some 107,_,_,_,_,none⟩) (v:=?v14t) rfl (by kernel_rfl) (by kernel_rfl) (by kernel_rfl) (by kernel_rfl) (by kernel_rfl) (fun _ _ _ h=>h) (Or.inl ⟨by rfl,?h14t⟩) (by assumption) ?r14t
      case h14t=>(intro w hSw;clear hSw;go_simp;try with_reducible rfl)
      try simp only [Act.put,List.setIfInBounds_toArray,List.set_cons_zero,List.set_cons_succ]
      refine wpAnyL_one (i:=15) (o:=⟨some 108,_,_,_,_,none⟩) (by kernel_rfl) rfl (fun K hK=>?_)
      go_simp
      have ka:=(kd.trans k7).alloc (.cells #[.bool (false)] 4);have ysa:=HY.out _ ka;have h3K:=H3A.out.keeps ka;refine hK.out _ _ (ysa) (fun hHeld=>?_);clear hK K
      try simp only [Act.put,List.setIfInBounds_toArray,List.set_cons_zero,List.set_cons_succ]
      refine wpAnyL_one (i:=16) (o:=⟨some 109,_,_,_,_,none⟩) (by kernel_rfl) rfl (fun K hK=>?_);refine stepBL rfl (.tmp 97) (.tmp 108) rfl w6.heap.size (.slice p4 k q4) Rk rfl h3K.r4 _ (false) rfl (Bools.lit1 w7 (false)) (by have:=ka.size;have:=h3K.tchd.size;omega) (by have:=HLR.out;omega) ?_;intro v8 w8 hv8 hg8 hr8 hn8;have hb8:=h3K.box4 hg8;have z4:=hb8.cell4;have zf:=hb8.froz 4;have y5:=(h3K.tchd.push hg8 (fun k e=>.inl (hr8 k e))).cellOf (by omega) HDP6.out;obtain ⟨p8,q8,rfl⟩:=hv8.shape0;refine hK.out _ _ (And.intro y5 z4) (fun hHeld=>?_);clear hK K
      try simp only [Act.put,List.setIfInBounds_toArray,List.set_cons_zero,List.set_cons_succ]
      refine wpAnyL_pure (i:=17) (oi:=⟨some 110,_,_,_,_,none⟩) (v:=?v17t) rfl (by kernel_rfl) (by kernel_rfl) (by kernel_rfl) (by kernel_rfl) (by kernel_rfl) (fun _ _ _ h=>h) (Or.inl ⟨by rfl,?h17t⟩) (by assumption) ?r17t
      case h17t=>(intro w hSw;clear hSw;go_simp;try with_reducible rfl)
      try simp only [Act.put,List.setIfInBounds_toArray,List.set_cons_zero,List.set_cons_succ]
      refine wpAnyL_pure (i:=18) (oi:=⟨some 111,_,_,_,_,none⟩) (v:=?v18t) rfl (by kernel_rfl) (by kernel_rfl) (by kernel_rfl) (by kernel_rfl) (by kernel_rfl) (fun _ _ _ h=>h) (Or.inl ⟨by rfl,?h18t⟩) (by assumption) ?r18t
      case h18t=>(intro w hSw;clear hSw;go_simp;try with_reducible rfl)
      try simp only [Act.put,List.setIfInBounds_toArray,List.set_cons_zero,List.set_cons_succ]
      refine wpAnyL_last (o:=⟨none,_,_,_,_,none⟩) (by kernel_rfl) rfl (of_decide_eq_true (by kernel_rfl)) (fun K hK=>?_)
      go_simp
      refine hK.out _ _ ?_;clear hK K
      try simp only [Act.put,List.setIfInBounds_toArray,List.set_cons_zero,List.set_cons_succ]
      refine wpAnyL_done (by kernel_rfl) ?_ _;refine NoPanic.normal ?_;have hP:=h3K.push4 hg8 hv8 hn8;have hcg:=(Touch.grown hg8).cellOf (fun e=>HV4.out e.symm) (ka.cell cT);have hcg2:=(Touch.grown (hb8.grown 4 (.slice p8 (Rk++[false]).length q8))).cellOf (fun e=>by have:gt=r:=(by simpa using e);omega) hcg;rw [show false=rk by rw [HRF.out];simp] at hP hcg2;simp only [List.length_append,List.length_cons,List.length_nil,Nat.zero_add] at hP hcg2;have hP5:=hP.box.cell5;have hPp:=hP.tchd.cellOf (by omega) HDP6.out;have HP:=hid hP;clear hP hb8 hv8 h3K z4 zf y5 hcg ka hg8 hr8 hn8 hHeld ysa;go_wp2_with fail;generalize w8.setCell ⟨r,4,none⟩ (.slice p8 (Rk.length+1) q8)=wB at*;have kdB:=(Keeps.refl wB).drew;have HAW:=hid (fun wz (kz:Keeps wB wz)=>isAllowed_any r L N (nees E N) k hkn wz ((HTY.out wB _ _ _ _ HP.out).keeps kz));rw [nees_alw L E N k hkn] at HAW;have HYB:Hid (∀ wz,Keeps wB wz→wz.cell? ⟨r+1,0,none⟩=some (.pointer (some ⟨r,0,none⟩))∧wz.cell? ⟨r,5,none⟩=some (.slice p7 k q7)∧wz.cell? ⟨gt,0,none⟩=some (.int .i64 k)):=hid (fun wz kz=>⟨kz.cell hPp,kz.cell hP5,kz.cell hcg2⟩);clear hPp hP5 hcg2;generalize alwB L E k=ak at*;refine wp_region_noPanic ?_;refine wp_region_L (L:=12) (S:=(fun w'=>w'.cell? ⟨r+1,0,none⟩=some (.pointer (some ⟨r,0,none⟩))∧w'.cell? ⟨r,5,none⟩=some (.slice p7 k q7)∧w'.cell? ⟨gt,0,none⟩=some (.int .i64 k))) (by kernel_rfl) (HYB.out _ kdB) (fun hHeld=>?_);refine wpAnyL_take (i:=0) (oi:=⟨some 112,_,_,_,_,none⟩) (v:=?v0t2) rfl (by kernel_rfl) (by kernel_rfl) (by kernel_rfl) (by kernel_rfl) (by kernel_rfl) (by kernel_rfl) (fun _ _ _ h=>h) (Or.inl ⟨by rfl,?h0t2⟩) (by assumption) ?r0t2
      case h0t2=>(intro w hSw;(try dsimp only at hSw);go_simp;try with_reducible rfl)
      try simp only [Act.put,List.setIfInBounds_toArray,List.set_cons_zero,List.set_cons_succ]
      refine wpAnyL_take (i:=1) (oi:=⟨some 113,_,_,_,_,none⟩) (v:=?v1t2) rfl (by kernel_rfl) (by kernel_rfl) (by kernel_rfl) (by kernel_rfl) (by kernel_rfl) (by kernel_rfl) (fun _ _ _ h=>h) (Or.inl ⟨by rfl,?h1t2⟩) (by assumption) ?r1t2
      case h1t2=>(intro w hSw;(try dsimp only at hSw);go_simp;try with_reducible rfl)
      try simp only [Act.put,List.setIfInBounds_toArray,List.set_cons_zero,List.set_cons_succ]
      refine wpAnyL_pure (i:=2) (oi:=⟨some 114,_,_,_,_,none⟩) (v:=?v2t2) rfl (by kernel_rfl) (by kernel_rfl) (by kernel_rfl) (by kernel_rfl) (by kernel_rfl) (fun _ _ _ h=>h) (Or.inl ⟨by rfl,?h2t2⟩) (by assumption) ?r2t2
      case h2t2=>(intro w hSw;clear hSw;go_simp;try with_reducible rfl)
      try simp only [Act.put,List.setIfInBounds_toArray,List.set_cons_zero,List.set_cons_succ]
      refine wpAnyL_pure (i:=3) (oi:=⟨some 115,_,_,_,_,none⟩) (v:=?v3t2) rfl (by kernel_rfl) (by kernel_rfl) (by kernel_rfl) (by kernel_rfl) (by kernel_rfl) (fun _ _ _ h=>h) (Or.inl ⟨by rfl,?h3t2⟩) (by assumption) ?r3t2
      case h3t2=>(intro w hSw;clear hSw;go_simp;try with_reducible rfl)
      try simp only [Act.put,List.setIfInBounds_toArray,List.set_cons_zero,List.set_cons_succ]
      refine wpAnyL_take (i:=4) (oi:=⟨some 116,_,_,_,_,none⟩) (v:=?v4t2) rfl (by kernel_rfl) (by kernel_rfl) (by kernel_rfl) (by kernel_rfl) (by kernel_rfl) (by kernel_rfl) (fun _ _ _ h=>h) (Or.inl ⟨by rfl,?h4t2⟩) (by assumption) ?r4t2
      case h4t2=>(intro w hSw;(try dsimp only at hSw);go_simp;try with_reducible rfl)
      try simp only [Act.put,List.setIfInBounds_toArray,List.set_cons_zero,List.set_cons_succ]
      refine wpAnyL_take (i:=5) (oi:=⟨some 117,_,_,_,_,none⟩) (v:=?v5t2) rfl (by kernel_rfl) (by kernel_rfl) (by kernel_rfl) (by kernel_rfl) (by kernel_rfl) (by kernel_rfl) (fun _ _ _ h=>h) (Or.inl ⟨by rfl,?h5t2⟩) (by assumption) ?r5t2
      case h5t2=>(intro w hSw;(try dsimp only at hSw);go_simp;try with_reducible rfl)
      try simp only [Act.put,List.setIfInBounds_toArray,List.set_cons_zero,List.set_cons_succ]
      refine wpAnyL_take (i:=6) (oi:=⟨some 118,_,_,_,_,none⟩) (v:=?v6t2) rfl (by kernel_rfl) (by kernel_rfl) (by kernel_rfl) (by kernel_rfl) (by kernel_rfl) (by kernel_rfl) (fun _ _ _ h=>h) (Or.inl ⟨by rfl,?h6t2⟩) (by assumption) ?r6t2
      case h6t2=>(intro w hSw;(try dsimp only at hSw);go_simp;try with_reducible rfl)
      try simp only [Act.put,List.setIfInBounds_toArray,List.set_cons_zero,List.set_cons_succ]
      refine wpAnyL_one (i:=7) (o:=⟨some 119,_,_,_,_,none⟩) (by kernel_rfl) rfl (fun K hK=>?_)
      go_simp
      go_at_call 176
      refine (HAW.out _ kdB).mono ?_;rintro e w11 ⟨rfl,k11⟩;have ys11:=HYB.out w11 (kdB.trans k11);refine hK.out _ _ (ys11) (fun hHeld=>?_);clear hK K
      try simp only [Act.put,List.setIfInBounds_toArray,List.set_cons_zero,List.set_cons_succ]
      refine wpAnyL_one (i:=8) (o:=⟨some 120,_,_,_,_,none⟩) (by kernel_rfl) rfl (fun K hK=>?_)
      go_simp
      have kb:=(kdB.trans k11).alloc (.cells #[.bool ak] 4);have ysb:=HYB.out _ kb;have h3M:=HP.out.keeps kb;refine hK.out _ _ (ysb) (fun hHeld=>?_);clear hK K
      try simp only [Act.put,List.setIfInBounds_toArray,List.set_cons_zero,List.set_cons_succ]
      refine wpAnyL_one (i:=9) (o:=⟨some 121,_,_,_,_,none⟩) (by kernel_rfl) rfl (fun K hK=>?_);refine stepBL rfl (.tmp 116) (.tmp 120) rfl w6.heap.size (.slice p7 k q7) Ak rfl h3M.r5 _ ak rfl (Bools.lit1 w11 ak) (by have:=kb.size;have:=h3M.tchd.size;omega) (by have:=HLA.out;omega) ?_;intro v12 w12 hv12 hg12 hr12 hn12;have hb12:=h3M.box5 hg12;have z5:=hb12.cell5;have zg:=hb12.froz 5;have y6:=(h3M.tchd.push hg12 (fun k e=>.inl (hr12 k e))).cellOf (by omega) HDP6.out;have yg:=(Touch.grown hg12).cellOf (fun e=>HV5.out e.symm) ysb.2.2;obtain ⟨p12,q12,rfl⟩:=hv12.shape0;refine hK.out _ _ (And.intro y6 (And.intro z5 yg)) (fun hHeld=>?_);clear hK K
      try simp only [Act.put,List.setIfInBounds_toArray,List.set_cons_zero,List.set_cons_succ]
      refine wpAnyL_pure (i:=10) (oi:=⟨some 122,_,_,_,_,none⟩) (v:=?v10t2) rfl (by kernel_rfl) (by kernel_rfl) (by kernel_rfl) (by kernel_rfl) (by kernel_rfl) (fun _ _ _ h=>h) (Or.inl ⟨by rfl,?h10t2⟩) (by assumption) ?r10t2
      case h10t2=>(intro w hSw;clear hSw;go_simp;try with_reducible rfl)
      try simp only [Act.put,List.setIfInBounds_toArray,List.set_cons_zero,List.set_cons_succ]
      refine wpAnyL_pure (i:=11) (oi:=⟨some 123,_,_,_,_,none⟩) (v:=?v11t2) rfl (by kernel_rfl) (by kernel_rfl) (by kernel_rfl) (by kernel_rfl) (by kernel_rfl) (fun _ _ _ h=>h) (Or.inl ⟨by rfl,?h11t2⟩) (by assumption) ?r11t2
      case h11t2=>(intro w hSw;clear hSw;go_simp;try with_reducible rfl)
      try simp only [Act.put,List.setIfInBounds_toArray,List.set_cons_zero,List.set_cons_succ]
      refine wpAnyL_last (o:=⟨none,_,_,_,_,none⟩) (by kernel_rfl) rfl (of_decide_eq_true (by kernel_rfl)) (fun K hK=>?_)
      go_simp
      refine hK.out _ _ ?_;clear hK K
      try simp only [Act.put,List.setIfInBounds_toArray,List.set_cons_zero,List.set_cons_succ]
      refine wpAnyL_done (by kernel_rfl) ?_ _;refine NoPanic.normal ?_;have hQ:=h3M.push5 hg12 hv12 hn12;simp only [List.length_append,List.length_cons,List.length_nil,Nat.zero_add] at hQ;have HQ:=hid hQ;clear hQ hb12 hv12 h3M;go_wp2_with fail;go_roundw
      case rel=>exact ⟨k+1,_,_,by omega,by go_num,by rw [HX4.out,HX5.out];exact HQ.out⟩
      case measure=>simp [intOf];omega
    ·obtain rfl:k=N:=by omega
     have hkn':¬((k:Int)<k):=by omega
     have h1k:0<k:=by rw [HN.out];exact Nat.two_pow_pos _
     obtain ⟨g,cap5,ev,hCg,hgl,hcap1,hcap2⟩:=h3.r5.shape (by rw [hbl5];exact h1k);rw [hbl5] at ev
     cases ev
     have hrg:r≠g:=by have:=HH1.out.box.lt;omega
     have hS:alwL L E k=(List.range k).map (alwB L E):=rfl;have hty:TyE wr r g L k q7 (nees E k):=⟨by rw [HLG.out];exact h3.box.cell0,⟨_,h3.box.cell2,HH1.out.ne.neeT HH1.out.box h3.tchd (by omega) (fun n hn=>by rw [nees_inn n hn];omega) hCg⟩,h3.box.cell3,h3.box.cell5,hrg,hL,fun n hn=>by have:=nees_ix n hn;omega,nees_inn,hN256⟩;have HEL9:=hid (eliminate_any r g L k q7 w6.heap.size (nees E k) (alwL L E k) (liveB L E k) (live_nSur L E k) wr hty h3.r5 (by rw [hS];exact hbl5) (fun t ht hl=>live_alwL L E k t ht hl));have H3:=hid h3;have dpr:=h3.tchd.cellOf (by omega) HDP6.out;have hb4:=hbl4;have HB4:=hid hb4;clear h3 hty hbl4 hbl5 hb4 hS hcap1 hcap2;go_wp2_with fail;refine HEL9.out.mono ?_;rintro e w9 ⟨T,rfl,hI,hself⟩;have hT:T=liveL L E k:=left_row L E k T hI.len (left_live L E k T hI.lv hI.sub hself);have ht9:Touch w6 w9 (fun i=>i=r):=H3.out.tchd.push hI.gr (fun j e=>.inl (by cases e;exact hCg));have dp9:=ht9.cellOf (by omega) HDP6.out;have HT9:=hid ht9;have HTT:=hid hT;have HI9:=hid hI;clear hI hself hT ht9;go_wp2_with fail;go_ret;have hI:=HI9.out;have hTT:=HTT.out;subst hTT;refine ⟨r,rfl,hk06.touch HT9.out (fun i hi=>by omega),⟨hI.ty.tyA hI.own hI.len,⟨_,cell_off hI.gr hrg H3.out.box.cell4,?_⟩,⟨_,cell_off hI.gr hrg H3.out.box.cell1,HP6.out _ HT9.out⟩⟩⟩;exact (H3.out.r4.touch (Touch.grown hI.gr) (fun i e hi=>H3.out.ap i e (by rw [show i=g by simpa using hi];rfl))).bools (by have:=HB4.out;simp;omega)
end Go.Proofs.YtbccmdfdclomiaaGreatDoor
