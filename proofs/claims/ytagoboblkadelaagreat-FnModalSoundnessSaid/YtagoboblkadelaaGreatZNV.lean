import Derived.Test.YtagoboblkadelaaGreatZD31
/- own -/
namespace Go.Proofs.YtagoboblkadelaaGreat
open Go.RowKit
def IS (w2:World) (lg pv:Value):World:=(w2.alloc (.cells #[lg,pv,.slice none 0 0,.int .i64 0,.slice none 0 0,.slice none 0 0] 151)).alloc (.cells #[.pointer (some ⟨w2.heap.size,0,none⟩)] 113)
structure Ik (w2 w3:World) (r:Nat) (lg pv:Value):Prop where
 k2:aa w2 w3
 box:cO w3 r lg pv (.slice none 0 0) (.int .i64 0) (.slice none 0 0) (.slice none 0 0)
 ptr:w3.cell? ⟨r+1,0,none⟩=some (.pointer (some ⟨r,0,none⟩))
 hr:r=w2.heap.size
 hs:w3.heap.size=r+2
theorem Cx (w2:World) (lg pv:Value):Ik w2 (IS w2 lg pv) w2.heap.size lg pv:=by
 unfold IS;have h1:=cO.made w2 lg pv (.slice none 0 0) (.int .i64 0) (.slice none 0 0) (.slice none 0 0);have k2:=((aa.refl w2).alloc (.cells #[lg,pv,.slice none 0 0,.int .i64 0,.slice none 0 0,.slice none 0 0] 151)).alloc (.cells #[.pointer (some ⟨w2.heap.size,0,none⟩)] 113);have h3:=xt (w2.alloc (.cells #[lg,pv,.slice none 0 0,.int .i64 0,.slice none 0 0,.slice none 0 0] 151)) (.pointer (some ⟨w2.heap.size,0,none⟩)) 113;rw[sW] at h3;exact⟨k2,h1.keeps ((aa.refl _).alloc _),h3,rfl,by rw[sW,sW]⟩
theorem Ik.begin {w2 w3:World} {r:Nat} {lg pv:Value} (h:Ik w2 w3 r lg pv) (C N:Nat):Nw1 (w3.setCell ⟨r,3,none⟩ (.int .i64 N)) (w3.setCell ⟨r,3,none⟩ (.int .i64 N)) r C lg pv N (.slice none 0 0) []∧(w3.setCell ⟨r,3,none⟩ (.int .i64 N)).cell? ⟨r+1,0,none⟩=some (.pointer (some ⟨r,0,none⟩))∧aa w2 (w3.setCell ⟨r,3,none⟩ (.int .i64 N))∧(w3.setCell ⟨r,3,none⟩ (.int .i64 N)).heap.size=r+2:=by
 have g:=h.box.grown 3 (.int .i64 N);exact⟨⟨h.box.set3 _,dJ.nil _ _,al.refl _ _⟩,((al.grown g).cellOf qD h.ptr),h.k2.setCell (by rw[h.hr];exact zm _) _,by have:=h.hs;simp[this]⟩
theorem Nw1.base {w3 wr:World} {r C N:Nat} {lg pv v2:Value} {ns:List Nee} (h:Nw1 w3 wr r C lg pv N v2 ns):Nw1 wr wr r C lg pv N v2 ns:=⟨h.box,h.ne,al.refl _ _⟩
set_option maxRecDepth 100000 in
set_option maxHeartbeats 8000000 in
theorem wH (L:Nat) (hL:L<8) (ss tt:List ByteArray) (v u:Value) (w:World) (hv:au w v ss) (hu:au w u tt) (hs:aW ss) (ht:aW tt) (Np:ss.length≤16) (LU:tt.length≤16) (h8:(elF (fmL (ss++tt))).length≤8):
  Calls Tryz.prog 76 #[.string (lgS L),.agg #[v,u]] w fun e w'=>∃ r,e=.returned (.pointer (some ⟨r,0,none⟩))∧aa w w'∧NwR w' r L (elF (fmL (ss++tt))) (2^(elF (fmL (ss++tt))).length) (Aw (elF (fmL (ss++tt))) (fmL ss) (fmL tt) (2^(elF (fmL (ss++tt))).length)) (elT (fmL (ss++tt))):=by
 have kA:=(aa.refl w).alloc (.cells #[v,u] 29);obtain⟨c0,c1⟩:=BoxQ.made w v u 29;have MZ:=hid (gw ss tt v u _ (hv.keeps kA) (hu.keeps kA) hs ht Np LU);have Mg:=hid (fun wz (kz:aa w wz)=>dZ ss hs.1 v wz (hv.keeps kz));have Mi:=hid (fun wz (kz:aa w wz)=>dZ tt ht.1 u wz (hu.keeps kz));have KU:=hid (qQ (fmL (ss++tt)));obtain⟨p,c,rfl,_⟩:=hv.shape;obtain⟨q,c2,rfl,_⟩:=hu.shape;clear hv hu
 have hG:ff (fmL (ss++tt)):=by rw[eN];exact(cZ hs).append (cZ ht)
 have LX:fmL (ss++tt)=fmL ss++fmL tt:=eN ss tt;have Mh:Hid (∀ x∈elF (fmL (ss++tt)),x.enc.length≤2147483648):=hid (fun x hx=>by have:=(xA hG x hx).2;omega);have MY:Hid (∀ i,i<(elF (fmL (ss++tt))).length→fk ((elF (fmL (ss++tt))).getD i .fls)=true):=hid (fun i hi=>xB hG (xQ hi));have LR:Hid (∀ i,i<(elF (fmL (ss++tt))).length→gA ((elF (fmL (ss++tt))).getD i .fls)=true→∀ x∈aC (bH ((elF (fmL (ss++tt))).getD i .fls)),fk x=true→x∈elF (fmL (ss++tt))):=hid (fun i hi hm x hx he=>FT hG (xQ hi) hm hx he);have Nj:Hid (∀ t∈fmL ss,∀ x∈aC t,fk x=true→x∈elF (fmL (ss++tt))):=hid (fun t ht x hx he=>Ds hG (by rw[LX];exact List.mem_append.2 (.inl ht)) hx he);have Nk:Hid (∀ t∈fmL tt,∀ x∈aC t,fk x=true→x∈elF (fmL (ss++tt))):=hid (fun t ht x hx he=>Ds hG (by rw[LX];exact List.mem_append.2 (.inr ht)) hx he)
 have M3:Hid (tot ((fmL ss).map Fm.enc)≤2147483648∧tot ((fmL tt).map Fm.enc)≤2147483648∧(fmL ss).length≤16∧(fmL tt).length≤16):=hid (by
  have h1:=rG (cZ hs);have h2:=rG (cZ ht);rw[ll] at*;rw[ll] at*
  omega)
 clear hG LX hs ht;generalize elF (fmL (ss++tt))=E at*;generalize elT (fmL (ss++tt))=sE at*
 obtain⟨N,hN⟩:∃ N,N=2^E.length:=⟨_,rfl⟩
 have Ng:Hid (wrap64 (2^sE.length)=(N:Int)):=hid (by
  rw[←KU.out,tv _ qB,hN];simp)
 have KZ:N≤256:=by rw[hN];exact qJ h8
 rw[←hN];have HN:=hid hN;clear hN
 have NK:sE.length≤8:=by rw[←KU.out];exact h8
 have M0:Hid (∀ i,i<sE.length→i<E.length):=hid (fun i hi=>by rw[KU.out];exact hi)
 have LS:=hid (fun (i:Nat) (hi:i<E.length) (hm:gA (E.getD i .fls)=true) (k:Nat) (hk:k<N) (r:Nat) (pv v':Value) (wz:World) (hz:Nds wz v' (bH (E.getD i .fls)).enc) (hc:wz.cell? ⟨r,1,none⟩=some pv) (hp:ElL wz pv sE (E.map Fm.enc))=>
  kZ E sE h8 k qB r pv (bH (E.getD i .fls)) v' wz (LR.out i hi hm) hz hc hp)
 generalize MH:lgS L=lg at*;have Mk:=hid MH;clear MH;go_enter Tryz.func76,Tryz.ntmps76;go_wp2_with fail;refine MZ.out.mono ?_;rintro e w2 ⟨pv,rfl,L7,k2⟩;obtain⟨pp,pcap,rfl,Nt,L6,-⟩:=(L7.elL qB (fun x hx=>by obtain⟨y,hy,rfl⟩:=List.mem_map.1 hx;exact Mh.out y hy));unfold maxLen at L6;have Ni:=hid L7;clear L7;have Lt:=Cx w2 (.string lg) (.slice pp sE.length pcap);unfold IS at Lt;go_wp2_with fail;generalize (w2.alloc (.cells #[.string lg,.slice pp sE.length pcap,.slice none 0 0,.int .i64 0,.slice none 0 0,.slice none 0 0] 151)).alloc (.cells #[.pointer (some ⟨w2.heap.size,0,none⟩)] 113)=w3 at*
 have NJ:w.heap.size<w2.heap.size:=by have:=k2.size;simp at this;omega
 generalize MO:w2.heap.size=r at*;have Nz:=hid MO;clear MO;have Lc:=Lt.box;have d1:=Lc.cell1;have d3:=Lc.cell3;have f3:=Lc.froz 3;have dp:=Lt.ptr;have Mn:=hid Lt;clear Lt Lc
 go_region
 rw[Ng.out];obtain⟨MB,MC,MD,Ly⟩:=Mn.out.begin (w3.heap.size) N;have Ld:=(aa.refl (w3.setCell ⟨r,3,none⟩ (.int .i64 (N:Int)))).drew;have Lq:=hid (MB.keeps Ld).base;have LN:=hid (Ld.cell MC);have KV:=MD.trans Ld;have L8:(w3.setCell ⟨r,3,none⟩ (.int .i64 (N:Int))).drew.heap.size=r+2:=Ly;have L9:w3.heap.size=r+2:=Mn.out.hs;rw[L9] at Lq;clear d1 d3 f3 dp MB MC MD Ly Ld;generalize (w3.setCell ⟨r,3,none⟩ (.int .i64 (N:Int))).drew=w4 at*
 have La:Hid (∀ wr,al w4 wr (fun i=>i=r)→ElL wr (.slice pp sE.length pcap) sE (E.map Fm.enc)):=hid (fun wr t=>
  ((Ni.out.keeps KV).touch t (fun i hi=>.inr ⟨_,_,_,_,(by subst hi;exact Lq.out.box),qC,qC⟩)).elL qB (fun x hx=>by obtain⟨y,hy,rfl⟩:=List.mem_map.1 hx;exact Mh.out y hy))
 have Lc:=Lq.out.box;have d1:=Lc.cell1;have dp:=LN.out;clear Lc;rw[←L8] at Lq;have NA:=hid L8;clear L8;go_wp2_with fail;clear d1 dp
 go_loopw [32] (fun i' wr=>∃ (i:Nat) (v2:Value),i≤sE.length∧i'=.int .i64 i∧Nw1 w4 wr r w4.heap.size (.string lg) (.slice pp sE.length pcap) N v2 (neT E N i)) (fun i' _=>sE.length-(intOf i').toNat)
 case atStart=>exact⟨0,_,qB,rfl,Lq.out⟩
 case round=>
  obtain⟨i,v2,hi,rfl,h1⟩:=hrel;obtain⟨p2,q2,rfl⟩:=h1.ne.shape;have MK:=Gr E N i;have dp:=h1.toq.cellOf qB LN.out;have H1:=hid h1
  by_cases L3:i<sE.length
  ·have L4:(i:Int)<sE.length:=qB
   have L1:=M0.out i L3;obtain⟨b5,o5,u5,rfl,e5a,e5b,L5⟩:=(La.out wr h1.toq).getE i L3 L1;obtain⟨b6,o6,n6,c6,rfl,NF,NG,Ns,NH,hc,-⟩:=L5.root;unfold maxLen at Ns;have M9:=hid L5;clear h1 L5;generalize sE[i]=si at*;have kE:=(aa.refl wr).alloc (.cells #[.string si,.slice (some ⟨b6,o6,none⟩) n6 c6] 147);obtain⟨ze0,ze1⟩:=BoxQ.made wr (.string si) (.slice (some ⟨b6,o6,none⟩) n6 c6) 147
   replace hc:=kE.cell hc
   have dpE:=kE.cell dp
   have LI:(wr.alloc (.cells #[.string si,.slice (some ⟨b6,o6,none⟩) n6 c6] 147)).heap.size=wr.heap.size+1:=by simp
   rcases FW (MY.out i L1) with ⟨hm,hk⟩ | ⟨hm,hk,Ld,hx⟩
   ·rw[hk] at hc
    go_wp2_with fail;refine(dG _ _).mono ?_;rintro e w' ⟨rfl,rfl⟩;rw[show ir 0=false from rfl];have MN:=IQ (N:=N) hm;have Nc:=hid MN;clear MN hm;go_wp2_with fail;go_roundw
    case rel=>exact⟨i+1,_,qB,by go_num,by rw[Nc.out];exact H1.out.keeps kE⟩
    case measure=>simp[intOf];omega
   ·obtain⟨x,hx⟩:=hx
    have LJ:=Gs (N:=N) hm;have Le:(E.getD i .fls).kind=(nee E N i).kd:=Ld
    have MI:ir (nee E N i).kd=true:=by rw[←Le];rcases hk with h | h<;>rw[h]<;>rfl
    rw[Le] at hc;have HY:=hid LJ;have HX:=hid hx;have HM:=hid hm;clear LJ hx hm hk Ld Le;generalize MF:(nee E N i).kd=kd at*;have M5:=hid MF;clear MF;go_wp2_with fail;refine(dG _ _).mono ?_;rintro e w' ⟨rfl,rfl⟩;rw[MI];clear MI;have LW:=eG.made (wr.alloc (.cells #[.string si,.slice (some ⟨b6,o6,none⟩) n6 c6] 147)) (.int .i64 i) (.int .i64 kd) (.slice none 0 0);rw[LI] at LW;have kI:=(aa.refl (wr.alloc (.cells #[.string si,.slice (some ⟨b6,o6,none⟩) n6 c6] 147))).alloc (.cells #[.int .i64 i,.int .i64 kd,.slice none 0 0] 153);have Mz:Nw2 (wr.alloc (.cells #[.string si,.slice (some ⟨b6,o6,none⟩) n6 c6] 147)) _ (wr.heap.size+1) (.int .i64 i) (.int .i64 kd) (.slice none 0 0) []:=⟨LW,cl.nil _ _,kI,by rw[LI];exact zm _⟩;have Mm:=hid Mz;have b1:=(H1.out.box.keeps kE).keeps kI;have d3:=b1.cell3;have dpI:=kI.cell dpE;clear LW Mz b1;go_wp2_with fail;have kwE:=Mm.out.kp;clear d3 dpI;have HF:=hid (fun wz (kz:aa wr wz)=>bu _ x (bH (E.getD i .fls)) [] _ wz (M9.out.keeps kz) HX.out);have Nl:=hid (fun wz (kz:aa (wr.alloc (.cells #[.string si,.slice (some ⟨b6,o6,none⟩) n6 c6] 147)) wz)=>H1.out.keeps (kE.trans kz));have Mt:=hid (fun k (hk:k<N) v' wz (hz:Nds wz v' (bH (E.getD i .fls)).enc) (kz:aa wr wz)=>LS.out i L1 HM.out k hk r _ v' wz hz (H1.out.keeps kz).box.cell1 (La.out wz (H1.out.keeps kz).toq))
    have My:∀ k,bV E k (bH (E.getD i .fls))=qe E i k:=fun k=>rfl
    simp only[My] at Mt;clear My;generalize (wr.alloc (.cells #[.string si,.slice (some ⟨b6,o6,none⟩) n6 c6] 147)).alloc (.cells #[.int .i64 i,.int .i64 kd,.slice none 0 0] 153)=wI at*;generalize wr.alloc (.cells #[.string si,.slice (some ⟨b6,o6,none⟩) n6 c6] 147)=wE at*;clear kI kwE;generalize wr=wo at*
    go_loopw [54] (fun k' wq=>∃ (k:Nat) (cv:Value),k≤N∧k'=.int .i64 k∧Nw2 wE wq (wo.heap.size+1) (.int .i64 i) (.int .i64 kd) cv ((List.range k).map (qe E i))) (fun k' _=>N-(intOf k').toNat)
    case atStart=>exact⟨0,_,qB,rfl,Mm.out⟩
    case round=>
     obtain⟨k,cv,hk,rfl,h2⟩:=hrel;have H2:=hid h2
     have Lz:((List.range k).map (qe E i)).length=k:=by simp
     obtain⟨pc,cc,rfl⟩:=h2.row.shape0;have kq:=h2.kp;have xe1:=kq.cell ze1;have xp:=kq.cell dpE;have xb2:=h2.box.cell2;have NM:=kq.size
     by_cases Lm:k<N
     ·have Lf:(k:Int)<N:=qB
      have kd1:=(aa.refl wr).drew;have Nh:=hid (gL (qe E i) k);have Nx:=hid Lz;have M1:=hid (fun wz (kz:aa wr wz)=>HF.out wz (kE.trans (kq.trans kz)));have No:=hid (fun v' wz (hz:Nds wz v' (bH (E.getD i .fls)).enc) (kz:aa wr wz)=>Mt.out k Lm v' wz hz (kE.trans (kq.trans kz)))
      have ND:((List.range k).map (qe E i)).length≤256:=by rw[Lz];omega
      clear h2 Lz;generalize (List.range k).map (qe E i)=bs at*;generalize qe E i k=bk at*;have LK:Hid (∀ wz,aa wr wz→wz.cell? ⟨wo.heap.size+1,2,none⟩=some (.slice pc bs.length cc)∧wz.cell? ⟨r+1,0,none⟩=some (.pointer (some ⟨r,0,none⟩))∧wz.cell? ⟨wo.heap.size,1,none⟩=some (.slice (some ⟨b6,o6,none⟩) n6 c6)):=hid (fun wz kz=>⟨kz.cell xb2,kz.cell xp,kz.cell xe1⟩);go_wp2_with fail;refine wp_region_noPanic ?_;refine fc (L:=11) (S:=(fun w'=>w'.cell? ⟨wo.heap.size+1,2,none⟩=some (.slice pc bs.length cc)∧w'.cell? ⟨r+1,0,none⟩=some (.pointer (some ⟨r,0,none⟩))∧w'.cell? ⟨wo.heap.size,1,none⟩=some (.slice (some ⟨b6,o6,none⟩) n6 c6))) qA (LK.out _ kd1) (fun hHeld=>?_);refine ay (i:=0) (oi:=⟨some 57,_,_,_,_,none⟩) (v:=?v0a) rfl qA qA qA qA qA (fun _ _ _ h=>h) (Or.inl ⟨by rfl,?h0a⟩) (by assumption) ?r0a
      case h0a=>(intro w eE;clear eE;go_simp;try with_reducible rfl)
      try simp only[Act.put,za,zb,zc]
      refine aP (i:=1) (oi:=⟨some 58,_,_,_,_,none⟩) (v:=?v1a) rfl qA qA qA qA qA qA (fun _ _ _ h=>h) (Or.inl ⟨by rfl,?h1a⟩) (by assumption) ?r1a
      case h1a=>(intro w eE;(try dsimp only at eE);go_simp;try with_reducible rfl)
      try simp only[Act.put,za,zb,zc]
      refine aP (i:=2) (oi:=⟨some 59,_,_,_,_,none⟩) (v:=?v2a) rfl qA qA qA qA qA qA (fun _ _ _ h=>h) (Or.inl ⟨by rfl,?h2a⟩) (by assumption) ?r2a
      case h2a=>(intro w eE;(try dsimp only at eE);go_simp;try with_reducible rfl)
      try simp only[Act.put,za,zb,zc]
      refine ay (i:=3) (oi:=⟨some 60,_,_,_,_,none⟩) (v:=?v3a) rfl qA qA qA qA qA (fun _ _ _ h=>h) (Or.inl ⟨by rfl,?h3a⟩) (by assumption) ?r3a
      case h3a=>(intro w eE;clear eE;go_simp;try with_reducible rfl)
      try simp only[Act.put,za,zb,zc]
      refine aP (i:=4) (oi:=⟨some 61,_,_,_,_,none⟩) (v:=?v4a) rfl qA qA qA qA qA qA (fun _ _ _ h=>h) (Or.inl ⟨by rfl,?h4a⟩) (by assumption) ?r4a
      case h4a=>(intro w eE;(try dsimp only at eE);go_simp;try with_reducible rfl)
      try simp only[Act.put,za,zb,zc]
      refine ay (i:=6) (oi:=⟨some 63,_,_,_,_,none⟩) (v:=?v6a) rfl qA qA qA qA qA (fun _ _ _ h=>h) (Or.inl ⟨by rfl,?h6a⟩) (by assumption) ?r6a
      case h6a=>(intro w eE;clear eE;go_simp;try with_reducible rfl)
      try simp only[Act.put,za,zb,zc]
      refine ba (i:=5) (o:=⟨some 62,_,_,_,_,none⟩) qA rfl (fun K hK=>?_)
      go_simp
      go_at_call 120
      refine(M1.out _ kd1).mono ?_;rintro e w6 ⟨v6,rfl,Lo,rfl⟩;obtain⟨p6,m6,q6,rfl⟩:=Lo.shape;refine hK.out _ _ (LK.out _ kd1) (fun hHeld=>?_);clear hK K
      try simp only[Act.put,za,zb,zc]
      refine ba (i:=7) (o:=⟨some 64,_,_,_,_,none⟩) qA rfl (fun K hK=>?_)
      go_simp
      go_at_call 119
      refine(No.out _ _ Lo kd1).mono ?_;rintro e w7 ⟨rfl,k7⟩;refine hK.out _ _ (LK.out _ (kd1.trans k7)) (fun hHeld=>?_);clear hK K
      try simp only[Act.put,za,zb,zc]
      refine ba (i:=8) (o:=⟨some 65,_,_,_,_,none⟩) qA rfl (fun K hK=>?_)
      go_simp
      have k77:=(kd1.trans k7).alloc (.cells #[.bool bk] 4);have Ll:=H2.out.keeps k77;refine hK.out _ _ (LK.out _ k77) (fun hHeld=>?_);clear hK K
      try simp only[Act.put,za,zb,zc]
      refine ba (i:=9) (o:=⟨some 66,_,_,_,_,none⟩) qA rfl (fun K hK=>?_);refine J1 rfl (.tmp 58) (.tmp 65) rfl wE.heap.size (.slice pc bs.length cc) bs rfl Ll.row _ [bk] rfl (cN.lit1 w7 bk) (by have:=k77.size;omega) (by simp;omega) ?_;intro v8 w8 KT H7 Ln;have KR:=Ll.box6 H7;have z2:=KR.cell2;have zf:=KR.froz 2;obtain⟨p8,c8,rfl⟩:=KT.shape0;have k8:=Ll.kp.grown H7 (fun k e=>(Ll.row.len k e).1);refine hK.out _ _ (And.intro z2 (And.intro (k8.cell dpE) (k8.cell ze1))) (fun hHeld=>?_);clear hK K
      try simp only[Act.put,za,zb,zc]
      refine ay (i:=10) (oi:=⟨some 67,_,_,_,_,none⟩) (v:=?v10a) rfl qA qA qA qA qA (fun _ _ _ h=>h) (Or.inl ⟨by rfl,?h10a⟩) (by assumption) ?r10a
      case h10a=>(intro w eE;clear eE;go_simp;try with_reducible rfl)
      try simp only[Act.put,za,zb,zc]
      refine fa (o:=⟨none,_,_,_,_,none⟩) qA rfl (of_decide_eq_true qA) (fun K hK=>?_)
      go_simp
      refine hK.out _ _ ?_;clear hK K
      try simp only[Act.put,za,zb,zc]
      refine eZ qA ?_ _;refine NoPanic.normal ?_;have hP:=Ll.push H7 KT;simp only[ze,zh,List.length_nil,Nat.zero_add] at hP;have HP:=hid hP;clear hP KR KT Ll;go_wp2_with fail;go_roundw
      case rel=>exact⟨k+1,_,qB,by go_num,by rw[Nh.out];exact HP.out⟩
      case measure=>simp[intOf];omega
     ·obtain rfl:k=N:=qB
      have Lf:¬((k:Int)<k):=qB;have LG:(nee E k i).inn=(List.range k).map (qe E i):=rfl;have HI:=hid (Nl.out _ h2.kp);have b1:=HI.out.box;have x2:=b1.cell2;have xb0:=h2.box.cell0;have xb1:=h2.box.cell1;rw[Lz] at xb2 H2 h2;have Nu:w4.heap.size≤wE.heap.size:=zx H1.out.toq.size kE.size
      have M8:Hid (∀ j,(Value.slice p2 (neT E k i).length q2).ownBlock=some j→j≠wo.heap.size+1):=hid (fun j e hj=>by
       obtain⟨us,ho,_⟩:=H1.out.ne;have:=(World.ownsRow.lt ho j e).2
       omega)
      have Mw:Hid (∀ wz,aa wr wz→wz.cell? ⟨r+1,0,none⟩=some (.pointer (some ⟨r,0,none⟩))∧wz.cell? ⟨r,2,none⟩=some (.slice p2 (neT E k i).length q2)∧wz.cell? ⟨wo.heap.size+1,0,none⟩=some (.int .i64 i)∧wz.cell? ⟨wo.heap.size+1,1,none⟩=some (.int .i64 kd)∧wz.cell? ⟨wo.heap.size+1,2,none⟩=some (.slice pc k cc)):=hid (fun wz kz=>⟨kz.cell xp,kz.cell x2,kz.cell xb0,kz.cell xb1,kz.cell xb2⟩);clear Lz x2 xb0 xb1 xb2 b1;go_wp2_with fail;refine wp_region_noPanic ?_;refine fc (L:=10) (S:=(fun w'=>w'.cell? ⟨r+1,0,none⟩=some (.pointer (some ⟨r,0,none⟩))∧w'.cell? ⟨r,2,none⟩=some (.slice p2 (neT E k i).length q2)∧w'.cell? ⟨wo.heap.size+1,0,none⟩=some (.int .i64 i)∧w'.cell? ⟨wo.heap.size+1,1,none⟩=some (.int .i64 kd)∧w'.cell? ⟨wo.heap.size+1,2,none⟩=some (.slice pc k cc))) qA (Mw.out _ (aa.refl wr).drew) (fun hHeld=>?_);generalize MT:wr.drew=wd at*
      have kd1:aa wr wd:=by rw[←MT];exact(aa.refl wr).drew
      clear MT;have ka:=kd1.alloc (.cells #[.int .i64 i,.int .i64 kd,.slice pc k cc] 153)
      have Lx:At (wd.alloc (.cells #[.int .i64 i,.int .i64 kd,.slice pc k cc] 153)) (some ⟨wd.heap.size,0,none⟩) [.int .i64 (nee E k i).ix,.int .i64 (nee E k i).kd,.slice pc k cc]:=by
       rw[M5.out];exact At.lit3v wd _ _ _ _
      have MU:=hid Lx;have Lj:=(h2.row.keeps ka).mono Nu;rw[←LG] at Lj;have LQ:=hid Lj;have Ls:=hid (HI.out.keeps ka);have ys1:=Mw.out _ ka;have MW:=hid (h2.box.keeps ka);have Ma:w4.heap.size≤(wd.alloc (.cells #[.int .i64 i,.int .i64 kd,.slice pc k cc] 153)).heap.size:=Ls.out.toq.size;clear h2 LG Lj Lx;refine aP (i:=0) (oi:=⟨some 69,_,_,_,_,none⟩) (v:=?v0b) rfl qA qA qA qA qA qA (fun _ _ _ h=>h) (Or.inl ⟨by rfl,?h0b⟩) (by assumption) ?r0b
      case h0b=>(intro w eE;(try dsimp only at eE);go_simp;try with_reducible rfl)
      try simp only[Act.put,za,zb,zc]
      refine aP (i:=1) (oi:=⟨some 70,_,_,_,_,none⟩) (v:=?v1b) rfl qA qA qA qA qA qA (fun _ _ _ h=>h) (Or.inl ⟨by rfl,?h1b⟩) (by assumption) ?r1b
      case h1b=>(intro w eE;(try dsimp only at eE);go_simp;try with_reducible rfl)
      try simp only[Act.put,za,zb,zc]
      refine ay (i:=2) (oi:=⟨some 71,_,_,_,_,none⟩) (v:=?v2b) rfl qA qA qA qA qA (fun _ _ _ h=>h) (Or.inl ⟨by rfl,?h2b⟩) (by assumption) ?r2b
      case h2b=>(intro w eE;clear eE;go_simp;try with_reducible rfl)
      try simp only[Act.put,za,zb,zc]
      refine ay (i:=3) (oi:=⟨some 72,_,_,_,_,none⟩) (v:=?v3b) rfl qA qA qA qA qA (fun _ _ _ h=>h) (Or.inl ⟨by rfl,?h3b⟩) (by assumption) ?r3b
      case h3b=>(intro w eE;clear eE;go_simp;try with_reducible rfl)
      try simp only[Act.put,za,zb,zc]
      refine aP (i:=4) (oi:=⟨some 73,_,_,_,_,none⟩) (v:=?v4b) rfl qA qA qA qA qA qA (fun _ _ _ h=>h) (Or.inl ⟨by rfl,?h4b⟩) (by assumption) ?r4b
      case h4b=>(intro w eE;(try dsimp only at eE);go_simp;try with_reducible rfl)
      try simp only[Act.put,za,zb,zc]
      refine aP (i:=5) (oi:=⟨some 74,_,_,_,_,none⟩) (v:=?v5b) rfl qA qA qA qA qA qA (fun _ _ _ h=>h) (Or.inl ⟨by rfl,?h5b⟩) (by assumption) ?r5b
      case h5b=>(intro w eE;(try dsimp only at eE);go_simp;try with_reducible rfl)
      try simp only[Act.put,za,zb,zc]
      refine ba (i:=6) (o:=⟨some 75,_,_,_,_,none⟩) qA rfl (fun K hK=>?_)
      go_simp
      refine hK.out _ _ (ys1) (fun hHeld=>?_);clear hK K
      try simp only[Act.put,za,zb,zc]
      refine ba (i:=7) (o:=⟨some 76,_,_,_,_,none⟩) qA rfl (fun K hK=>?_);refine I3 rfl (.tmp 73) (.tmp 75) rfl w4.heap.size (.slice p2 (neT E k i).length q2) (neT E k i) rfl Ls.out.ne (nee E k i) (.slice pc k cc) LQ.out Ma (some ⟨wd.heap.size,0,none⟩) 1 rfl MU.out qB ?_;intro v9 w9 Md LL MP;have LZ:=Ls.out.box6 LL;have z2:=LZ.cell2;have zf:=LZ.froz 2;have y9:=(Ls.out.toq.push LL (fun k e=>.inl (MP k e))).cellOf qB LN.out;have L0:=MW.out.far (LL) (M8.out);obtain⟨p9,q9,rfl⟩:=Md.shape;refine hK.out _ _ (And.intro y9 (And.intro z2 (And.intro L0.cell0 (And.intro L0.cell1 L0.cell2)))) (fun hHeld=>?_);clear hK K
      try simp only[Act.put,za,zb,zc]
      refine ay (i:=8) (oi:=⟨some 77,_,_,_,_,none⟩) (v:=?v8b) rfl qA qA qA qA qA (fun _ _ _ h=>h) (Or.inl ⟨by rfl,?h8b⟩) (by assumption) ?r8b
      case h8b=>(intro w eE;clear eE;go_simp;try with_reducible rfl)
      try simp only[Act.put,za,zb,zc]
      refine ay (i:=9) (oi:=⟨some 78,_,_,_,_,none⟩) (v:=?v9b) rfl qA qA qA qA qA (fun _ _ _ h=>h) (Or.inl ⟨by rfl,?h9b⟩) (by assumption) ?r9b
      case h9b=>(intro w eE;clear eE;go_simp;try with_reducible rfl)
      try simp only[Act.put,za,zb,zc]
      refine fa (o:=⟨none,_,_,_,_,none⟩) qA rfl (of_decide_eq_true qA) (fun K hK=>?_)
      go_simp
      refine hK.out _ _ ?_;clear hK K
      try simp only[Act.put,za,zb,zc]
      refine eZ qA ?_ _;refine NoPanic.normal ?_;have hP:=Ls.out.push LL MP Md;simp only[ze,zh,List.length_nil,Nat.zero_add] at hP;have HP:=hid hP;clear hP LZ Md;go_wp2_with fail;go_roundw
      case rel=>exact⟨i+1,_,qB,by go_num,by rw[HY.out];exact HP.out⟩
      case measure=>simp[intOf];omega
  ·obtain rfl:i=sE.length:=qB
   have L4:¬((sE.length:Int)<sE.length):=qB
   have MJ:neT E N sE.length=fT E N:=by rw[←KU.out];exact Gq E N
   rw[MJ] at h1 H1;clear MJ MK;have Lg:aa w wr:=(kA.trans (k2.trans KV)).touch h1.toq (fun i hi=>by omega);have c0':wr.cell? ⟨w.heap.size,0,none⟩=some (.slice p ss.length c):=h1.toq.cellOf qB ((k2.trans KV).cell c0);have c1':wr.cell? ⟨w.heap.size,1,none⟩=some (.slice q tt.length c2):=h1.toq.cellOf qB ((k2.trans KV).cell c1);have ys0:=And.intro c0' c1';have M6:=hid (fun wz (kz:aa wr wz)=>Mg.out wz (Lg.trans kz));have M7:=hid (fun wz (kz:aa wr wz)=>Mi.out wz (Lg.trans kz));have kd1:=(aa.refl wr).drew;have ys1:=And.intro (kd1.cell c0') (kd1.cell c1');clear Mg Mi hi L3;go_wp2_with fail
   go_region_held3 (fun w'=>w'.cell? ⟨w.heap.size,0,none⟩=some (.slice p ss.length c)∧w'.cell? ⟨w.heap.size,1,none⟩=some (.slice q tt.length c2)) (first | (with_reducible exact ys0) | (with_reducible exact ys1) | (with_reducible exact ys5) | (with_reducible exact ys6)) (first
    | (go_at_call 39;(with_reducible refine(M6.out _ kd1).mono ?_);rintro e w5 ⟨v5,rfl,Mc,k5⟩;have ys5:=And.intro (k5.cell ys1.1) (k5.cell ys1.2);have k15:=kd1.trans k5)
    | (go_at_call 39;(with_reducible refine(M7.out _ k15).mono ?_);rintro e w6 ⟨v6,rfl,Lo,k6⟩;have ys6:=And.intro (k6.cell ys5.1) (k6.cell ys5.2)))
   obtain⟨p5,n5,c5,rfl⟩:=Mc.shapeV;obtain⟨p6,n6,c6,rfl⟩:=Lo.shapeV;have k16:=k15.trans k6;have Lr:=M3.out;have NI:r<wr.heap.size:=H1.out.box.lt;have Lk:=hid (H1.out.keeps k16).base;have h9:=hid (k16.cell dp);have L2:=Lg.trans k16;have LP:=hid (fun wz (t:al w6 wz (fun i=>i=r))=>La.out wz ((H1.out.toq.keeps k16).trans t));have HA:=hid (fun wz (t:al w6 wz (fun i=>i=r))=>((Mc.keeps k6).touchV t (fun i hi e=>by have:wr.heap.size≤i:=hi;omega)).ndsL (by rw[List.length_map];omega) Lr.1);have HB:=hid (fun wz (t:al w6 wz (fun i=>i=r))=>(Lo.touchV t (fun i hi e=>by have:wr.heap.size≤i:=zx k15.size hi;omega)).ndsL (by rw[List.length_map];omega) Lr.2.1);have MK:=El E N;have Na:=hid (fun wz (t:al w6 wz (fun i=>i=r))=>Lk.out.ne.other Lk.out.box qC qC (fun i hi=>by rw[show i=r from hi];rfl) t);have Nb:=hid (fun wz (t:al w6 wz (fun i=>i=r))=>(Na.out wz t).neeL qB (fun n hn=>by rw[mU n hn];omega));have Mq:=hid (fun (wz:World) v4 v5 R S (h3:Nw3 w6 wz r (.string lg) (.slice pp sE.length pcap) (.slice p2 (fT E N).length q2) N v4 v5 R S)=>(⟨by rw[Mk.out];exact h3.box.cell0,⟨_,h3.box.cell2,Nb.out wz h3.toq⟩,hL,fun n hn=>by have:=Bz n hn;omega,mU,KZ⟩:TyN wz r L N (fT E N)));have LY:=Lk.out.box;have d3:=LY.cell3;have dp6:=h9.out;have Me:Hid (Nw3 w6 w6 r (.string lg) (.slice pp sE.length pcap) (.slice p2 (fT E N).length q2) N (.slice none 0 0) (.slice none 0 0) [] []):=hid ⟨LY,cl.nil _ _,cl.nil _ _,fun k e=>by simp[Value.ownBlock] at e,al.refl _ _⟩;clear Mc Lo k5 k6 kd1 ys0 ys1 ys5 ys6 k15 LY h1;generalize wr=wl at*;go_wp2_with fail;clear d3 dp6
   go_loopw [90] (fun k' wr=>∃ (k:Nat) (v4 v5:Value),k≤N∧k'=.int .i64 k∧Nw3 w6 wr r (.string lg) (.slice pp sE.length pcap) (.slice p2 (fT E N).length q2) N v4 v5 ((List.range k).map (mj E (fmL ss) (fmL tt))) ((List.range k).map (jW L E))) (fun k' _=>N-(intOf k').toNat)
   case atStart=>exact⟨0,_,_,qB,rfl,Me.out⟩
   case round=>
    obtain⟨k,v4,v5,hk,rfl,h3⟩:=hrel;clear Me
    have KS:((List.range k).map (mj E (fmL ss) (fmL tt))).length=k:=by simp
    have x9:((List.range k).map (jW L E)).length=k:=by simp
    obtain⟨p4,q4,rfl⟩:=h3.r4.shape0;obtain⟨p7,q7,rfl⟩:=h3.r5.shape0;rw[KS,x9] at h3
    by_cases Lm:k<N
    ·have Lf:(k:Int)<N:=qB
     have dpr:=h3.toq.cellOf qB h9.out;have kA3:=(aa.refl wr).alloc (.cells #[.int .i64 k] 2)
     have cT:(wr.alloc (.cells #[.int .i64 k] 2)).cell? ⟨wr.heap.size,0,none⟩=some (.int .i64 k):=by simp
     have LV:=h3.keeps kA3;have dpA:=kA3.cell dpr;have xA4:=LV.box.cell4;have NL:w6.heap.size≤wr.heap.size:=h3.toq.size;have Mr:Hid ((Value.slice p4 k q4).ownBlock≠some wr.heap.size):=hid (fun e=>by have:=(h3.r4.len _ e).2;omega);have Ms:Hid ((Value.slice p7 k q7).ownBlock≠some wr.heap.size):=hid (fun e=>by have:=(h3.r5.len _ e).2;omega);have LM:r<wr.heap.size:=h3.box.lt;have KY:=hid LV;have Mf:=hid (fun wz (kz:aa (wr.alloc (.cells #[.int .i64 k] 2)) wz)=>wF E (fmL ss) sE h8 k qB r (r+1) wr.heap.size _ _ wz Nj.out (HA.out wz (KY.out.toq.keeps kz)) (kz.cell KY.out.box.cell1) (LP.out wz (KY.out.toq.keeps kz)) (kz.cell dpA) (kz.cell cT));have MX:=hid (fun wz (kz:aa (wr.alloc (.cells #[.int .i64 k] 2)) wz)=>wG E (fmL tt) sE h8 k qB r (r+1) wr.heap.size _ _ wz Nk.out (HB.out wz (KY.out.toq.keeps kz)) (kz.cell KY.out.box.cell1) (LP.out wz (KY.out.toq.keeps kz)) (kz.cell dpA) (kz.cell cT));have Mo:Hid (mj E (fmL ss) (fmL tt) k=(!((fmL ss).any fun t=>!bV E k t)&&!((fmL tt).any fun t=>bV E k t))):=hid (by unfold mj;rw[mr,Bool.not_not]);have Mu:=hid (gL (mj E (fmL ss) (fmL tt)) k);have Mv:=hid (gL (jW L E) k);clear h3 LV;generalize ((fmL ss).any fun t=>!bV E k t)=b1 at*;generalize ((fmL tt).any fun t=>bV E k t)=b2 at*;generalize mj E (fmL ss) (fmL tt) k=rk at*;generalize (List.range k).map (mj E (fmL ss) (fmL tt))=Rk at*;go_wp2_with fail
     have Nv:(wr.alloc (.cells #[.int .i64 k] 2)).heap.size=wr.heap.size+1:=by simp
     generalize MS:wr.alloc (.cells #[.int .i64 k] 2)=wA at*;have NB:=hid MS;clear MS;generalize ME:wr.heap.size=gt at*;have Ny:=hid ME;clear ME;have kd:=(aa.refl wA).drew;clear dpr;generalize MA:(List.range k).map (jW L E)=Ak at*;have Nw:=hid MA;clear MA;have MG:Rk.length=k:=KS;have Mj:Hid (Ak.length=k):=hid x9;clear x9;have Ml:=hid MG;clear KS MG;have HY:Hid (∀ wz,aa wA wz→wz.cell? ⟨r+1,0,none⟩=some (.pointer (some ⟨r,0,none⟩))∧wz.cell? ⟨r,4,none⟩=some (.slice p4 k q4)):=hid (fun wz kz=>⟨kz.cell dpA,kz.cell xA4⟩)
     cases b1
     ·refine wp_region_noPanic ?_
      refine fc (L:=19) (S:=(fun w'=>w'.cell? ⟨r+1,0,none⟩=some (.pointer (some ⟨r,0,none⟩))∧w'.cell? ⟨r,4,none⟩=some (.slice p4 k q4))) qA (HY.out _ kd) (fun hHeld=>?_);refine aP (i:=0) (oi:=⟨some 93,_,_,_,_,none⟩) (v:=?v0f) rfl qA qA qA qA qA qA (fun _ _ _ h=>h) (Or.inl ⟨by rfl,?h0f⟩) (by assumption) ?r0f
      case h0f=>(intro w eE;(try dsimp only at eE);go_simp;try with_reducible rfl)
      try simp only[Act.put,za,zb,zc]
      refine aP (i:=1) (oi:=⟨some 94,_,_,_,_,none⟩) (v:=?v1f) rfl qA qA qA qA qA qA (fun _ _ _ h=>h) (Or.inl ⟨by rfl,?h1f⟩) (by assumption) ?r1f
      case h1f=>(intro w eE;(try dsimp only at eE);go_simp;try with_reducible rfl)
      try simp only[Act.put,za,zb,zc]
      refine ay (i:=2) (oi:=⟨some 95,_,_,_,_,none⟩) (v:=?v2f) rfl qA qA qA qA qA (fun _ _ _ h=>h) (Or.inl ⟨by rfl,?h2f⟩) (by assumption) ?r2f
      case h2f=>(intro w eE;clear eE;go_simp;try with_reducible rfl)
      try simp only[Act.put,za,zb,zc]
      refine ay (i:=3) (oi:=⟨some 96,_,_,_,_,none⟩) (v:=?v3f) rfl qA qA qA qA qA (fun _ _ _ h=>h) (Or.inl ⟨by rfl,?h3f⟩) (by assumption) ?r3f
      case h3f=>(intro w eE;clear eE;go_simp;try with_reducible rfl)
      try simp only[Act.put,za,zb,zc]
      refine aP (i:=4) (oi:=⟨some 97,_,_,_,_,none⟩) (v:=?v4f) rfl qA qA qA qA qA qA (fun _ _ _ h=>h) (Or.inl ⟨by rfl,?h4f⟩) (by assumption) ?r4f
      case h4f=>(intro w eE;(try dsimp only at eE);go_simp;try with_reducible rfl)
      try simp only[Act.put,za,zb,zc]
      refine ay (i:=5) (oi:=⟨some 98,_,_,_,_,none⟩) (v:=?v5f) rfl qA qA qA qA qA (fun _ _ _ h=>h) (Or.inl ⟨by rfl,?h5f⟩) (by assumption) ?r5f
      case h5f=>(intro w eE;clear eE;go_simp;try with_reducible rfl)
      try simp only[Act.put,za,zb,zc]
      refine ay (i:=6) (oi:=⟨some 99,_,_,_,_,none⟩) (v:=?v6f) rfl qA qA qA qA qA (fun _ _ _ h=>h) (Or.inl ⟨by rfl,?h6f⟩) (by assumption) ?r6f
      case h6f=>(intro w eE;clear eE;go_simp;try with_reducible rfl)
      try simp only[Act.put,za,zb,zc]
      refine ba (i:=7) (o:=⟨some 100,_,_,_,_,none⟩) qA rfl (fun K hK=>?_)
      go_simp
      go_at_call 121
      refine(Mf.out _ kd).mono ?_;rintro e w7 ⟨rfl,k7⟩;have ys7:=HY.out w7 (kd.trans k7);refine hK.out _ _ (ys7) (fun hHeld=>?_);clear hK K
      try simp only[Act.put,za,zb,zc]
      refine ay (i:=8) (oi:=⟨some 101,_,_,_,_,none⟩) (v:=?v8f) rfl qA qA qA qA qA (fun _ _ _ h=>h) (Or.inl ⟨by rfl,?h8f⟩) (by assumption) ?r8f
      case h8f=>(intro w eE;clear eE;go_simp;try with_reducible rfl)
      try simp only[Act.put,za,zb,zc]
      refine ay (i:=9) (oi:=⟨some 102,_,_,_,_,none⟩) (v:=?v9f) rfl qA qA qA qA qA (fun _ _ _ h=>h) (Or.inl ⟨by rfl,?h9f⟩) (by assumption) ?r9f
      case h9f=>(intro w eE;clear eE;go_simp;try with_reducible rfl)
      try simp only[Act.put,za,zb,zc]
      refine ay (i:=10) (oi:=⟨some 103,_,_,_,_,some (9,true)⟩) (v:=?v10f) rfl qA qA qA qA qA (fun _ _ _ h=>h) (Or.inl ⟨by rfl,?h10f⟩) (by assumption) ?r10f
      case h10f=>(intro w eE;clear eE;go_simp;try with_reducible rfl)
      try simp only[Act.put,za,zb,zc]
      refine ay (i:=11) (oi:=⟨some 104,_,_,_,_,some (9,true)⟩) (v:=?v11f) rfl qA qA qA qA qA (fun _ _ _ h=>h) (Or.inl ⟨by rfl,?h11f⟩) (by assumption) ?r11f
      case h11f=>(intro w eE;clear eE;go_simp;try with_reducible rfl)
      try simp only[Act.put,za,zb,zc]
      refine ba (i:=12) (o:=⟨some 105,_,_,_,_,some (9,true)⟩) qA rfl (fun K hK=>?_);rw[if_pos qA]
      go_simp
      go_at_call 121
      refine(MX.out _ (kd.trans k7)).mono ?_;rintro e w9 ⟨rfl,k9⟩;have ys9:=HY.out w9 ((kd.trans k7).trans k9);refine hK.out _ _ (ys9) (fun hHeld=>?_);clear hK K
      try simp only[Act.put,za,zb,zc]
      refine ay (i:=13) (oi:=⟨some 106,_,_,_,_,some (9,true)⟩) (v:=?v13f) rfl qA qA qA qA qA (fun _ _ _ h=>h) (Or.inl ⟨by rfl,?h13f⟩) (by assumption) ?r13f
      case h13f=>(intro w eE;clear eE;go_simp;try with_reducible rfl)
      try simp only[Act.put,za,zb,zc]
      refine ay (i:=14) (oi:=⟨some 107,_,_,_,_,none⟩) (v:=?v14f) rfl qA qA qA qA qA (fun _ _ _ h=>h) (Or.inl ⟨by rfl,?h14f⟩) (by assumption) ?r14f
      case h14f=>(intro w eE;clear eE;go_simp;try with_reducible rfl)
      try simp only[Act.put,za,zb,zc]
      refine ba (i:=15) (o:=⟨some 108,_,_,_,_,none⟩) qA rfl (fun K hK=>?_)
      go_simp
      have ka:=((kd.trans k7).trans k9).alloc (.cells #[.bool (!b2)] 4);have ysa:=HY.out _ ka;have H9:=KY.out.keeps ka;refine hK.out _ _ (ysa) (fun hHeld=>?_);clear hK K
      try simp only[Act.put,za,zb,zc]
      refine ba (i:=16) (o:=⟨some 109,_,_,_,_,none⟩) qA rfl (fun K hK=>?_);refine wS rfl (.tmp 97) (.tmp 108) rfl w6.heap.size (.slice p4 k q4) Rk rfl H9.r4 _ (!b2) rfl (cN.lit1 w9 (!b2)) (by have:=ka.size;have:=H9.toq.size;omega) (by have:=Ml.out;omega) ?_;intro v8 w8 KT H7 Ln LH;have KR:=H9.box4 H7;have z4:=KR.cell4;have zf:=KR.froz 4;have y5:=(H9.toq.push H7 (fun k e=>.inl (Ln k e))).cellOf qB h9.out;obtain⟨p8,q8,rfl⟩:=KT.shape0;refine hK.out _ _ (And.intro y5 z4) (fun hHeld=>?_);clear hK K
      try simp only[Act.put,za,zb,zc]
      refine ay (i:=17) (oi:=⟨some 110,_,_,_,_,none⟩) (v:=?v17f) rfl qA qA qA qA qA (fun _ _ _ h=>h) (Or.inl ⟨by rfl,?h17f⟩) (by assumption) ?r17f
      case h17f=>(intro w eE;clear eE;go_simp;try with_reducible rfl)
      try simp only[Act.put,za,zb,zc]
      refine ay (i:=18) (oi:=⟨some 111,_,_,_,_,none⟩) (v:=?v18f) rfl qA qA qA qA qA (fun _ _ _ h=>h) (Or.inl ⟨by rfl,?h18f⟩) (by assumption) ?r18f
      case h18f=>(intro w eE;clear eE;go_simp;try with_reducible rfl)
      try simp only[Act.put,za,zb,zc]
      refine fa (o:=⟨none,_,_,_,_,none⟩) qA rfl (of_decide_eq_true qA) (fun K hK=>?_)
      go_simp
      refine hK.out _ _ ?_;clear hK K
      try simp only[Act.put,za,zb,zc]
      refine eZ qA ?_ _;refine NoPanic.normal ?_;have hP:=H9.push4 H7 KT LH;have LF:=(al.grown H7).cellOf (fun e=>Mr.out e.symm) (ka.cell cT);have x6:=(al.grown (KR.grown 4 (.slice p8 (Rk++[(!b2)]).length q8))).cellOf (fun e=>by have:gt=r:=(by simpa using e);omega) LF;rw[show(!b2)=rk by rw[Mo.out];simp] at hP x6;simp only[ze,zh,List.length_nil,Nat.zero_add] at hP x6;have Lu:=hP.box.cell5;have Lw:=hP.toq.cellOf qB h9.out;have HP:=hid hP;clear hP KR KT H9 z4 zf y5 LF ka H7 Ln LH hHeld ysa;go_wp2_with fail;generalize w8.setCell ⟨r,4,none⟩ (.slice p8 (Rk.length+1) q8)=wB at*;have kdB:=(aa.refl wB).drew;have Lp:=hid (fun wz (kz:aa wB wz)=>lW r L N (fT E N) k Lm wz ((Mq.out wB _ _ _ _ HP.out).keeps kz));rw[yz L E N k Lm] at Lp;have Lb:Hid (∀ wz,aa wB wz→wz.cell? ⟨r+1,0,none⟩=some (.pointer (some ⟨r,0,none⟩))∧wz.cell? ⟨r,5,none⟩=some (.slice p7 k q7)∧wz.cell? ⟨gt,0,none⟩=some (.int .i64 k)):=hid (fun wz kz=>⟨kz.cell Lw,kz.cell Lu,kz.cell x6⟩);clear Lw Lu x6;generalize jW L E k=ak at*;refine wp_region_noPanic ?_;refine fc (L:=12) (S:=(fun w'=>w'.cell? ⟨r+1,0,none⟩=some (.pointer (some ⟨r,0,none⟩))∧w'.cell? ⟨r,5,none⟩=some (.slice p7 k q7)∧w'.cell? ⟨gt,0,none⟩=some (.int .i64 k))) qA (Lb.out _ kdB) (fun hHeld=>?_);refine aP (i:=0) (oi:=⟨some 112,_,_,_,_,none⟩) (v:=?v0f2) rfl qA qA qA qA qA qA (fun _ _ _ h=>h) (Or.inl ⟨by rfl,?h0f2⟩) (by assumption) ?r0f2
      case h0f2=>(intro w eE;(try dsimp only at eE);go_simp;try with_reducible rfl)
      try simp only[Act.put,za,zb,zc]
      refine aP (i:=1) (oi:=⟨some 113,_,_,_,_,none⟩) (v:=?v1f2) rfl qA qA qA qA qA qA (fun _ _ _ h=>h) (Or.inl ⟨by rfl,?h1f2⟩) (by assumption) ?r1f2
      case h1f2=>(intro w eE;(try dsimp only at eE);go_simp;try with_reducible rfl)
      try simp only[Act.put,za,zb,zc]
      refine ay (i:=2) (oi:=⟨some 114,_,_,_,_,none⟩) (v:=?v2f2) rfl qA qA qA qA qA (fun _ _ _ h=>h) (Or.inl ⟨by rfl,?h2f2⟩) (by assumption) ?r2f2
      case h2f2=>(intro w eE;clear eE;go_simp;try with_reducible rfl)
      try simp only[Act.put,za,zb,zc]
      refine ay (i:=3) (oi:=⟨some 115,_,_,_,_,none⟩) (v:=?v3f2) rfl qA qA qA qA qA (fun _ _ _ h=>h) (Or.inl ⟨by rfl,?h3f2⟩) (by assumption) ?r3f2
      case h3f2=>(intro w eE;clear eE;go_simp;try with_reducible rfl)
      try simp only[Act.put,za,zb,zc]
      refine aP (i:=4) (oi:=⟨some 116,_,_,_,_,none⟩) (v:=?v4f2) rfl qA qA qA qA qA qA (fun _ _ _ h=>h) (Or.inl ⟨by rfl,?h4f2⟩) (by assumption) ?r4f2
      case h4f2=>(intro w eE;(try dsimp only at eE);go_simp;try with_reducible rfl)
      try simp only[Act.put,za,zb,zc]
      refine aP (i:=5) (oi:=⟨some 117,_,_,_,_,none⟩) (v:=?v5f2) rfl qA qA qA qA qA qA (fun _ _ _ h=>h) (Or.inl ⟨by rfl,?h5f2⟩) (by assumption) ?r5f2
      case h5f2=>(intro w eE;(try dsimp only at eE);go_simp;try with_reducible rfl)
      try simp only[Act.put,za,zb,zc]
      refine aP (i:=6) (oi:=⟨some 118,_,_,_,_,none⟩) (v:=?v6f2) rfl qA qA qA qA qA qA (fun _ _ _ h=>h) (Or.inl ⟨by rfl,?h6f2⟩) (by assumption) ?r6f2
      case h6f2=>(intro w eE;(try dsimp only at eE);go_simp;try with_reducible rfl)
      try simp only[Act.put,za,zb,zc]
      refine ba (i:=7) (o:=⟨some 119,_,_,_,_,none⟩) qA rfl (fun K hK=>?_)
      go_simp
      go_at_call 124
      refine(Lp.out _ kdB).mono ?_;rintro e w11 ⟨rfl,k11⟩;have ys11:=Lb.out w11 (kdB.trans k11);refine hK.out _ _ (ys11) (fun hHeld=>?_);clear hK K
      try simp only[Act.put,za,zb,zc]
      refine ba (i:=8) (o:=⟨some 120,_,_,_,_,none⟩) qA rfl (fun K hK=>?_)
      go_simp
      have kb:=(kdB.trans k11).alloc (.cells #[.bool ak] 4);have ysb:=Lb.out _ kb;have KP:=HP.out.keeps kb;refine hK.out _ _ (ysb) (fun hHeld=>?_);clear hK K
      try simp only[Act.put,za,zb,zc]
      refine ba (i:=9) (o:=⟨some 121,_,_,_,_,none⟩) qA rfl (fun K hK=>?_);refine wS rfl (.tmp 116) (.tmp 120) rfl w6.heap.size (.slice p7 k q7) Ak rfl KP.r5 _ ak rfl (cN.lit1 w11 ak) (by have:=kb.size;have:=KP.toq.size;omega) (by have:=Mj.out;omega) ?_;intro v12 w12 H8 x7 Li Lh;have x8:=KP.box5 x7;have z5:=x8.cell5;have zg:=x8.froz 5;have y6:=(KP.toq.push x7 (fun k e=>.inl (Li k e))).cellOf qB h9.out;have yg:=(al.grown x7).cellOf (fun e=>Ms.out e.symm) ysb.2.2;obtain⟨p12,q12,rfl⟩:=H8.shape0;refine hK.out _ _ (And.intro y6 (And.intro z5 yg)) (fun hHeld=>?_);clear hK K
      try simp only[Act.put,za,zb,zc]
      refine ay (i:=10) (oi:=⟨some 122,_,_,_,_,none⟩) (v:=?v10f2) rfl qA qA qA qA qA (fun _ _ _ h=>h) (Or.inl ⟨by rfl,?h10f2⟩) (by assumption) ?r10f2
      case h10f2=>(intro w eE;clear eE;go_simp;try with_reducible rfl)
      try simp only[Act.put,za,zb,zc]
      refine ay (i:=11) (oi:=⟨some 123,_,_,_,_,none⟩) (v:=?v11f2) rfl qA qA qA qA qA (fun _ _ _ h=>h) (Or.inl ⟨by rfl,?h11f2⟩) (by assumption) ?r11f2
      case h11f2=>(intro w eE;clear eE;go_simp;try with_reducible rfl)
      try simp only[Act.put,za,zb,zc]
      refine fa (o:=⟨none,_,_,_,_,none⟩) qA rfl (of_decide_eq_true qA) (fun K hK=>?_)
      go_simp
      refine hK.out _ _ ?_;clear hK K
      try simp only[Act.put,za,zb,zc]
      refine eZ qA ?_ _;refine NoPanic.normal ?_;have hQ:=KP.push5 x7 H8 Lh;simp only[ze,zh,List.length_nil,Nat.zero_add] at hQ;have HQ:=hid hQ;clear hQ x8 H8 KP;go_wp2_with fail;go_roundw
      case rel=>exact⟨k+1,_,_,qB,by go_num,by rw[Mu.out,Mv.out];exact HQ.out⟩
      case measure=>simp[intOf];omega
     ·refine wp_region_noPanic ?_
      refine fc (L:=19) (S:=(fun w'=>w'.cell? ⟨r+1,0,none⟩=some (.pointer (some ⟨r,0,none⟩))∧w'.cell? ⟨r,4,none⟩=some (.slice p4 k q4))) qA (HY.out _ kd) (fun hHeld=>?_);refine aP (i:=0) (oi:=⟨some 93,_,_,_,_,none⟩) (v:=?v0t) rfl qA qA qA qA qA qA (fun _ _ _ h=>h) (Or.inl ⟨by rfl,?h0t⟩) (by assumption) ?r0t
      case h0t=>(intro w eE;(try dsimp only at eE);go_simp;try with_reducible rfl)
      try simp only[Act.put,za,zb,zc]
      refine aP (i:=1) (oi:=⟨some 94,_,_,_,_,none⟩) (v:=?v1t) rfl qA qA qA qA qA qA (fun _ _ _ h=>h) (Or.inl ⟨by rfl,?h1t⟩) (by assumption) ?r1t
      case h1t=>(intro w eE;(try dsimp only at eE);go_simp;try with_reducible rfl)
      try simp only[Act.put,za,zb,zc]
      refine ay (i:=2) (oi:=⟨some 95,_,_,_,_,none⟩) (v:=?v2t) rfl qA qA qA qA qA (fun _ _ _ h=>h) (Or.inl ⟨by rfl,?h2t⟩) (by assumption) ?r2t
      case h2t=>(intro w eE;clear eE;go_simp;try with_reducible rfl)
      try simp only[Act.put,za,zb,zc]
      refine ay (i:=3) (oi:=⟨some 96,_,_,_,_,none⟩) (v:=?v3t) rfl qA qA qA qA qA (fun _ _ _ h=>h) (Or.inl ⟨by rfl,?h3t⟩) (by assumption) ?r3t
      case h3t=>(intro w eE;clear eE;go_simp;try with_reducible rfl)
      try simp only[Act.put,za,zb,zc]
      refine aP (i:=4) (oi:=⟨some 97,_,_,_,_,none⟩) (v:=?v4t) rfl qA qA qA qA qA qA (fun _ _ _ h=>h) (Or.inl ⟨by rfl,?h4t⟩) (by assumption) ?r4t
      case h4t=>(intro w eE;(try dsimp only at eE);go_simp;try with_reducible rfl)
      try simp only[Act.put,za,zb,zc]
      refine ay (i:=5) (oi:=⟨some 98,_,_,_,_,none⟩) (v:=?v5t) rfl qA qA qA qA qA (fun _ _ _ h=>h) (Or.inl ⟨by rfl,?h5t⟩) (by assumption) ?r5t
      case h5t=>(intro w eE;clear eE;go_simp;try with_reducible rfl)
      try simp only[Act.put,za,zb,zc]
      refine ay (i:=6) (oi:=⟨some 99,_,_,_,_,none⟩) (v:=?v6t) rfl qA qA qA qA qA (fun _ _ _ h=>h) (Or.inl ⟨by rfl,?h6t⟩) (by assumption) ?r6t
      case h6t=>(intro w eE;clear eE;go_simp;try with_reducible rfl)
      try simp only[Act.put,za,zb,zc]
      refine ba (i:=7) (o:=⟨some 100,_,_,_,_,none⟩) qA rfl (fun K hK=>?_)
      go_simp
      go_at_call 121
      refine(Mf.out _ kd).mono ?_;rintro e w7 ⟨rfl,k7⟩;have ys7:=HY.out w7 (kd.trans k7);refine hK.out _ _ (ys7) (fun hHeld=>?_);clear hK K
      try simp only[Act.put,za,zb,zc]
      refine ay (i:=8) (oi:=⟨some 101,_,_,_,_,none⟩) (v:=?v8t) rfl qA qA qA qA qA (fun _ _ _ h=>h) (Or.inl ⟨by rfl,?h8t⟩) (by assumption) ?r8t
      case h8t=>(intro w eE;clear eE;go_simp;try with_reducible rfl)
      try simp only[Act.put,za,zb,zc]
      refine ay (i:=9) (oi:=⟨some 102,_,_,_,_,none⟩) (v:=?v9t) rfl qA qA qA qA qA (fun _ _ _ h=>h) (Or.inl ⟨by rfl,?h9t⟩) (by assumption) ?r9t
      case h9t=>(intro w eE;clear eE;go_simp;try with_reducible rfl)
      try simp only[Act.put,za,zb,zc]
      refine ay (i:=10) (oi:=⟨some 103,_,_,_,_,some (9,true)⟩) (v:=undef) rfl qA qA qA qA qA (fun _ _ _ h=>h) (Or.inr ⟨by rfl,rfl⟩) (by assumption) ?_
      try simp only[Act.put,za,zb,zc]
      refine ay (i:=11) (oi:=⟨some 104,_,_,_,_,some (9,true)⟩) (v:=undef) rfl qA qA qA qA qA (fun _ _ _ h=>h) (Or.inr ⟨by rfl,rfl⟩) (by assumption) ?_
      try simp only[Act.put,za,zb,zc]
      refine ba (i:=12) (o:=⟨some 105,_,_,_,_,some (9,true)⟩) qA rfl (fun K hK=>?_);rw[if_neg (Bool.eq_false_iff.1 qA)];refine hK.out _ _ (by assumption) (fun hHeld=>?_);clear hK K
      try simp only[Act.put,za,zb,zc]
      refine ay (i:=13) (oi:=⟨some 106,_,_,_,_,some (9,true)⟩) (v:=undef) rfl qA qA qA qA qA (fun _ _ _ h=>h) (Or.inr ⟨by rfl,rfl⟩) (by assumption) ?_
      try simp only[Act.put,za,zb,zc]
      refine ay (i:=14) (oi:=⟨some 107,_,_,_,_,none⟩) (v:=?v14t) rfl qA qA qA qA qA (fun _ _ _ h=>h) (Or.inl ⟨by rfl,?h14t⟩) (by assumption) ?r14t
      case h14t=>(intro w eE;clear eE;go_simp;try with_reducible rfl)
      try simp only[Act.put,za,zb,zc]
      refine ba (i:=15) (o:=⟨some 108,_,_,_,_,none⟩) qA rfl (fun K hK=>?_)
      go_simp
      have ka:=(kd.trans k7).alloc (.cells #[.bool (false)] 4);have ysa:=HY.out _ ka;have H9:=KY.out.keeps ka;refine hK.out _ _ (ysa) (fun hHeld=>?_);clear hK K
      try simp only[Act.put,za,zb,zc]
      refine ba (i:=16) (o:=⟨some 109,_,_,_,_,none⟩) qA rfl (fun K hK=>?_);refine wS rfl (.tmp 97) (.tmp 108) rfl w6.heap.size (.slice p4 k q4) Rk rfl H9.r4 _ (false) rfl (cN.lit1 w7 (false)) (by have:=ka.size;have:=H9.toq.size;omega) (by have:=Ml.out;omega) ?_;intro v8 w8 KT H7 Ln LH;have KR:=H9.box4 H7;have z4:=KR.cell4;have zf:=KR.froz 4;have y5:=(H9.toq.push H7 (fun k e=>.inl (Ln k e))).cellOf qB h9.out;obtain⟨p8,q8,rfl⟩:=KT.shape0;refine hK.out _ _ (And.intro y5 z4) (fun hHeld=>?_);clear hK K
      try simp only[Act.put,za,zb,zc]
      refine ay (i:=17) (oi:=⟨some 110,_,_,_,_,none⟩) (v:=?v17t) rfl qA qA qA qA qA (fun _ _ _ h=>h) (Or.inl ⟨by rfl,?h17t⟩) (by assumption) ?r17t
      case h17t=>(intro w eE;clear eE;go_simp;try with_reducible rfl)
      try simp only[Act.put,za,zb,zc]
      refine ay (i:=18) (oi:=⟨some 111,_,_,_,_,none⟩) (v:=?v18t) rfl qA qA qA qA qA (fun _ _ _ h=>h) (Or.inl ⟨by rfl,?h18t⟩) (by assumption) ?r18t
      case h18t=>(intro w eE;clear eE;go_simp;try with_reducible rfl)
      try simp only[Act.put,za,zb,zc]
      refine fa (o:=⟨none,_,_,_,_,none⟩) qA rfl (of_decide_eq_true qA) (fun K hK=>?_)
      go_simp
      refine hK.out _ _ ?_;clear hK K
      try simp only[Act.put,za,zb,zc]
      refine eZ qA ?_ _;refine NoPanic.normal ?_;have hP:=H9.push4 H7 KT LH;have LF:=(al.grown H7).cellOf (fun e=>Mr.out e.symm) (ka.cell cT);have x6:=(al.grown (KR.grown 4 (.slice p8 (Rk++[false]).length q8))).cellOf (fun e=>by have:gt=r:=(by simpa using e);omega) LF;rw[show false=rk by rw[Mo.out];simp] at hP x6;simp only[ze,zh,List.length_nil,Nat.zero_add] at hP x6;have Lu:=hP.box.cell5;have Lw:=hP.toq.cellOf qB h9.out;have HP:=hid hP;clear hP KR KT H9 z4 zf y5 LF ka H7 Ln LH hHeld ysa;go_wp2_with fail;generalize w8.setCell ⟨r,4,none⟩ (.slice p8 (Rk.length+1) q8)=wB at*;have kdB:=(aa.refl wB).drew;have Lp:=hid (fun wz (kz:aa wB wz)=>lW r L N (fT E N) k Lm wz ((Mq.out wB _ _ _ _ HP.out).keeps kz));rw[yz L E N k Lm] at Lp;have Lb:Hid (∀ wz,aa wB wz→wz.cell? ⟨r+1,0,none⟩=some (.pointer (some ⟨r,0,none⟩))∧wz.cell? ⟨r,5,none⟩=some (.slice p7 k q7)∧wz.cell? ⟨gt,0,none⟩=some (.int .i64 k)):=hid (fun wz kz=>⟨kz.cell Lw,kz.cell Lu,kz.cell x6⟩);clear Lw Lu x6;generalize jW L E k=ak at*;refine wp_region_noPanic ?_;refine fc (L:=12) (S:=(fun w'=>w'.cell? ⟨r+1,0,none⟩=some (.pointer (some ⟨r,0,none⟩))∧w'.cell? ⟨r,5,none⟩=some (.slice p7 k q7)∧w'.cell? ⟨gt,0,none⟩=some (.int .i64 k))) qA (Lb.out _ kdB) (fun hHeld=>?_);refine aP (i:=0) (oi:=⟨some 112,_,_,_,_,none⟩) (v:=?v0t2) rfl qA qA qA qA qA qA (fun _ _ _ h=>h) (Or.inl ⟨by rfl,?h0t2⟩) (by assumption) ?r0t2
      case h0t2=>(intro w eE;(try dsimp only at eE);go_simp;try with_reducible rfl)
      try simp only[Act.put,za,zb,zc]
      refine aP (i:=1) (oi:=⟨some 113,_,_,_,_,none⟩) (v:=?v1t2) rfl qA qA qA qA qA qA (fun _ _ _ h=>h) (Or.inl ⟨by rfl,?h1t2⟩) (by assumption) ?r1t2
      case h1t2=>(intro w eE;(try dsimp only at eE);go_simp;try with_reducible rfl)
      try simp only[Act.put,za,zb,zc]
      refine ay (i:=2) (oi:=⟨some 114,_,_,_,_,none⟩) (v:=?v2t2) rfl qA qA qA qA qA (fun _ _ _ h=>h) (Or.inl ⟨by rfl,?h2t2⟩) (by assumption) ?r2t2
      case h2t2=>(intro w eE;clear eE;go_simp;try with_reducible rfl)
      try simp only[Act.put,za,zb,zc]
      refine ay (i:=3) (oi:=⟨some 115,_,_,_,_,none⟩) (v:=?v3t2) rfl qA qA qA qA qA (fun _ _ _ h=>h) (Or.inl ⟨by rfl,?h3t2⟩) (by assumption) ?r3t2
      case h3t2=>(intro w eE;clear eE;go_simp;try with_reducible rfl)
      try simp only[Act.put,za,zb,zc]
      refine aP (i:=4) (oi:=⟨some 116,_,_,_,_,none⟩) (v:=?v4t2) rfl qA qA qA qA qA qA (fun _ _ _ h=>h) (Or.inl ⟨by rfl,?h4t2⟩) (by assumption) ?r4t2
      case h4t2=>(intro w eE;(try dsimp only at eE);go_simp;try with_reducible rfl)
      try simp only[Act.put,za,zb,zc]
      refine aP (i:=5) (oi:=⟨some 117,_,_,_,_,none⟩) (v:=?v5t2) rfl qA qA qA qA qA qA (fun _ _ _ h=>h) (Or.inl ⟨by rfl,?h5t2⟩) (by assumption) ?r5t2
      case h5t2=>(intro w eE;(try dsimp only at eE);go_simp;try with_reducible rfl)
      try simp only[Act.put,za,zb,zc]
      refine aP (i:=6) (oi:=⟨some 118,_,_,_,_,none⟩) (v:=?v6t2) rfl qA qA qA qA qA qA (fun _ _ _ h=>h) (Or.inl ⟨by rfl,?h6t2⟩) (by assumption) ?r6t2
      case h6t2=>(intro w eE;(try dsimp only at eE);go_simp;try with_reducible rfl)
      try simp only[Act.put,za,zb,zc]
      refine ba (i:=7) (o:=⟨some 119,_,_,_,_,none⟩) qA rfl (fun K hK=>?_)
      go_simp
      go_at_call 124
      refine(Lp.out _ kdB).mono ?_;rintro e w11 ⟨rfl,k11⟩;have ys11:=Lb.out w11 (kdB.trans k11);refine hK.out _ _ (ys11) (fun hHeld=>?_);clear hK K
      try simp only[Act.put,za,zb,zc]
      refine ba (i:=8) (o:=⟨some 120,_,_,_,_,none⟩) qA rfl (fun K hK=>?_)
      go_simp
      have kb:=(kdB.trans k11).alloc (.cells #[.bool ak] 4);have ysb:=Lb.out _ kb;have KP:=HP.out.keeps kb;refine hK.out _ _ (ysb) (fun hHeld=>?_);clear hK K
      try simp only[Act.put,za,zb,zc]
      refine ba (i:=9) (o:=⟨some 121,_,_,_,_,none⟩) qA rfl (fun K hK=>?_);refine wS rfl (.tmp 116) (.tmp 120) rfl w6.heap.size (.slice p7 k q7) Ak rfl KP.r5 _ ak rfl (cN.lit1 w11 ak) (by have:=kb.size;have:=KP.toq.size;omega) (by have:=Mj.out;omega) ?_;intro v12 w12 H8 x7 Li Lh;have x8:=KP.box5 x7;have z5:=x8.cell5;have zg:=x8.froz 5;have y6:=(KP.toq.push x7 (fun k e=>.inl (Li k e))).cellOf qB h9.out;have yg:=(al.grown x7).cellOf (fun e=>Ms.out e.symm) ysb.2.2;obtain⟨p12,q12,rfl⟩:=H8.shape0;refine hK.out _ _ (And.intro y6 (And.intro z5 yg)) (fun hHeld=>?_);clear hK K
      try simp only[Act.put,za,zb,zc]
      refine ay (i:=10) (oi:=⟨some 122,_,_,_,_,none⟩) (v:=?v10t2) rfl qA qA qA qA qA (fun _ _ _ h=>h) (Or.inl ⟨by rfl,?h10t2⟩) (by assumption) ?r10t2
      case h10t2=>(intro w eE;clear eE;go_simp;try with_reducible rfl)
      try simp only[Act.put,za,zb,zc]
      refine ay (i:=11) (oi:=⟨some 123,_,_,_,_,none⟩) (v:=?v11t2) rfl qA qA qA qA qA (fun _ _ _ h=>h) (Or.inl ⟨by rfl,?h11t2⟩) (by assumption) ?r11t2
      case h11t2=>(intro w eE;clear eE;go_simp;try with_reducible rfl)
      try simp only[Act.put,za,zb,zc]
      refine fa (o:=⟨none,_,_,_,_,none⟩) qA rfl (of_decide_eq_true qA) (fun K hK=>?_)
      go_simp
      refine hK.out _ _ ?_;clear hK K
      try simp only[Act.put,za,zb,zc]
      refine eZ qA ?_ _;refine NoPanic.normal ?_;have hQ:=KP.push5 x7 H8 Lh;simp only[ze,zh,List.length_nil,Nat.zero_add] at hQ;have HQ:=hid hQ;clear hQ x8 H8 KP;go_wp2_with fail;go_roundw
      case rel=>exact⟨k+1,_,_,qB,by go_num,by rw[Mu.out,Mv.out];exact HQ.out⟩
      case measure=>simp[intOf];omega
    ·obtain rfl:k=N:=qB
     have Lf:¬((k:Int)<k):=qB
     have Nq:0<k:=by rw[HN.out];exact Nat.two_pow_pos _
     obtain⟨g,cap5,ev,Mx,NC,LC,LD⟩:=h3.r5.shape (by rw[x9];exact Nq);rw[x9] at ev
     cases ev
     have LM:r≠g:=by have:=Lk.out.box.lt;omega
     have hS:BT L E k=(List.range k).map (jW L E):=rfl;have MQ:TyE wr r g L k q7 (fT E k):=⟨by rw[Mk.out];exact h3.box.cell0,⟨_,h3.box.cell2,Lk.out.ne.neeT Lk.out.box h3.toq qB (fun n hn=>by rw[mU n hn];omega) Mx⟩,h3.box.cell3,h3.box.cell5,LM,hL,fun n hn=>by have:=Bz n hn;omega,mU,KZ⟩;have LO:=hid (tI r g L k q7 w6.heap.size (fT E k) (BT L E k) (dM L E k) (Ct L E k) wr MQ h3.r5 (by rw[hS];exact x9) (fun t ht hl=>Cs L E k t ht hl));have H3:=hid h3;have dpr:=h3.toq.cellOf qB h9.out;have Ly:=KS;have MV:=hid Ly;clear h3 MQ KS x9 Ly hS LC LD;go_wp2_with fail;refine LO.out.mono ?_;rintro e w9 ⟨T,rfl,hI,K0⟩;have hT:T=mP L E k:=Ec L E k T hI.len (Co L E k T hI.lv hI.sub K0);have Mb:al w6 w9 (fun i=>i=r):=H3.out.toq.push hI.gr (fun j e=>.inl (by cases e;exact Mx));have dp9:=Mb.cellOf qB h9.out;have Mp:=hid Mb;have Nn:=hid hT;have M4:=hid hI;clear hI K0 hT Mb;go_wp2_with fail;go_ret;have hI:=M4.out;have Nr:=Nn.out;subst Nr;refine⟨r,rfl,L2.touch Mp.out (fun i hi=>by omega),⟨hI.ty.tyA hI.own hI.len,⟨_,eH hI.gr LM H3.out.box.cell4,?_⟩,⟨_,eH hI.gr LM H3.out.box.cell1,LP.out _ Mp.out⟩⟩⟩;exact(H3.out.r4.touch (al.grown hI.gr) (fun i e hi=>H3.out.ap i e (by rw[show i=g by simpa using hi];rfl))).bools (by have:=MV.out;simp;omega)
end Go.Proofs.YtagoboblkadelaaGreat
