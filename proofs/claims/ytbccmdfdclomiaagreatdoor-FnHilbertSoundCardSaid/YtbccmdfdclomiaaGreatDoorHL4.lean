import Derived.Test.YtbccmdfdclomiaaGreatDoorHAR
/- own -/
namespace Go.Proofs.YtbccmdfdclomiaaGreatDoor
set_option maxRecDepth 20000
set_option maxHeartbeats 8000000
open Go.RowKit
theorem arrow_two (x y:List Nd) (v:Value) (w:World) (hv:NdsL w v [x,y]) (hl:x.length+y.length≤1000000000):Calls Tryz.prog 247 #[v] w (RetN w (⟨4,0⟩::(x++y))):=by
 have hv0:=hv;obtain ⟨p,cap,rfl,hle,hmx,hlm,_⟩:=hv;simp only [List.length_cons,List.length_nil] at*;unfold maxLen at hmx;obtain ⟨b,off,u1,rfl,hc1,h1⟩:=hv0.get 0 (by simp);obtain ⟨b',off',u2,e,hc2,h2⟩:=hv0.get 1 (by simp)
 cases e
 simp only [List.getElem_cons_zero,List.getElem_cons_succ] at h1 h2;rw [Nat.add_zero] at hc1;obtain ⟨p1,n1,q1,rfl⟩:=h1.shape;obtain ⟨p2,n2,q2,rfl⟩:=h2.shape;clear hv0;have HJ:=hid (join_any 4 x y _ _ w h1 h2 (by omega));clear h1 h2;go_enter Tryz.func247,Tryz.ntmps247;go_wp2
 go_loopw [3,4] (fun o i' wr=>(i'=.int .i64 0∧o=.slice p2 n2 q2∧wr=w)∨(i'=.int .i64 (-1)∧OwnN wr w.heap.size o (⟨4,0⟩::(x++y))∧Keeps w wr)) (fun _ i _=>(intOf i+1).toNat)
 case atStart=>exact .inl ⟨rfl,rfl,rfl⟩
 case round=>
  rcases hrel with ⟨rfl,rfl,rfl⟩ | ⟨rfl,ho,kw⟩
  ·go_wp2_with fail
   refine HJ.out.mono ?_;rintro e w2 ⟨v2,rfl,hv2,k2⟩;go_wp2_with fail;go_roundw
   case rel=>exact .inr ⟨rfl,hv2,k2⟩
   case measure=>simp [intOf]
  ·go_wp2
   go_ret;exact ⟨_,rfl,ho,kw⟩
theorem l01Has_any (a:List Int) (x:Int) (v:Value) (w:World) (hv:Ints w v a):Calls Tryz.prog 36 #[v,.int .i64 x] w fun e w'=>e=.returned (.bool (a.any fun y=>y==x))∧w=w':=by
 obtain ⟨p,cap,rfl,hle,hmx,hat,hlen⟩:=hv;unfold maxLen at hmx;go_enter Tryz.func36,Tryz.ntmps36;go_wp2
 go_loop [4,5] (fun r i'=>∃ k:Nat,k≤a.length∧i'=.int .i64 k∧r=.bool false∧∀ j (h:j<a.length),j<k→(a[j]==x)=false) (fun _ i=>a.length-(intOf i).toNat)
 case atStart=>exact ⟨0,by omega,rfl,rfl,fun j h hj=>by omega⟩
 case round=>
  obtain ⟨k,hk,rfl,rfl,hs⟩:=hrel;have Hs:=hid hs;clear hs
  by_cases hlt:k<a.length
  ·obtain ⟨b,off,rfl,hc⟩:=hat.int k hlt
   clear hat
   have hlt':(k:Int)<a.length:=by omega
   cases hf:(a[k]==x)
   ·have Hf:=hid hf
    go_wp2
    go_round
    case rel=>exact ⟨k+1,by omega,by go_num,rfl,fun j h hj=>by
     by_cases e:j=k
     ·subst e;exact Hf.out
     ·exact Hs.out j h (by omega)⟩
    case measure=>simp [intOf];omega
   ·have Hf:=hid hf
    go_wp2;go_ret;exact ⟨ret_bool (List.any_eq_true.2 ⟨_,List.getElem_mem hlt,Hf.out⟩).symm,rfl⟩
  ·go_wp2
   go_ret;refine ⟨ret_bool ?_,rfl⟩
   symm;rw [Bool.eq_false_iff];intro h
   obtain ⟨y,hy,h2⟩:=List.any_eq_true.1 h;obtain ⟨j,hj,rfl⟩:=List.getElem_of_mem hy;rw [Hs.out j hj (by omega)] at h2;cases h2
def WfL (n:Nat) (ls:List Ln):Prop:=∀ i (h:i<ls.length),(ls[i].r=3→(0≤ls[i].f∧ls[i].f<i)∧(0≤ls[i].s∧ls[i].s<i))∧(ls[i].r=4→0≤ls[i].f∧ls[i].f<i)∧(ls[i].r=2→0≤ls[i].f∧ls[i].f<n)
theorem insI_len (x:Nat):∀ l:List Nat,x∉l→(insI x l).length=l.length+1
 | [],_=>rfl
 | y :: l,h=>by
  unfold insI
  split
  ·rfl
  ·split
   ·rename_i e;subst e;simp at h
   ·have:=insI_len x l (fun hm=>h (by simp [hm]))
    simp [this]
theorem sortC_len:∀ l:List Nat,l.Nodup→(sortC l).length=l.length
 | [],_=>rfl
 | y::l,h=>by
  rw [List.nodup_cons] at h;have:=sortC_len l h.2
  show (insI y (sortC l)).length=_
  rw [insI_len y _ (fun hm=>h.1 ((sortC_mem y l).1 hm)),this];rfl
theorem nodup_len {l:List Nat} {n:Nat} (h:l.Nodup) (hb:∀ z∈l,z<n):l.length≤n:=by
 rw [←sortC_len l h];have:=asc_len (sortC l) 0 n (sortC_asc l) (fun z hz=>⟨Nat.zero_le _,hb z ((sortC_mem z l).1 hz)⟩);omega
theorem addU_snoc (l m:List Nat) (x:Nat):addU l (m++[x])=if (addU l m).contains x then addU l m else addU l m++[x]:=by simp [addU,List.foldl_append]
theorem addU_nodup:∀ (m l:List Nat),l.Nodup→(addU l m).Nodup
 | [],l,h=>h
 | x::m,l,h=>by
  show (addU (if l.contains x then l else l++[x]) m).Nodup
  refine addU_nodup m _ ?_
  split
  ·exact h
  ·rename_i hc
   refine List.nodup_append.2 ⟨h,by simp,fun a ha b hb=>?_⟩;rw [List.mem_singleton.1 hb];rintro rfl;exact hc (List.contains_iff_mem.2 ha)
def DpB (n:Nat) (us:List (List Nat)):Prop:=∀ i,(getI [] us i).Nodup∧∀ z∈getI [] us i,z<n
theorem DpB.nil (n:Nat):DpB n []:=fun i=>by simp [getI]
theorem DpB.len {n:Nat} {us:List (List Nat)} (h:DpB n us) (i:Int):(getI [] us i).length≤n:=nodup_len (h i).1 (h i).2
theorem DpB.snoc {n:Nat} {us:List (List Nat)} {x:Ln} (h:DpB n us) (h2:x.r=2→0≤x.f∧x.f<n):DpB n (us++[dpO us x]):=fun i=>by
 rw [getI_snoc]
 split
 ·exact h i
 ·split
  ·unfold dpO
   split
   ·rename_i e
    have:=h2 e;exact ⟨by simp,fun z hz=>by rw [List.mem_singleton.1 hz];omega⟩
   ·split
    ·refine ⟨addU_nodup _ _ (h _).1,fun z hz=>?_⟩
     rcases (addU_mem z _ _).1 hz with hz | hz
     ·exact (h _).2 z hz
     ·exact (h _).2 z hz
    ·split
     ·exact h _
     ·simp
  ·simp
theorem zs_has (a:List Nat) (x:Nat):((zs a).any fun y=>y==(x:Int))=a.contains x:=by
 rw [Bool.eq_iff_iff,List.any_eq_true,List.contains_iff_mem];constructor
 ·rintro ⟨y,hy,e⟩
  obtain ⟨z,hz,rfl⟩:=List.mem_map.1 hy
  have e2:(z:Int)=x:=by simpa using e
  have:z=x:=by omega
  rwa [←this]
 ·intro h
  exact ⟨(x:Int),List.mem_map.2 ⟨x,h,rfl⟩,by simp⟩
theorem l13Depends_any (n:Nat) (ls:List Ln) (hW:WfL n ls) (hn:n≤1000) (hll:ls.length≤1000) (v:Value) (w:World) (hL:LnL w v ls):Calls Tryz.prog 35 #[v] w (RetLI w (dpP ls)):=by
 have HL:=hid (fun wz (kz:Keeps w wz)=>hL.keeps kz);have HW:=hid hW;obtain ⟨p,cap,rfl,hle,hmx,_⟩:=hL.shape;unfold maxLen at hmx;have hE:=OwnLI.empty w;have kE:=(Keeps.refl w).alloc (.cells #[] 28);clear hL hW;go_enter Tryz.func35,Tryz.ntmps35;go_wp2_with fail
 go_loopw [3,4] (fun o k' wr=>∃ k:Nat,k≤ls.length∧k'=.int .i64 k∧DpB n (dpP (ls.take k))∧OwnLI wr w.heap.size o (dpP (ls.take k))∧Keeps w wr) (fun _ k' _=>ls.length-(intOf k').toNat)
 case atStart=>exact ⟨0,by omega,rfl,by simpa [dpP,dpF] using DpB.nil n,by simpa [dpP,dpF] using hE,kE⟩
 case round=>
  obtain ⟨k,hk,rfl,hD,hO,kw⟩:=hrel;clear hE kE;obtain ⟨po,co,rfl,_⟩:=hO.shape
  by_cases hlt:k<ls.length
  ·have hlt':(k:Int)<ls.length:=by omega
   obtain ⟨bl,ol,q,m,c,epl,⟨y0,y1,y2,-⟩,-⟩:=(HL.out wr kw).get k hlt;subst epl
   have hdl:(dpP (ls.take k)).length=k:=by rw [(dp_us _).1];simp;omega
   have HUS:=hid (show dpP (ls.take (k+1))=dpP (ls.take k)++[dpO (dpP (ls.take k)) ls[k]] from by rw [List.take_succ_eq_append_getElem hlt,dpP_snoc]);have HWK:=hid (HW.out k hlt);have HDS:=hid (hD.snoc (x:=ls[k]) HWK.out.2.2);have HDL:=hid (fun i=>hD.len i);have HDD:=hid hD
   obtain ⟨U,hU⟩:∃ U,dpP (ls.take k)=U:=⟨_,rfl⟩
   rw [hU] at hO hdl HUS HDS HDL HDD ⊢;generalize hx:ls[k]=x at*;have h0:=OwnI.empty wr;have k0:=(Keeps.refl wr).alloc (.cells #[] 2)
   replace y0:=k0.cell y0
   replace y1:=k0.cell y1
   replace y2:=k0.cell y2
   have HO:=hid (fun wz (kz:Keeps wr wz)=>hO.keeps kz);have KW:=hid kw;have HUL:=hid hdl
   have hul2:U.length≤1000:=by omega
   clear hO kw hD hU hx hdl;obtain ⟨xr,xf,xs,xa⟩:=x
   simp only at y0 y1 y2
   go_upto_block 2 with fail
   have HK0:=hid k0;have HH0:=hid h0;clear k0 h0
   go_cut [5,6,7] from 9 to 82 (fun l _ _ wx=>∃ pl nl cl,l=.slice pl nl cl∧OwnI wx wr.heap.size (.slice pl nl cl) (zs (dpO U ⟨xr,xf,xs,xa⟩))∧Keeps wr wx)
   case first=>
    generalize wr.alloc (.cells #[] 2)=wE at*
    by_cases r2:xr=2
    ·subst r2
     have h2:0≤xf:=(HWK.out.2.2 rfl).1;have HZ:=hid (show zs (dpO U ⟨2,xf,xs,xa⟩)=[xf] from by unfold dpO;rw [if_pos rfl];simp [zs,Int.toNat_of_nonneg h2]);go_wp2_with fail
     go_meet
     rw [HZ.out];exact ⟨_,_,_,rfl,(OwnI.lit1N _ _ _ rfl).mono HK0.out.size,HK0.out.alloc _⟩
    ·by_cases r3:xr=3
     ·subst r3
      obtain ⟨⟨f0,f1⟩,s0,s1⟩:=HWK.out.1 rfl
      simp only at f0 f1 s0 s1
      obtain ⟨jf,rfl⟩:=Int.eq_ofNat_of_zero_le f0;obtain ⟨js,rfl⟩:=Int.eq_ofNat_of_zero_le s0
      have hjf:jf<U.length:=by have:=HUL.out;omega
      have hjs:js<U.length:=by have:=HUL.out;omega
      obtain ⟨bu,ou,uu,epu,gu,hou⟩:=(HO.out wE HK0.out).get jf hjf;subst epu;obtain ⟨bu2,ou2,us2,epu2,gs,hos⟩:=(HO.out wE HK0.out).get js hjs
      cases epu2
      have hgf:getI [] U (jf:Int)=U[jf]:=by unfold getI;rw [Int.toNat_natCast,List.getD_eq_getElem?_getD,List.getElem?_eq_getElem hjf];rfl
      have hgs:getI [] U (js:Int)=U[js]:=by unfold getI;rw [Int.toNat_natCast,List.getD_eq_getElem?_getD,List.getElem?_eq_getElem hjs];rfl
      have HZ:=hid (show zs (dpO U ⟨3,(jf:Int),(js:Int),xa⟩)=zs (addU U[jf] U[js]) from by unfold dpO;rw [if_neg (show ¬(3:Int)=2 by decide),if_pos rfl];simp only [hgf,hgs]);have hnf:=(HDD.out (jf:Int));have hns:=(HDD.out (js:Int));rw [hgf] at hnf;rw [hgs] at hns
      have hl1:(zs U[jf]).length≤2147483648:=by have:=nodup_len hnf.1 hnf.2;simp [zs];omega
      have hl2:(zs U[js]).length≤2147483648:=by have:=nodup_len hns.1 hns.2;simp [zs];omega
      have HOW:=hid (l01Own_any (zs U[jf]) _ wE (hou.ints hl1));have HMO:=hid (fun wz (kz:Keeps wE wz)=>(hos.ints hl2).keeps kz)
      have hjf':((jf:Nat):Int)<U.length:=by omega
      have hjs':((js:Nat):Int)<U.length:=by omega
      obtain ⟨pu,cu,rfl,_⟩:=At.of_own hou;obtain ⟨ps,cs,rfl,hs1,hs2,_⟩:=At.of_own hos;unfold maxLen at hs2;have HNF:=hid hnf;have HNS:=hid hns;clear hou hos hgf hgs hl1 hl2 hnf hns;generalize U[jf]=F at*;generalize U[js]=G at*
      obtain ⟨gl,hgl⟩:∃ gl,gl=(zs G).length:=⟨_,rfl⟩
      have HGL:=hid (show gl=G.length from by rw [hgl];simp [zs]);rw [←hgl] at gs hs1 HMO;clear hgl;go_wp2_with fail;refine HOW.out.mono ?_;rintro e w2 ⟨v2,rfl,hv2,k2⟩
      replace gs:=k2.cell gs
      obtain ⟨p2,c2,rfl,_⟩:=At.of_own hv2;clear gu y0 y1
      replace y2:=k2.cell y2
      go_wp2_with fail
      go_loopw [5,7] (fun l i' wr=>∃ i:Nat,i≤gl∧i'=.int .i64 i∧(∃ pl nl cl,l=.slice pl nl cl)∧OwnI wr wE.heap.size l (zs (addU F (G.take i)))∧Keeps wE wr) (fun _ i' _=>gl-(intOf i').toNat)
      case atStart=>exact ⟨0,by omega,rfl,⟨_,_,_,rfl⟩,by simpa [addU] using hv2,k2⟩
      case round=>
       obtain ⟨i,hi,rfl,⟨pl,nl,cl,rfl⟩,hU,kq⟩:=hrel;clear hv2
       have hxl:(addU F (G.take i)).length≤n:=nodup_len (addU_nodup _ _ HNF.out.1) (fun z hz=>by
        rcases (addU_mem z _ _).1 hz with h | h
        ·exact HNF.out.2 z h
        ·exact HNS.out.2 z (List.mem_of_mem_take h))
       by_cases hlt:i<gl
       ·have hlt':(i:Int)<gl:=by omega
        have hgi:i<G.length:=by have:=HGL.out;omega
        obtain ⟨_,_,e1,_,_,hat,_⟩:=HMO.out wr kq;obtain ⟨b1,o1,e2,hc⟩:=hat.int i (by simp [zs];exact hgi)
        have hgz:(zs G)[i]'(by simp [zs];exact hgi)=(G[i]:Int):=by simp [zs]
        rw [hgz] at hc
        cases e1
        subst e2;have HSN:=hid (show addU F (G.take (i+1))=if (addU F (G.take i)).contains G[i] then addU F (G.take i) else addU F (G.take i)++[G[i]] from by rw [List.take_succ_eq_append_getElem hgi,addU_snoc]);have HHA:=hid (l01Has_any (zs (addU F (G.take i))) (G[i]:Int) _ wr (hU.ints (by simp [zs];omega)));rw [zs_has] at HHA
        have hzx:(zs (addU F (G.take i))).length≤1000:=by simp [zs];omega
        have HU:=hid hU;have HKQ:=hid kq;have HWZ:=hid kq.size;clear hU hat hgz kq hxl;generalize G[i]=y at*;generalize addU F (G.take i)=X at*;go_wp2_with fail;refine HHA.out.mono ?_;rintro e w4 ⟨rfl,rfl⟩
        cases hcn:X.contains y
        ·rw [hcn] at HSN
         go_wp2_with (at_builtin;refine appI rfl _ _ rfl wE.heap.size _ (zs X) rfl (HU.out.keeps ((Keeps.refl wr).alloc _)) _ [(y:Int)] rfl (Ints.lit1 wr y) (by have:=HWZ.out;simp;omega) (by simp;omega) ?_;intro v5 w5 hv5 hg5 hr5;have k5:=(HKQ.out.alloc (.cells #[.int .i64 (y:Int)] 2)).grown hg5 hr5)
         obtain ⟨p5,c5,rfl,_⟩:=At.of_own hv5;go_roundw
         case rel=>exact ⟨i+1,by omega,by go_num,⟨_,_,_,rfl⟩,by rw [HSN.out];simpa [zs] using hv5,k5⟩
         case measure=>simp [intOf];omega
        ·rw [hcn] at HSN
         go_wp2_with fail;go_roundw
         case rel=>exact ⟨i+1,by omega,by go_num,⟨_,_,_,rfl⟩,by rw [HSN.out];simpa using HU.out,HKQ.out⟩
         case measure=>simp [intOf];omega
       ·have hie:i=gl:=by omega
        have hig:i=G.length:=by rw [hie,HGL.out]
        have hlt':¬(i:Int)<gl:=by omega
        rw [hig,List.take_length] at hU;clear hig hie;go_wp2_with fail
        go_meet
        rw [HZ.out];exact ⟨_,_,_,rfl,hU.mono HK0.out.size,HK0.out.trans kq⟩
     ·by_cases r4:xr=4
      ·subst r4
       obtain ⟨f0,f1⟩:=HWK.out.2.1 rfl
       simp only at f0 f1
       obtain ⟨jf,rfl⟩:=Int.eq_ofNat_of_zero_le f0
       have hjf:jf<U.length:=by have:=HUL.out;omega
       obtain ⟨bu,ou,uu,epu,gu,hou⟩:=(HO.out wE HK0.out).get jf hjf;subst epu
       have hgf:getI [] U (jf:Int)=U[jf]:=by unfold getI;rw [Int.toNat_natCast,List.getD_eq_getElem?_getD,List.getElem?_eq_getElem hjf];rfl
       have HZ:=hid (show zs (dpO U ⟨4,(jf:Int),xs,xa⟩)=zs U[jf] from by unfold dpO;rw [if_neg (show ¬(4:Int)=2 by decide),if_neg (show ¬(4:Int)=3 by decide),if_pos rfl];exact congrArg zs hgf)
       have hl1:(zs U[jf]).length≤2147483648:=by have:=HDL.out (jf:Int);rw [hgf] at this;simp [zs];omega
       have HOW:=hid (l01Own_any (zs U[jf]) _ wE (hou.ints hl1))
       have hjf':((jf:Nat):Int)<U.length:=by omega
       obtain ⟨pu,cu,rfl,_⟩:=At.of_own hou;clear hou hgf hl1;go_wp2_with fail;refine HOW.out.mono ?_;rintro e w2 ⟨v2,rfl,hv2,k2⟩;obtain ⟨p2,c2,rfl,_⟩:=At.of_own hv2;go_wp2_with fail
       go_meet
       rw [HZ.out];exact ⟨_,_,_,rfl,hv2.mono HK0.out.size,HK0.out.trans k2⟩
      ·have z2:(xr==2)=false:=by simpa using r2
       have z3:(xr==3)=false:=by simpa using r3
       have z4:(xr==4)=false:=by simpa using r4
       have HZ:=hid (show zs (dpO U ⟨xr,xf,xs,xa⟩)=[] from by unfold dpO;rw [if_neg r2,if_neg r3,if_neg r4];rfl);clear r2 r3 r4;go_wp2_with fail
       go_meet
       rw [HZ.out];exact ⟨_,_,_,rfl,HH0.out,HK0.out⟩
   case rest=>
    obtain ⟨pl,nl,cl,rfl,hl,kc⟩:=hcut
    have hdu:U.length≤2147483647:=by omega
    have HWS:=hid KW.out.size
    go_wp2_with (at_builtin;refine appLI rfl _ _ rfl w.heap.size _ U rfl wc (HO.out wc kc) ((Keeps.refl wc).alloc _) _ _ ((hl.mono HWS.out).keeps ((Keeps.refl wc).alloc _)) (Nat.le_trans HWS.out (kc.trans ((Keeps.refl wc).alloc _)).size) _ 1 rfl (At.lit1 _ _ _) hdu ?_;intro v5 w5 hv5 hg5 hr5;have k5:=((KW.out.trans kc).alloc (.cells #[.slice pl nl cl] 28)).grown hg5 hr5)
    go_roundw
    case rel=>exact ⟨k+1,by omega,by go_num,by rw [HUS.out];exact HDS.out,by rw [HUS.out];exact hv5,k5⟩
    case measure=>simp [intOf];omega
  ·obtain rfl:k=ls.length:=by omega
   have hlt':¬((ls.length:Nat):Int)<ls.length:=by omega
   have HO:=hid hO;clear hO;go_wp2_with fail;go_ret;exact ⟨_,rfl,by have h:=HO.out;rwa [List.take_length] at h,kw⟩
end Go.Proofs.YtbccmdfdclomiaaGreatDoor
