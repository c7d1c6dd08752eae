import Derived.Test.YtbccmdfdclomiaaGreatDoorHQA
import Derived.Test.YtbccmdfdclomiaaGreatDoorHVS
import Derived.Lib.SliceRun
/- own -/
namespace Go.Proofs.YtbccmdfdclomiaaGreatDoor
set_option maxRecDepth 20000
set_option maxHeartbeats 8000000
open Go.RowKit
theorem grown_drewN (w:World) (n:Nat) (row:Option Nat):w.grownBy (w.drewN n) row:=⟨rfl,rfl,rfl,Nat.le_refl _,fun _ _ _=>rfl⟩
theorem keeps_grown {w w':World} (k:Keeps w w') (row:Option Nat):w.grownBy w' row:=⟨k.os,k.tape,k.output,k.size,fun _i hi _=>k.block hi⟩
theorem less_any (x y:Int) (w:World):Calls Tryz.prog 191 #[.int .i64 x,.int .i64 y] w fun e w'=>e=.returned (.bool (decide (x<y)))∧w=w':=by
 have HN:=hid (fun wz=>(show Calls Tryz.prog 221 #[.int .i64 x] wz fun e w'=>e=.returned (.bool false)∧wz=w' from by
  go_enter Tryz.func221,Tryz.ntmps221;go_wp2_with fail;go_ret
  exact ⟨ret_bool (by simp),rfl⟩))
 go_enter Tryz.func191,Tryz.ntmps191;go_wp2_with fail;refine (HN.out _).mono ?_;rintro e w2 ⟨rfl,rfl⟩;go_wp2_with fail;go_ret;exact ⟨rfl,rfl⟩
theorem insSort_any (xs:List Int) (g cap B:Nat) (w:World) (ho:OwnI w B (.slice (some ⟨g,0,none⟩) xs.length cap) xs) (hp:0<xs.length) (hl:xs.length≤1000):
  Calls Tryz.prog 185 #[.slice (some ⟨g,0,none⟩) xs.length cap,.int .i64 0,.int .i64 xs.length] w fun e w'=>e=.returned (.tuple #[])∧∃ ys,OutSt xs ys xs.length∧OwnI w' B (.slice (some ⟨g,0,none⟩) xs.length cap) ys∧w.grownBy w' (some g):=by
 have HL:=hid (fun x y wz=>less_any x y wz);have hgl:=(ho.len g rfl).2
 have hcap:xs.length≤cap∧cap≤maxLen:=by
  obtain ⟨_,_,e,h1,h2,_⟩:=At.of_own ho
  cases e;exact ⟨h1,h2⟩
 unfold maxLen at hcap;go_enter Tryz.func185,Tryz.ntmps185;go_wp2_with fail
 go_loopw [6] (fun i' wr=>∃ (i:Nat) (ys:List Int),i'=.int .i64 i∧1≤i∧i≤xs.length∧OutSt xs ys i∧OwnI wr B (.slice (some ⟨g,0,none⟩) xs.length cap) ys∧w.grownBy wr (some g)) (fun i' _=>xs.length-(intOf i').toNat)
 case atStart=>exact ⟨1,xs,rfl,by omega,by omega,OutSt.start xs,ho,grown_refl _ _⟩
 case round=>
  obtain ⟨i,ys,rfl,hi1,hi,hS,hO,hG⟩:=hrel;clear ho
  by_cases hlt:i<xs.length
  ·have hlt':(i:Int)<xs.length:=by omega
   have hyl:=hS.1.length_eq;have hin:=hid (hS.inner (by omega));clear hS;go_wp2_with fail
   go_loopw [7] (fun j' wr=>∃ (j:Nat) (ys:List Int),j'=.int .i64 j∧InsSt xs ys i j∧OwnI wr B (.slice (some ⟨g,0,none⟩) xs.length cap) ys∧w.grownBy wr (some g)) (fun j' _=>(intOf j').toNat)
   case atStart=>exact ⟨i,ys,rfl,hin.out,hO,hG⟩
   case round=>
    obtain ⟨j,zs',rfl,hS,hO2,hG2⟩:=hrel;clear hin hO hG;obtain ⟨hji,hil,hzl⟩:=hS.at
    by_cases h0:j=0
    ·subst h0
     have HS:=hid (hS.stop (.inl rfl));clear hS;go_wp2_with fail
     go_quiet (fail)
     go_wp2_with fail;go_roundw
     case rel=>exact ⟨i+1,_,by go_num,by omega,by omega,HS.out,hO2.keeps ((Keeps.refl _).drewN nq),grown_trans hG2 (grown_drewN _ _ _)⟩
     case measure=>simp [intOf];omega
    ·obtain ⟨m,rfl⟩:∃ m,j=m+1:=⟨j-1,by omega⟩
     have hj0':(((m+1:Nat):Int)>0):=by omega
     have hO3:OwnI wr B (.slice (some ⟨g,0,none⟩) zs'.length cap) zs':=by rw [hzl];exact hO2
     obtain ⟨c1,f1⟩:=hO3.cell (m+1) (by omega);obtain ⟨c2,f2⟩:=hO3.cell m (by omega)
     have hjx:((m+1:Nat):Int)-1=(m:Int):=by omega
     have hjl:((m+1:Nat):Int)<xs.length:=by omega
     have hjl2:(m:Int)<xs.length:=by omega
     by_cases hlt:zs'[m+1]'(by omega)<zs'[m]'(by omega)
     ·have HS:=hid (hS.step (by omega) (by omega) hlt)
      have hd:decide (zs'[m+1]'(by omega)<zs'[m]'(by omega))=true:=by simpa using hlt
      have HL2:=hid (fun q=>HL.out (zs'[m+1]'(by omega)) (zs'[m]'(by omega)) (wr.drewN q));rw [hd] at HL2
      have HST:=hid (fun wz (kz:Keeps wr wz)=>(show OwnI ((wz.setCell ⟨g,m+1,none⟩ (.int .i64 (zs'[m]'(by omega)))).setCell ⟨g,m,none⟩ (.int .i64 (zs'[m+1]'(by omega)))) B (.slice (some ⟨g,0,none⟩) xs.length cap) ((zs'.set (m+1) (zs'[m]'(by omega))).set m (zs'[m+1]'(by omega)))∧w.grownBy ((wz.setCell ⟨g,m+1,none⟩ (.int .i64 (zs'[m]'(by omega)))).setCell ⟨g,m,none⟩ (.int .i64 (zs'[m+1]'(by omega)))) (some g) from by
       obtain ⟨s1,s2⟩:=(hO3.keeps kz).store (m+1) (by omega) (zs'[m]'(by omega))
       have s1':OwnI (wz.setCell ⟨g,m+1,none⟩ (.int .i64 (zs'[m]'(by omega)))) B (.slice (some ⟨g,0,none⟩) xs.length cap) (zs'.set (m+1) (zs'[m]'(by omega))):=by rw [←hzl];exact s1
       obtain ⟨s3,s4⟩:=s1'.store m (by simp;omega) (zs'[m+1]'(by omega))
       refine ⟨s3,grown_trans (grown_trans hG2 ⟨kz.os,kz.tape,kz.output,kz.size,fun k hk _=>kz.block hk⟩) (grown_trans s2 s4)⟩))
      simp only [Nat.add_sub_cancel] at HS
      have kd:=fun q=>(Keeps.refl wr).drewN q
      clear hS hd hlt HL hO2 hO3;generalize zs'[m+1]'(by omega)=x at*;generalize zs'[m]'(by omega)=y at*;go_wp2_with fail
      go_quiet (go_loud (first | (go_at_call 191;refine quietS (HL2.out _))))
      have d1:(wr.drewN nq).cell? ⟨g,m+1,none⟩=some (.int .i64 x):=c1;have d2:(wr.drewN nq).cell? ⟨g,m,none⟩=some (.int .i64 y):=c2;have e1:(wr.drewN nq).frozen? ⟨g,m+1,none⟩=false:=f1;have e2:(wr.drewN nq).frozen? ⟨g,m,none⟩=false:=f2;have KD:=hid (kd nq);clear c1 c2 f1 f2 kd;generalize wr.drewN nq=wA at*;go_wp2_with fail
      go_region
      go_wp2_with fail;go_roundw
      case rel=>exact ⟨m,_,by go_num,HS.out,(HST.out _ KD.out.drew).1,(HST.out _ KD.out.drew).2⟩
      case measure=>simp [intOf]
     ·have HS:=hid (hS.stop (.inr ⟨by omega,hlt⟩))
      have hd:decide (zs'[m+1]'(by omega)<zs'[m]'(by omega))=false:=by simpa using hlt
      have HL2:=hid (fun q=>HL.out (zs'[m+1]'(by omega)) (zs'[m]'(by omega)) (wr.drewN q));rw [hd] at HL2;have HO2:=hid hO2;clear hS hd hlt HL hO2 hO3;generalize zs'[m+1]'(by omega)=x at*;generalize zs'[m]'(by omega)=y at*;go_wp2_with fail
      go_quiet (go_loud (first | (go_at_call 191;refine quietS (HL2.out _))))
      go_wp2_with fail;go_roundw
      case rel=>exact ⟨i+1,_,by go_num,by omega,by omega,HS.out,HO2.out.keeps ((Keeps.refl _).drewN nq),grown_trans hG2 (grown_drewN _ _ _)⟩
      case measure=>simp [intOf];omega
  ·obtain rfl:i=xs.length:=by omega
   have hlt':¬((xs.length:Nat):Int)<xs.length:=by omega
   go_wp2_with fail
   go_end0
   exact ⟨rfl,ys,hS,hO,hG⟩
theorem pdq_any (xs:List Int) (g cap B:Nat) (k:Int) (w:World) (ho:OwnI w B (.slice (some ⟨g,0,none⟩) xs.length cap) xs) (hp:0<xs.length) (hl:xs.length≤12):
  Calls Tryz.prog 154 #[.slice (some ⟨g,0,none⟩) xs.length cap,.int .i64 0,.int .i64 xs.length,.int .i64 k] w fun e w'=>e=.returned (.tuple #[])∧∃ ys,OutSt xs ys xs.length∧OwnI w' B (.slice (some ⟨g,0,none⟩) xs.length cap) ys∧w.grownBy w' (some g):=by
 have HI:=hid (insSort_any xs g cap B w ho hp (by omega))
 have hl':((xs.length:Nat):Int)-0≤12:=by omega
 clear ho;go_enter Tryz.func154,Tryz.ntmps154;go_wp2_with fail
 go_loopw [1,2,3,8] (fun a' b' l' f' wr=>a'=.int .i64 0∧b'=.int .i64 xs.length∧l'=.int .i64 k∧f'=.bool true∧w=wr) (fun _ _ _ _ _=>0)
 case atStart=>exact ⟨rfl,rfl,rfl,rfl,rfl⟩
 case round=>
  obtain ⟨rfl,rfl,rfl,rfl,rfl⟩:=hrel;go_wp2_with fail;refine HI.out.mono ?_;rintro e w2 ⟨rfl,ys,h1,h2,h3⟩;go_wp2_with fail;refine bodyPost_ret (v:=.tuple #[]) (by simp [results,Tryz.results154,go_sem]) rfl ?_;exact ⟨rfl,ys,h1,h2,h3⟩
theorem sortZ_any (xs:List Int) (g cap B:Nat) (w:World) (ho:OwnI w B (.slice (some ⟨g,0,none⟩) xs.length cap) xs) (hp:0<xs.length) (hl:xs.length≤12):
  Calls Tryz.prog 121 #[.slice (some ⟨g,0,none⟩) xs.length cap] w fun e w'=>e=.returned (.tuple #[])∧∃ ys,OutSt xs ys xs.length∧OwnI w' B (.slice (some ⟨g,0,none⟩) xs.length cap) ys∧w.grownBy w' (some g):=by
 have HP:=hid (fun k=>pdq_any xs g cap B k w ho hp hl);have HB:=hid (Tryz.bits_Len ((xs.length:Nat):Int) w (by omega) (by omega));clear ho;go_enter Tryz.func121,Tryz.ntmps121;go_wp2_with fail;refine HB.out.mono ?_;rintro e w2 ⟨rfl,rfl⟩;go_wp2_with fail;refine (HP.out _).mono ?_;rintro e w2 ⟨rfl,ys,h1,h2,h3⟩;go_wp2_with fail
 go_end0
 exact ⟨rfl,ys,h1,h2,h3⟩
theorem insSort_nil (p:Option Addr) (c:Nat) (w:World):Calls Tryz.prog 185 #[.slice p 0 c,.int .i64 0,.int .i64 0] w fun e w'=>e=.returned (.tuple #[])∧w=w':=by
 go_enter Tryz.func185,Tryz.ntmps185;go_wp2_with fail
 go_loopw [6] (fun i' wr=>i'=.int .i64 1∧w=wr) (fun _ _=>0)
 case atStart=>exact ⟨rfl,rfl⟩
 case round=>
  obtain ⟨rfl,rfl⟩:=hrel;go_wp2_with fail
  go_end0
  exact ⟨rfl,rfl⟩
theorem pdq_nil (p:Option Addr) (c:Nat) (k:Int) (w:World):Calls Tryz.prog 154 #[.slice p 0 c,.int .i64 0,.int .i64 0,.int .i64 k] w fun e w'=>e=.returned (.tuple #[])∧w=w':=by
 have HI:=hid (insSort_nil p c w);go_enter Tryz.func154,Tryz.ntmps154;go_wp2_with fail
 go_loopw [1,2,3,8] (fun a' b' l' f' wr=>a'=.int .i64 0∧b'=.int .i64 0∧l'=.int .i64 k∧f'=.bool true∧w=wr) (fun _ _ _ _ _=>0)
 case atStart=>exact ⟨rfl,rfl,rfl,rfl,rfl⟩
 case round=>
  obtain ⟨rfl,rfl,rfl,rfl,rfl⟩:=hrel;go_wp2_with fail;refine HI.out.mono ?_;rintro e w2 ⟨rfl,rfl⟩;go_wp2_with fail;refine bodyPost_ret (v:=.tuple #[]) (by simp [results,Tryz.results154,go_sem]) rfl ?_;exact ⟨rfl,rfl⟩
theorem sortZ_nil (p:Option Addr) (c:Nat) (w:World):Calls Tryz.prog 121 #[.slice p 0 c] w fun e w'=>e=.returned (.tuple #[])∧w=w':=by
 have HP:=hid (fun k=>pdq_nil p c k w);have HB:=hid (Tryz.bits_Len ((0:Nat):Int) w (by omega) (by omega));go_enter Tryz.func121,Tryz.ntmps121;go_wp2_with fail;refine HB.out.mono ?_;rintro e w2 ⟨rfl,rfl⟩;go_wp2_with fail;refine (HP.out _).mono ?_;rintro e w2 ⟨rfl,rfl⟩;go_wp2_with fail
 go_end0
 exact ⟨rfl,rfl⟩
theorem OwnI.cut {w:World} {B g cap:Nat} {a:List Int} (h:OwnI w B (.slice (some ⟨g,0,none⟩) a.length cap) a) (k:Nat) (hk:k≤a.length):OwnI w B (.slice (some ⟨g,0,none⟩) k cap) (a.take k):=by
 obtain ⟨hl,h | ⟨g',cap',cur,hv,hb,hg,hnc,hcm,hcs,ht⟩⟩:=h
 ·cases h.1
 cases hv
 have e:(a.take k).length=k:=by simp;omega
 unfold OwnI;rw [e];refine ⟨by rw [intCells,List.length_map,e,Nat.mul_one],.inr ⟨g,cap,cur,rfl,hb,hg,by omega,hcm,hcs,?_⟩⟩;rw [show intCells (a.take k)=(intCells a).take k by simp [intCells,List.map_take],←ht,List.take_take,Nat.min_eq_left (by omega),Nat.mul_one]
theorem OwnI.zeroed {B g cap:Nat} (x:Int):∀ (m o:Nat) (w:World) (a:List Int),o+m≤a.length→OwnI w B (.slice (some ⟨g,0,none⟩) a.length cap) a→
  ∃ a':List Int,a'.length=a.length∧a'.take o=a.take o∧OwnI (w.setCells g o (List.replicate m (.int .i64 x))) B (.slice (some ⟨g,0,none⟩) a.length cap) a'∧w.grownBy (w.setCells g o (List.replicate m (.int .i64 x))) (some g)
 | 0,o,w,a,_,h=>⟨a,rfl,rfl,h,World.grownBy.refl _ _⟩
 | m+1,o,w,a,hm,h=>by
  have h1:=h.store o (by omega) x;obtain ⟨a',h2,h3,h4,h5⟩:=OwnI.zeroed x m (o+1) _ (a.set o x) (by rw [List.length_set];omega) (by rw [List.length_set];exact h1.1);rw [List.length_set] at h2 h4;refine ⟨a',h2,?_,h4,grown_trans h1.2 h5⟩;have h6:=congrArg (List.take o) h3;rw [List.take_take,List.take_take,Nat.min_eq_left (by omega)] at h6;rw [h6];apply List.ext_getElem?;intro i
  by_cases hi:i<o
  ·simp [hi,Nat.ne_of_gt hi]
  ·simp [List.getElem?_take,hi]
structure CmpSt (ys zs':List Int) (m q kk:Nat):Prop where
 q1:1≤q
 qn:m+1+q≤ys.length
 ln:zs'.length=ys.length
 tk:zs'.take kk=ddI (ys.take (m+1+q))
 kl:kk=(ddI (ys.take (m+1+q))).length
 kq:kk≤m+q
 same:∀ j,m+q≤j→zs'[j]? = ys[j]?
theorem CmpSt.start {ys:List Int} {m:Nat} (h:m+1<ys.length) (h1:ddI (ys.take (m+1))=ys.take (m+1)) (he:ys[m+1]=ys[m]):CmpSt ys ys m 1 (m+1):=by
 have hd:=ddI_take ys (m+1) (by omega) h;simp only [Nat.add_sub_cancel] at hd;rw [if_pos he,h1] at hd;exact ⟨by omega,by omega,rfl,hd.symm,by rw [hd];simp;omega,by omega,fun _ _=>rfl⟩
theorem CmpSt.skip {ys zs':List Int} {m q kk:Nat} (h:CmpSt ys zs' m q kk) (hl:m+1+q<ys.length) (he:ys[m+1+q]=ys[m+q]):CmpSt ys zs' m (q+1) kk:=by
 have hd:=ddI_take ys (m+1+q) (by omega) hl;simp only [show m+1+q-1=m+q by omega] at hd;rw [if_pos he] at hd;exact ⟨by omega,by omega,h.ln,by rw [show m+1+(q+1)=m+1+q+1 by omega,hd];exact h.tk,by rw [show m+1+(q+1)=m+1+q+1 by omega,hd];exact h.kl,by have:=h.kq;omega,fun j hj=>h.same j (by omega)⟩
theorem CmpSt.put {ys zs':List Int} {m q kk:Nat} (h:CmpSt ys zs' m q kk) (hl:m+1+q<ys.length) (he:¬ys[m+1+q]=ys[m+q]):CmpSt ys (zs'.set kk ys[m+1+q]) m (q+1) (kk+1):=by
 have hd:=ddI_take ys (m+1+q) (by omega) hl;simp only [show m+1+q-1=m+q by omega] at hd;rw [if_neg he] at hd;have hk:=h.kq;have hln:=h.ln;refine ⟨by omega,by omega,by rw [List.length_set];exact h.ln,?_,?_,by omega,fun j hj=>?_⟩
 ·rw [show m+1+(q+1)=m+1+q+1 by omega,hd,←h.tk,take_set _ _ _ (by omega)]
 ·rw [show m+1+(q+1)=m+1+q+1 by omega,hd,List.length_append,←h.kl];rfl
 ·rw [List.getElem?_set_ne (by omega)]
  exact h.same j (by omega)
theorem compactZ_any (ys:List Int) (g cap B:Nat) (w:World) (ho:OwnI w B (.slice (some ⟨g,0,none⟩) ys.length cap) ys) (hl:ys.length≤1000):
  Calls Tryz.prog 122 #[.slice (some ⟨g,0,none⟩) ys.length cap] w fun e w'=>e=.returned (.slice (some ⟨g,0,none⟩) (ddI ys).length cap)∧OwnI w' B (.slice (some ⟨g,0,none⟩) (ddI ys).length cap) (ddI ys)∧w.grownBy w' (some g):=by
 have hcap:ys.length≤cap∧cap≤maxLen:=by
  obtain ⟨_,_,e,h1,h2,_⟩:=At.of_own ho
  cases e;exact ⟨h1,h2⟩
 unfold maxLen at hcap
 by_cases h2:ys.length<2
 ·have hd:ddI ys=ys:=by
   have:=ddI_one ys;rwa [List.take_of_length_le (by omega)] at this
  have h2':((ys.length:Nat):Int)<2:=by omega
  rw [hd];go_enter Tryz.func122,Tryz.ntmps122;go_wp2_with fail;go_ret;exact ⟨rfl,ho,grown_refl _ _⟩
 ·have h2':¬((ys.length:Nat):Int)<2:=by omega
  have HD1:=hid (ddI_one ys);have HDT:=hid (fun m h0 hm=>ddI_take ys m h0 hm);have HO:=hid ho;clear ho;go_enter Tryz.func122,Tryz.ntmps122;go_wp2_with fail
  go_loopw [3] (fun k' wr=>∃ k:Nat,k'=.int .i64 k∧1≤k∧k≤ys.length∧ddI (ys.take k)=ys.take k∧Keeps w wr) (fun k' _=>ys.length-(intOf k').toNat)
  case atStart=>exact ⟨1,rfl,by omega,by omega,HD1.out,Keeps.refl _⟩
  case round=>
   obtain ⟨k,rfl,hk1,hk,hdk,kw⟩:=hrel;have HDK:=hid hdk;clear hdk
   by_cases hlt:k<ys.length
   ·obtain ⟨m,rfl⟩:∃ m,k=m+1:=⟨k-1,by omega⟩
    have hlt':(((m+1:Nat):Int)<ys.length):=by omega
    have hlt2:((m:Int)<ys.length):=by omega
    have hjx:((m+1:Nat):Int)-1=(m:Int):=by omega
    have hDT:=HDT.out (m+1) (by omega) hlt;simp only [Nat.add_sub_cancel] at hDT;obtain ⟨c1,f1⟩:=(HO.out.keeps (kw.trans (Keeps.refl wr).drew)).cell (m+1) hlt;obtain ⟨c2,f2⟩:=(HO.out.keeps (kw.trans (Keeps.refl wr).drew)).cell m (by omega)
    by_cases he:ys[m+1]=ys[m]'(by omega)
    ·have HCS:=hid (CmpSt.start hlt HDK.out he)
     have KW:=hid kw;clear hDT kw;have hlm:m+1<ys.length:=hlt;rw [he] at c1;generalize ys[m]'(by omega)=y at c1 c2;clear he;go_wp2_with fail
     go_region
     have KD:=hid (KW.out.trans (Keeps.refl wr).drew);clear c1 c2 f1 f2;generalize wr.drew=wA at*
     have hcm:¬cap=m+1:=by omega
     go_wp2_with fail
     go_loopw [3,5] (fun k' q' wr=>∃ (kk q:Nat) (zs':List Int),k'=.int .i64 kk∧q'=.int .i64 q∧CmpSt ys zs' m q kk∧OwnI wr B (.slice (some ⟨g,0,none⟩) ys.length cap) zs'∧w.grownBy wr (some g)) (fun _ q' _=>ys.length-(m+1+(intOf q').toNat))
     case atStart=>exact ⟨m+1,1,ys,by go_num,rfl,HCS.out,HO.out.keeps KD.out,keeps_grown KD.out _⟩
     case round=>
      obtain ⟨kk,q,zs',rfl,rfl,hS,hO2,hG⟩:=hrel;clear HCS KD
      obtain ⟨r,rfl⟩:∃ r,q=r+1:=⟨q-1,by have:=hS.q1;omega⟩
      have hqn:=hS.qn;have hkq:=hS.kq;have hln:=hS.ln
      by_cases hq:m+1+(r+1)<ys.length
      ·have hq':((r+1:Nat):Int)<((ys.length-(m+1):Nat):Int):=by omega
       have hO3:OwnI wr B (.slice (some ⟨g,0,none⟩) zs'.length cap) zs':=by rw [hln];exact hO2
       obtain ⟨c1,f1⟩:=(hO3.keeps (Keeps.refl wr).drew).cell (m+1+(r+1)) (by omega);obtain ⟨c2,f2⟩:=(hO3.keeps (Keeps.refl wr).drew).cell (m+1+r) (by omega);obtain ⟨c3,f3⟩:=(hO3.keeps (Keeps.refl wr).drew).cell kk (by omega)
       have e1:zs'[m+1+(r+1)]'(by omega)=ys[m+1+(r+1)]:=by
        have:=hS.same (m+1+(r+1)) (by omega);rwa [List.getElem?_eq_getElem (by omega),List.getElem?_eq_getElem hq,Option.some.injEq] at this
       have e2:zs'[m+1+r]'(by omega)=ys[m+(r+1)]'(by omega):=by
        have:=hS.same (m+1+r) (by omega);rw [List.getElem?_eq_getElem (by omega),List.getElem?_eq_getElem (by omega),Option.some.injEq] at this;rw [this]
        congr 1
        omega
       rw [e1] at c1;rw [e2] at c2
       have hjx:((r+1:Nat):Int)-1=(r:Int):=by omega
       have hr2:(r:Int)<((ys.length-(m+1):Nat):Int):=by omega
       by_cases he:ys[m+1+(r+1)]=ys[m+(r+1)]'(by omega)
       ·have HS:=hid (hS.skip hq he)
        rw [he] at c1;have HO2:=hid hO2;clear hS hO2 hO3 e1 e2 he c3 f3;generalize ys[m+(r+1)]'(by omega)=y at*;go_wp2_with fail
        go_region
        go_wp2_with fail;go_roundw
        case rel=>exact ⟨kk,r+1+1,_,rfl,by go_num,HS.out,HO2.out.keeps (Keeps.refl wr).drew,grown_trans hG (keeps_grown (Keeps.refl wr).drew _)⟩
        case measure=>simp [intOf];omega
       ·have HS:=hid (hS.put hq he)
        have hne:(ys[m+1+(r+1)]==ys[m+(r+1)]'(by omega))=false:=by simpa using he
        have HST:=hid (fun wz (kz:Keeps wr wz)=>(show OwnI (wz.setCell ⟨g,kk,none⟩ (.int .i64 ys[m+1+(r+1)])) B (.slice (some ⟨g,0,none⟩) ys.length cap) (zs'.set kk ys[m+1+(r+1)])∧w.grownBy (wz.setCell ⟨g,kk,none⟩ (.int .i64 ys[m+1+(r+1)])) (some g) from by
         obtain ⟨s1,s2⟩:=(hO3.keeps kz).store kk (by omega) ys[m+1+(r+1)]
         exact ⟨by rw [←hln];exact s1,grown_trans (grown_trans hG (keeps_grown kz _)) s2⟩))
        have hkk:(kk:Int)<ys.length:=by omega
        clear hS hO2 hO3 e1 e2 he;generalize ys[m+1+(r+1)]=x at*;generalize ys[m+(r+1)]'(by omega)=y at*
        have hne2:¬x=y:=by simpa using hne
        go_wp2_with fail
        go_region
        have KD:=hid (Keeps.refl wr).drew;generalize wr.drew=wB at*;go_wp2_with fail;go_roundw
        case rel=>exact ⟨kk+1,r+1+1,_,by go_num,by go_num,HS.out,(HST.out wB KD.out).1,(HST.out wB KD.out).2⟩
        case measure=>simp [intOf];omega
      ·have hq':¬((r+1:Nat):Int)<((ys.length-(m+1):Nat):Int):=by omega
       have hqe:m+1+(r+1)=ys.length:=by omega
       have htk:=hS.tk;have hkl:=hS.kl;rw [hqe,List.take_length] at htk hkl
       have hO3:OwnI wr B (.slice (some ⟨g,0,none⟩) zs'.length cap) zs':=by rw [hln];exact hO2
       have hz:=OwnI.zeroed 0 (ys.length-kk) kk wr zs' (by omega) hO3
       have hcl:∀ ty,(Builtin.clear_ #[28] ty #[.slice (some ⟨g,kk,none⟩) (ys.length-kk) (cap-kk)]).run Tryz.prog wr=.ok (.tuple #[]) (wr.setCells g kk (List.replicate (ys.length-kk) (.int .i64 0))):=
        fun ty=>Lib.run_clear_slice wr _ _ ty _ Tryz.underlying28 (fun _=>Tryz.zeroValue2 _) rfl rfl g kk _ _ (by omega)
         (fun j hj=>by rw [(hO3.cell (kk+j) (by omega)).1];rfl)
         (fun j hj=>(hO3.cell (kk+j) (by omega)).2)
       have hck:¬cap=kk:=by omega
       have HZ:=hid hz;have HKL:=hid hkl;have HTK:=hid htk
       have hkk:(kk:Int)≤ys.length:=by omega
       clear hz hS hkl htk hO2 hO3;go_wp2_with fail;go_ret;obtain ⟨a',h1,h2,h3,h4⟩:=HZ.out;rw [←HKL.out];refine ⟨by simp,?_,grown_trans hG h4⟩;have:=OwnI.cut (a:=a') (by rw [h1];exact h3) kk (by omega);rw [h2,HTK.out] at this;exact this
    ·rw [if_neg he] at hDT
     have HDT2:=hid (show ddI (ys.take (m+1+1))=ys.take (m+1+1) from by rw [hDT,HDK.out,←List.take_succ_eq_append_getElem hlt]);have KW:=hid kw;clear hDT kw;generalize ys[m+1]=x at*;generalize ys[m]'(by omega)=y at*;go_wp2_with fail
     go_region
     go_wp2_with fail;go_roundw
     case rel=>exact ⟨m+1+1,by go_num,by omega,by omega,HDT2.out,KW.out.drew⟩
     case measure=>simp [intOf];omega
   ·obtain rfl:k=ys.length:=by omega
    have hlt':¬((ys.length:Nat):Int)<ys.length:=by omega
    have hd:ddI ys=ys:=by have:=HDK.out;rwa [List.take_length] at this
    have HDD:=hid hd;clear hd;go_wp2_with fail;go_ret;rw [HDD.out];exact ⟨rfl,HO.out.keeps kw,keeps_grown kw _⟩
theorem indexZ_any (a:List Int) (x:Int) (v:Value) (w:World) (hv:Ints w v a):
  Calls Tryz.prog 183 #[v,.int .i64 x] w fun e w'=>(∃ r:Int,e=.returned (.int .i64 r)∧decide (r≥0)=a.contains x)∧w=w':=by
 have hv0:=hv;obtain ⟨p,cap,rfl,_,hmx,_,hl1⟩:=hv;unfold maxLen at hmx
 have HA:=hid (fun i (hi:i<a.length)=>(show ∃ b off,p=some ⟨b,off,none⟩∧w.cell? ⟨b,off+i,none⟩=some (.int .i64 a[i]) from by
  obtain ⟨_,_,e,_,_,hat,_⟩:=hv0
  cases e
  exact hat.int i hi))
 clear hv0;go_enter Tryz.func183,Tryz.ntmps183;go_wp2_with fail
 go_loopw [8] (fun i' wr=>∃ i:Nat,i≤a.length∧i'=.int .i64 i∧Hid (∀ y∈a.take i,y≠x)∧w=wr) (fun i' _=>a.length-(intOf i').toNat)
 case atStart=>exact ⟨0,by omega,rfl,hid (by simp),rfl⟩
 case round=>
  obtain ⟨i,hi,rfl,HJ,rfl⟩:=hrel
  by_cases hlt:i<a.length
  ·have hlt':(i:Int)<a.length:=by omega
   obtain ⟨b1,o1,rfl,h1⟩:=HA.out i hlt
   by_cases hx:a[i]=x
   ·have HR:Hid (a.contains x=true):=hid (List.contains_iff_mem.2 (hx▸List.getElem_mem hlt))
    have heq:((x:Int)==a[i])=true:=by simp [hx]
    generalize a[i]=y at*;go_wp2_with fail;go_ret;exact ⟨⟨i,rfl,by rw [HR.out];simp⟩,rfl⟩
   ·have HJ2:Hid (∀ y∈a.take (i+1),y≠x):=hid fun y hy=>by
     rw [List.take_succ_eq_append_getElem hlt] at hy
     rcases List.mem_append.1 hy with h | h
     ·exact HJ.out y h
     ·rw [List.mem_singleton.1 h];exact hx
    have heq:((x:Int)==a[i])=false:=by simp [Ne.symm hx]
    clear hx;generalize a[i]=y at h1 heq;go_wp2_with fail;go_roundw
    case rel=>exact ⟨i+1,by omega,by go_num,HJ2,trivial⟩
    case measure=>simp [intOf];omega
  ·obtain rfl:i=a.length:=by omega
   have hlt':¬((a.length:Nat):Int)<a.length:=by omega
   have HR:Hid (a.contains x=false):=hid (by
    have h:=HJ.out;rw [List.take_length] at h
    cases hc:a.contains x
    ·rfl
    ·exact absurd rfl (h x (List.contains_iff_mem.1 hc)))
   go_wp2_with fail;go_ret;exact ⟨⟨-1,rfl,by have h:=HR.out;simp at h;simp [h]⟩,rfl⟩
theorem containsZ_any (a:List Int) (x:Int) (v:Value) (w:World) (hv:Ints w v a):
  Calls Tryz.prog 152 #[v,.int .i64 x] w fun e w'=>e=.returned (.bool (a.contains x))∧w=w':=by
 have HI:=hid (indexZ_any a x v w hv);obtain ⟨p,cap,rfl,_⟩:=hv;go_enter Tryz.func152,Tryz.ntmps152;go_wp2_with fail;refine HI.out.mono ?_;rintro e w2 ⟨⟨r,rfl,hr⟩,rfl⟩;have HR:=hid hr;clear hr;go_wp2_with fail;go_ret;exact ⟨ret_bool HR.out,rfl⟩
theorem compactZ_nil (p:Option Addr) (c:Nat) (w:World):Calls Tryz.prog 122 #[.slice p 0 c] w fun e w'=>e=.returned (.slice p 0 c)∧w=w':=by
 go_enter Tryz.func122,Tryz.ntmps122;go_wp2_with fail;go_ret;exact ⟨rfl,rfl⟩
theorem sizeNL_any (p:Option Addr) (n c:Nat) (w:World):Calls Tryz.prog 151 #[.slice p n c] w fun e w'=>e=.returned (.int .i64 n)∧w=w':=by
 go_enter Tryz.func151,Tryz.ntmps151;go_wp2_with fail;go_ret;exact ⟨rfl,rfl⟩
def prtF:Fm→List Fm
 | .var _=>[]
 | .fls=>[]
 | .and a b=>[a,b]
 | .or a b=>[a,b]
 | .imp a b=>[a,b]
 | .box a=>[a]
 | .dia a=>[a]
theorem prt_tail (t:Fm):t.tail=(prtF t).flatMap Fm.enc:=by cases t<;>simp [prtF,Fm.tail]
theorem kind_var (t:Fm):t.kind=0↔∃ v,t=.var v:=by cases t<;>simp [Fm.kind]
theorem sym_zero {t:Fm} (h:t.kind≠0):t.sym=0:=by cases t<;>simp_all [Fm.kind,Fm.sym]
theorem prt_len {t u:Fm} (h:u.kind=t.kind):(prtF u).length=(prtF t).length:=by cases t<;>cases u<;>simp_all [Fm.kind,prtF]
theorem mt_node {n:Nat} {t u:Fm} {ts us:List Fm} {σ:Nat→Option Fm} (ht:t.kind≠0):mtF (n+1) (t::ts) (u::us) σ=if u.kind=t.kind then mtF n (prtF t++ts) (prtF u++us) σ else none:=by
 cases t<;>cases u<;>simp [Fm.kind,mtF,prtF] at ht ⊢
structure MtSt (R:Bool) (a b:List Nd) (i j:Nat) (σ:Nat→Option Fm) (ts us:List Fm):Prop where
 ia:i≤a.length
 ib:j≤b.length
 ra:a.drop i=ts.flatMap Fm.enc
 rb:b.drop j=us.flatMap Fm.enc
 len:us.length=ts.length
 res:R=(mtF ((ts.flatMap Fm.enc).length+1) ts us σ).isSome
theorem MtSt.start {s t:Fm}:MtSt ((mtF (s.enc.length+1) [s] [t] (fun _=>none)).isSome) s.enc t.enc 0 0 (fun _=>none) [s] [t]:=
 ⟨Nat.zero_le _,Nat.zero_le _,by simp,by simp,rfl,by simp⟩
theorem flat_pos {ts:List Fm} (h:ts≠[]):0<(ts.flatMap Fm.enc).length:=by
 cases ts with
 | nil=>exact absurd rfl h
 | cons t ts=>have:=Fm.enc_pos t;simp;omega
theorem MtSt.done {R:Bool} {a b:List Nd} {i j:Nat} {σ:Nat→Option Fm} {ts us:List Fm} (h:MtSt R a b i j σ ts us) (hi:i=a.length):R=true∧j=b.length:=by
 have h1:(ts.flatMap Fm.enc).length=0:=by rw [←h.ra];simp;omega
 have h2:ts=[]:=Classical.byContradiction fun e=>by have:=flat_pos e;omega
 have h3:us=[]:=List.eq_nil_of_length_eq_zero (by rw [h.len,h2];rfl);subst h2 h3;have h4:=h.rb
 have h5:(b.drop j).length=0:=by rw [h4];rfl
 have:=h.ib;refine ⟨by rw [h.res];simp [mtF],?_⟩;rw [List.length_drop] at h5;omega
theorem MtSt.open {R:Bool} {a b:List Nd} {i j:Nat} {σ:Nat→Option Fm} {ts us:List Fm} (h:MtSt R a b i j σ ts us) (hi:i<a.length):
  ∃ t ts' u us',ts=t::ts'∧us=u::us'∧j<b.length∧a[i]? = some ⟨t.kind,t.sym⟩∧b[j]? = some ⟨u.kind,u.sym⟩∧b.drop j=u.enc++us'.flatMap Fm.enc:=by
 have h1:0<(a.drop i).length:=by simp;omega
 cases ts with
 | nil=>rw [h.ra] at h1;simp at h1
 | cons t ts'=>
  cases us with
  | nil=>have:=h.len;simp at this
  | cons u us'=>
   have ra:=h.ra;have rb:=h.rb;simp only [List.flatMap_cons] at ra rb;have hu:=Fm.enc_pos u
   have hj:j<b.length:=by
    have:(b.drop j).length=(u.enc++us'.flatMap Fm.enc).length:=by rw [rb]
    simp at this;omega
   refine ⟨t,ts',u,us',rfl,rfl,hj,?_,?_,rb⟩
   ·rw [List.drop_eq_getElem_cons hi,Fm.enc_head] at ra
    simp only [List.cons_append,List.cons.injEq] at ra;rw [List.getElem?_eq_getElem hi,ra.1]
   ·rw [List.drop_eq_getElem_cons hj,Fm.enc_head] at rb
    simp only [List.cons_append,List.cons.injEq] at rb;rw [List.getElem?_eq_getElem hj,rb.1]
theorem MtSt.node {R:Bool} {a b:List Nd} {i j:Nat} {σ:Nat→Option Fm} {t u:Fm} {ts us:List Fm} (h:MtSt R a b i j σ (t::ts) (u::us)) (hi:i<a.length) (hj:j<b.length) (ht:t.kind≠0):
  (u.kind=t.kind→MtSt R a b (i+1) (j+1) σ (prtF t++ts) (prtF u++us))∧(u.kind≠t.kind→R=false):=by
 have ra:=h.ra;have rb:=h.rb;simp only [List.flatMap_cons] at ra rb;have ra2:=ra;have rb2:=rb;rw [List.drop_eq_getElem_cons hi,Fm.enc_head,prt_tail] at ra2;rw [List.drop_eq_getElem_cons hj,Fm.enc_head,prt_tail] at rb2;simp only [List.cons_append,List.cons.injEq] at ra2 rb2;have hr:=h.res
 have hlen:((t::ts).flatMap Fm.enc).length=((prtF t++ts).flatMap Fm.enc).length+1:=by
  simp only [List.flatMap_cons,List.flatMap_append];rw [Fm.enc_head,prt_tail];simp
 rw [hlen,mt_node ht] at hr;constructor
 ·intro e
  rw [if_pos e] at hr;refine ⟨by omega,by omega,by rw [ra2.2,List.flatMap_append],by rw [rb2.2,List.flatMap_append],?_,hr⟩;have:=h.len;simp only [List.length_append,prt_len e]
  simp at this;omega
 ·intro e
  rw [if_neg e] at hr;exact hr
theorem MtSt.var {R:Bool} {a b:List Nd} {i j v:Nat} {σ:Nat→Option Fm} {u:Fm} {ts us:List Fm} (h:MtSt R a b i j σ (.var v::ts) (u::us)) (hi:i<a.length):
  ((σ v=none∨σ v=some u)→MtSt R a b (i+1) (j+u.enc.length) (bindO σ v u) ts us)∧(¬(σ v=none∨σ v=some u)→R=false):=by
 have ra:=h.ra;have rb:=h.rb;simp only [List.flatMap_cons] at ra rb;have ra2:=ra;rw [List.drop_eq_getElem_cons hi] at ra2;simp only [Fm.enc,List.cons_append,List.nil_append,List.cons.injEq] at ra2;have hr:=h.res
 have hlen:((Fm.var v::ts).flatMap Fm.enc).length=(ts.flatMap Fm.enc).length+1:=by simp [Fm.enc]
 rw [hlen] at hr;unfold mtF at hr
 have hjl:j+u.enc.length≤b.length:=by
  have e:(b.drop j).length=(u.enc++us.flatMap Fm.enc).length:=by rw [rb]
  have:=h.ib;rw [List.length_drop,List.length_append] at e;omega
 constructor
 ·intro e
  rw [if_pos e] at hr;refine ⟨by omega,hjl,ra2.2,?_,by simpa using h.len,hr⟩;rw [←List.drop_drop,rb];simp
 ·intro e
  rw [if_neg e] at hr;exact hr
end Go.Proofs.YtbccmdfdclomiaaGreatDoor
