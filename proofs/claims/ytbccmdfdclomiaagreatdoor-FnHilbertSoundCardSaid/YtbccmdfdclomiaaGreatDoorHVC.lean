import Derived.Test.YtbccmdfdclomiaaGreatDoorHMI
/- own -/
namespace Go.Proofs.YtbccmdfdclomiaaGreatDoor
set_option maxRecDepth 20000
set_option maxHeartbeats 8000000
open Go.RowKit
theorem sPrefixA (m:Nat) (hm0:∀ m',m'<m→ReadA 214 m') (hi:∀ m',m'<m→ReadA 274 m'):ReadA 274 m:=by
 intro w r s i bad h hS hm;have HI:=hid hi;clear hi;have HM:=hid hm0;clear hm0;have hr:=h.lt;go_enter Tryz.func274,Tryz.ntmps274;go_wp2_with fail
 go_loopw [4] (fun q' wr=>∃ q:Nat,q≤6∧q'=.int .i64 q∧Keeps w wr) (fun q' _=>6-(intOf q').toNat)
 case atStart=>exact ⟨0,by omega,rfl,Keeps.refl w⟩
 case round=>
  obtain ⟨q,hqv,rfl,kj⟩:=hrel
  have hq6:q=0∨q=1∨q=2∨q=3∨q=4∨q=5∨q=6:=by omega
  rcases hq6 with rfl | rfl | rfl | rfl | rfl | rfl | rfl
  ·have HM1:=hid (l02Take_any (k:=112) 112 (h.keeps kj) rfl)
   go_wp2_with fail;refine HM1.out.mono ?_;rintro e w6 (⟨rfl,rfl,hib,h6,g6⟩ | ⟨rfl,h6,k6⟩)
   ·have gg:=grown_pre0 kj g6
    go_wp2_with fail;refine (l02Var_any 0 _).mono ?_;rintro e w7 ⟨v7,rfl,hv7,k7⟩;go_wp2_with fail;go_ret;exact ⟨_,Fm.var 0,i+1,false,rfl,(by simp [Fm.wf]),hv7.mono gg.size,h6.keeps k7,by omega,(by simp [Fm.enc]),grown_keeps gg k7⟩
   ·go_wp2_with fail
    go_roundw
    case rel=>exact ⟨0+1,by omega,by first | rfl | go_num,kj.trans k6⟩
    case measure=>simp [intOf]
  ·have HM1:=hid (l02Take_any (k:=113) 113 (h.keeps kj) rfl)
   go_wp2_with fail;refine HM1.out.mono ?_;rintro e w6 (⟨rfl,rfl,hib,h6,g6⟩ | ⟨rfl,h6,k6⟩)
   ·have gg:=grown_pre0 kj g6
    go_wp2_with fail;refine (l02Var_any 1 _).mono ?_;rintro e w7 ⟨v7,rfl,hv7,k7⟩;go_wp2_with fail;go_ret;exact ⟨_,Fm.var 1,i+1,false,rfl,(by simp [Fm.wf]),hv7.mono gg.size,h6.keeps k7,by omega,(by simp [Fm.enc]),grown_keeps gg k7⟩
   ·go_wp2_with fail
    go_roundw
    case rel=>exact ⟨1+1,by omega,by first | rfl | go_num,kj.trans k6⟩
    case measure=>simp [intOf]
  ·have HM1:=hid (l02Take_any (k:=114) 114 (h.keeps kj) rfl)
   go_wp2_with fail;refine HM1.out.mono ?_;rintro e w6 (⟨rfl,rfl,hib,h6,g6⟩ | ⟨rfl,h6,k6⟩)
   ·have gg:=grown_pre0 kj g6
    go_wp2_with fail;refine (l02Var_any 2 _).mono ?_;rintro e w7 ⟨v7,rfl,hv7,k7⟩;go_wp2_with fail;go_ret;exact ⟨_,Fm.var 2,i+1,false,rfl,(by simp [Fm.wf]),hv7.mono gg.size,h6.keeps k7,by omega,(by simp [Fm.enc]),grown_keeps gg k7⟩
   ·go_wp2_with fail
    go_roundw
    case rel=>exact ⟨2+1,by omega,by first | rfl | go_num,kj.trans k6⟩
    case measure=>simp [intOf]
  ·have HM1:=hid (l02Take_any (k:=115) 115 (h.keeps kj) rfl)
   go_wp2_with fail;refine HM1.out.mono ?_;rintro e w6 (⟨rfl,rfl,hib,h6,g6⟩ | ⟨rfl,h6,k6⟩)
   ·have gg:=grown_pre0 kj g6
    go_wp2_with fail;refine (l02Var_any 3 _).mono ?_;rintro e w7 ⟨v7,rfl,hv7,k7⟩;go_wp2_with fail;go_ret;exact ⟨_,Fm.var 3,i+1,false,rfl,(by simp [Fm.wf]),hv7.mono gg.size,h6.keeps k7,by omega,(by simp [Fm.enc]),grown_keeps gg k7⟩
   ·go_wp2_with fail
    go_roundw
    case rel=>exact ⟨3+1,by omega,by first | rfl | go_num,kj.trans k6⟩
    case measure=>simp [intOf]
  ·have HM1:=hid (l02Take_any (k:=116) 116 (h.keeps kj) rfl)
   go_wp2_with fail;refine HM1.out.mono ?_;rintro e w6 (⟨rfl,rfl,hib,h6,g6⟩ | ⟨rfl,h6,k6⟩)
   ·have gg:=grown_pre0 kj g6
    go_wp2_with fail;refine (l02Var_any 4 _).mono ?_;rintro e w7 ⟨v7,rfl,hv7,k7⟩;go_wp2_with fail;go_ret;exact ⟨_,Fm.var 4,i+1,false,rfl,(by simp [Fm.wf]),hv7.mono gg.size,h6.keeps k7,by omega,(by simp [Fm.enc]),grown_keeps gg k7⟩
   ·go_wp2_with fail
    go_roundw
    case rel=>exact ⟨4+1,by omega,by first | rfl | go_num,kj.trans k6⟩
    case measure=>simp [intOf]
  ·have HM1:=hid (l02Take_any (k:=117) 117 (h.keeps kj) rfl)
   go_wp2_with fail;refine HM1.out.mono ?_;rintro e w6 (⟨rfl,rfl,hib,h6,g6⟩ | ⟨rfl,h6,k6⟩)
   ·have gg:=grown_pre0 kj g6
    go_wp2_with fail;refine (l02Var_any 5 _).mono ?_;rintro e w7 ⟨v7,rfl,hv7,k7⟩;go_wp2_with fail;go_ret;exact ⟨_,Fm.var 5,i+1,false,rfl,(by simp [Fm.wf]),hv7.mono gg.size,h6.keeps k7,by omega,(by simp [Fm.enc]),grown_keeps gg k7⟩
   ·go_wp2_with fail
    go_roundw
    case rel=>exact ⟨5+1,by omega,by first | rfl | go_num,kj.trans k6⟩
    case measure=>simp [intOf]
  ·have hj0:=h.keeps kj
   have HT70:=hid (l02Take_any (k:=70) 70 hj0 rfl);go_wp2_with fail;refine HT70.out.mono ?_;rintro e wa (⟨rfl,rfl,hib,ha,ga⟩ | ⟨rfl,hq70,kq70⟩)
   ·have g0:=grown_pre0 kj ga
    go_wp2_with fail;refine (l02False_any _).mono ?_;rintro e wb ⟨vb,rfl,hvb,kb⟩;go_wp2_with fail;go_ret;exact ⟨_,Fm.fls,i+1,false,rfl,(by simp [Fm.wf]),hvb.mono g0.size,ha.keeps kb,by omega,(by simp [Fm.enc];try omega),grown_keeps g0 kb⟩
   ·skip
    have HT84:=hid (l02Take_any (k:=84) 84 hq70 rfl);go_wp2_with fail;refine HT84.out.mono ?_;rintro e wa (⟨rfl,rfl,hib,ha,ga⟩ | ⟨rfl,hq84,kq84⟩)
    ·have g0:=grown_pre0 (kj.trans kq70) ga
     go_wp2_with fail;refine (l02True_any _).mono ?_;rintro e wb ⟨vb,rfl,hvb,kb⟩;go_wp2_with fail;go_ret;exact ⟨_,Fm.imp .fls .fls,i+1,false,rfl,(by simp [Fm.wf]),hvb.mono g0.size,ha.keeps kb,by omega,(by simp [Fm.enc];try omega),grown_keeps g0 kb⟩
    ·skip
     have HT126:=hid (l02Take_any (k:=126) 126 hq84 rfl);go_wp2_with fail;refine HT126.out.mono ?_;rintro e wa (⟨rfl,rfl,hib,ha,ga⟩ | ⟨rfl,hq126,kq126⟩)
     ·have g0:=grown_pre0 ((kj.trans kq70).trans kq84) ga
      have HY:=hid (HI.out (s.size-(i+1)) (by omega) wa r s (i+1) false ha hS (Nat.le_refl _));go_wp2_with fail;refine HY.out.mono ?_;rintro e wb ⟨vb,tb,jb,bb,rfl,hwb,hvb,hb,hjb,hlb,gb⟩;have gg:=grown_trans g0 gb;have hle:=hb.le;go_wp2_with fail;refine (l02Not_any tb _ _ (hvb.nds (by omega)) (by omega)).mono ?_;rintro e wc ⟨vc,rfl,hvc,kc⟩;go_wp2_with fail;go_ret;exact ⟨_,Fm.imp tb .fls,jb,bb,rfl,⟨hwb,trivial⟩,hvc.mono gg.size,hb.keeps kc,by omega,(by simp only [Fm.enc,List.length_cons,List.length_append,List.length_nil];omega),grown_keeps gg kc⟩
     ·skip
      have HT91:=hid (l02Take_any (k:=91) 91 hq126 rfl);go_wp2_with fail;refine HT91.out.mono ?_;rintro e wa (⟨rfl,rfl,hib,ha,ga⟩ | ⟨rfl,hq91,kq91⟩)
      ·have g0:=grown_pre0 (((kj.trans kq70).trans kq84).trans kq126) ga
       have HN:=hid (sNeedA (k:=93) 93 ha rfl);go_wp2_with fail;refine HN.out.mono ?_;rintro e wn ⟨jn,bn,rfl,hjn,hn,gn⟩;have hlen:=hn.le;have HY:=hid (HI.out (s.size-jn) (by omega) wn r s jn bn hn hS (Nat.le_refl _));go_wp2_with fail;refine HY.out.mono ?_;rintro e wb ⟨vb,tb,jb,bb,rfl,hwb,hvb,hb,hjb,hlb,gb⟩;have gg:=grown_trans g0 (grown_trans gn gb);have hle:=hb.le;go_wp2_with fail;refine (l02Pre_any 5 _ _ _ (hvb.nds (by omega)) (by omega)).mono ?_;rintro e wc ⟨vc,rfl,hvc,kc⟩;go_wp2_with fail;go_ret;exact ⟨_,Fm.box tb,jb,bb,rfl,hwb,hvc.mono gg.size,hb.keeps kc,by omega,(by simp only [Fm.enc,List.length_cons];omega),grown_keeps gg kc⟩
      ·skip
       have HT60:=hid (l02Take_any (k:=60) 60 hq91 rfl);go_wp2_with fail;refine HT60.out.mono ?_;rintro e wa (⟨rfl,rfl,hib,ha,ga⟩ | ⟨rfl,hq60,kq60⟩)
       ·have g0:=grown_pre0 ((((kj.trans kq70).trans kq84).trans kq126).trans kq91) ga
        have HN:=hid (sNeedA (k:=62) 62 ha rfl);go_wp2_with fail;refine HN.out.mono ?_;rintro e wn ⟨jn,bn,rfl,hjn,hn,gn⟩;have hlen:=hn.le;have HY:=hid (HI.out (s.size-jn) (by omega) wn r s jn bn hn hS (Nat.le_refl _));go_wp2_with fail;refine HY.out.mono ?_;rintro e wb ⟨vb,tb,jb,bb,rfl,hwb,hvb,hb,hjb,hlb,gb⟩;have gg:=grown_trans g0 (grown_trans gn gb);have hle:=hb.le;go_wp2_with fail;refine (l02Pre_any 6 _ _ _ (hvb.nds (by omega)) (by omega)).mono ?_;rintro e wc ⟨vc,rfl,hvc,kc⟩;go_wp2_with fail;go_ret;exact ⟨_,Fm.dia tb,jb,bb,rfl,hwb,hvc.mono gg.size,hb.keeps kc,by omega,(by simp only [Fm.enc,List.length_cons];omega),grown_keeps gg kc⟩
       ·skip
        have HT40:=hid (l02Take_any (k:=40) 40 hq60 rfl);go_wp2_with fail;refine HT40.out.mono ?_;rintro e wa (⟨rfl,rfl,hib,ha,ga⟩ | ⟨rfl,hq40,kq40⟩)
        ·have g0:=grown_pre0 (((((kj.trans kq70).trans kq84).trans kq126).trans kq91).trans kq60) ga
         have HY:=hid (HM.out (s.size-(i+1)) (by omega) wa r s (i+1) false ha hS (Nat.le_refl _));have hra:=ha.lt;go_wp2_with fail;refine HY.out.mono ?_;rintro e wb ⟨vb,tb,jb,bb,rfl,hwb,hvb,hb,hjb,hlb,gb⟩;have HN:=hid (sNeedA (k:=41) 41 hb rfl);go_wp2_with fail;refine HN.out.mono ?_;rintro e wn ⟨jn,bn,rfl,hjn,hn,gn⟩;go_wp2_with fail;go_ret;exact ⟨_,tb,jn,bn,rfl,hwb,(hvb.grown gn hra).mono g0.size,hn,by omega,by omega,grown_trans g0 (grown_trans gb gn)⟩
        ·skip
         have hs:=hq40.spoiled;have kz:=((((((kj.trans kq70).trans kq84).trans kq126).trans kq91).trans kq60).trans kq40);have gg:=grown_pre0 kz (grown_set r 2 (.bool true));obtain ⟨c0,c1,c2,f1,f2,le,sz⟩:=hq40;go_wp2_with fail;refine (l02False_any _).mono ?_;rintro e w7 ⟨v7,rfl,hv7,k7⟩;go_wp2_with fail;go_ret;exact ⟨_,Fm.fls,i,true,rfl,trivial,hv7.mono gg.size,hs.keeps k7,Nat.le_refl _,(by simp [Fm.enc]),grown_keeps gg k7⟩
theorem sAndA (m:Nat) (hp:ReadA 274 m):ReadA 260 m:=by
 intro w r s i bad h hS hm;have HP:=hid hp;clear hp;have hr:=h.lt;have H0:=hid (HP.out w r s i bad h hS hm);clear h;go_enter Tryz.func260,Tryz.ntmps260;go_wp2_with fail;refine H0.out.mono ?_;rintro e w1 ⟨v1,t1,j1,b1,rfl,hw1,hv1,h1,hj1,hl1,g1⟩;clear H0;go_wp2_with fail
 go_loopw [3] (fun a' wr=>LoopA w r s i a' wr) (fun _ wr=>match wr.cell? ⟨r,1,none⟩ with | some (.int _ n)=>s.size-n.toNat | _=>0)
 case atStart=>exact ⟨t1,j1,b1,hw1,hv1,h1,hj1,hl1,g1⟩
 case round=>
  obtain ⟨t,j,b,hw,hacc,hj,hij,hl,gj⟩:=hrel;clear hw1 hv1 h1 hj1 hl1 g1;have HT:=hid (l02Take_any (k:=38) 38 hj rfl);have hle:=hj.le;go_wp2_with fail;refine HT.out.mono ?_;rintro e w2 (⟨rfl,rfl,hi2,h2,g2⟩ | ⟨rfl,h2,k2⟩)
  ·have hacc2:=hacc.grown g2 hr
   have HY:=hid (HP.out w2 r s (j+1) false h2 hS (by omega));clear hacc;go_wp2_with fail;refine HY.out.mono ?_;rintro e w3 ⟨v3,t3,j3,b3,rfl,hw3,hv3,h3,hj3,hl3,g3⟩;have hacc3:=hacc2.grown g3 hr;have hs2:=gj.size;have hs3:=g2.size;have hs4:=g3.size;have gw3:=grown_trans gj (grown_trans g2 g3);have hle3:=h3.le;go_wp2_with fail;refine (l02Pair_any _ _ _ _ _ _ (hacc3.nds (by omega)) (hv3.nds (by omega)) (by omega)).mono ?_;rintro e w4 ⟨v4,rfl,hv4,k4⟩;have h4:=h3.keeps k4;go_wp2_with fail;go_roundw
   case rel=>exact ⟨Fm.and t t3,j3,b3,⟨hw,hw3⟩,hv4.mono (by omega),h4,by omega,(by simp only [Fm.enc,List.length_cons,List.length_append];omega),grown_keeps gw3 k4⟩
   case measure=>
    have e1:=hj.c1;have e2:=h4.c1;simp [e1,e2];omega
  ·go_wp2_with fail
   go_ret;exact ⟨_,t,j,b,rfl,hw,hacc.keeps k2,h2,hij,hl,grown_keeps gj k2⟩
theorem sOrA (m:Nat) (hp:ReadA 260 m):ReadA 236 m:=by
 intro w r s i bad h hS hm;have HP:=hid hp;clear hp;have hr:=h.lt;have H0:=hid (HP.out w r s i bad h hS hm);clear h;go_enter Tryz.func236,Tryz.ntmps236;go_wp2_with fail;refine H0.out.mono ?_;rintro e w1 ⟨v1,t1,j1,b1,rfl,hw1,hv1,h1,hj1,hl1,g1⟩;clear H0;go_wp2_with fail
 go_loopw [3] (fun a' wr=>LoopA w r s i a' wr) (fun _ wr=>match wr.cell? ⟨r,1,none⟩ with | some (.int _ n)=>s.size-n.toNat | _=>0)
 case atStart=>exact ⟨t1,j1,b1,hw1,hv1,h1,hj1,hl1,g1⟩
 case round=>
  obtain ⟨t,j,b,hw,hacc,hj,hij,hl,gj⟩:=hrel;clear hw1 hv1 h1 hj1 hl1 g1;have HT:=hid (l02Take_any (k:=124) 124 hj rfl);have hle:=hj.le;go_wp2_with fail;refine HT.out.mono ?_;rintro e w2 (⟨rfl,rfl,hi2,h2,g2⟩ | ⟨rfl,h2,k2⟩)
  ·have hacc2:=hacc.grown g2 hr
   have HY:=hid (HP.out w2 r s (j+1) false h2 hS (by omega));clear hacc;go_wp2_with fail;refine HY.out.mono ?_;rintro e w3 ⟨v3,t3,j3,b3,rfl,hw3,hv3,h3,hj3,hl3,g3⟩;have hacc3:=hacc2.grown g3 hr;have hs2:=gj.size;have hs3:=g2.size;have hs4:=g3.size;have gw3:=grown_trans gj (grown_trans g2 g3);have hle3:=h3.le;go_wp2_with fail;refine (l02Pair_any _ _ _ _ _ _ (hacc3.nds (by omega)) (hv3.nds (by omega)) (by omega)).mono ?_;rintro e w4 ⟨v4,rfl,hv4,k4⟩;have h4:=h3.keeps k4;go_wp2_with fail;go_roundw
   case rel=>exact ⟨Fm.or t t3,j3,b3,⟨hw,hw3⟩,hv4.mono (by omega),h4,by omega,(by simp only [Fm.enc,List.length_cons,List.length_append];omega),grown_keeps gw3 k4⟩
   case measure=>
    have e1:=hj.c1;have e2:=h4.c1;simp [e1,e2];omega
  ·go_wp2_with fail
   go_ret;exact ⟨_,t,j,b,rfl,hw,hacc.keeps k2,h2,hij,hl,grown_keeps gj k2⟩
theorem sImplyA (m:Nat) (hp:ReadA 236 m) (hi:∀ m',m'<m→ReadA 214 m'):ReadA 214 m:=by
 intro w r s i bad h hS hm;have HI:=hid hi;clear hi;have hr:=h.lt;have H0:=hid (hp w r s i bad h hS hm);clear h hp;go_enter Tryz.func214,Tryz.ntmps214;go_wp2_with fail;refine H0.out.mono ?_;rintro e w1 ⟨v1,t1,j1,b1,rfl,hw1,hv1,h1,hj1,hl1,g1⟩;clear H0;have HT:=hid (l02Take_any (k:=62) 62 h1 rfl);go_wp2_with fail;refine HT.out.mono ?_;rintro e w2 (⟨rfl,rfl,hi2,h2,g2⟩ | ⟨rfl,h2,k2⟩)
 ·have HY:=hid (HI.out (s.size-(j1+1)) (by omega) w2 r s (j1+1) false h2 hS (Nat.le_refl _))
  go_wp2_with fail;refine HY.out.mono ?_;rintro e w3 ⟨v3,t3,j3,b3,rfl,hw3,hv3,h3,hj3,hl3,g3⟩;have hv13:=(hv1.grown g2 hr).grown g3 hr;have gw3:=grown_trans g1 (grown_trans g2 g3);have hle3:=h3.le;go_wp2_with fail;refine (l02Pair_any _ _ _ _ _ _ (hv13.nds (by omega)) (hv3.nds (by omega)) (by omega)).mono ?_;rintro e w4 ⟨v4,rfl,hv4,k4⟩;go_wp2_with fail;go_ret;exact ⟨_,Fm.imp t1 t3,j3,b3,rfl,⟨hw1,hw3⟩,hv4.mono gw3.size,h3.keeps k4,by omega,(by simp only [Fm.enc,List.length_cons,List.length_append];omega),grown_keeps gw3 k4⟩
 ·go_wp2_with fail
  go_ret;exact ⟨_,t1,j1,b1,rfl,hw1,hv1.keeps k2,h2,hj1,hl1,grown_keeps g1 k2⟩
theorem specReadA (m:Nat):ReadA 214 m∧ReadA 274 m:=by
 induction m using Nat.strongRecOn with
 | ind m ih=>
  have hi:=fun m' (h:m'<m)=>(ih m' h).1
  have hp:=fun m' (h:m'<m)=>(ih m' h).2
  have h1:=sPrefixA m hi hp;exact ⟨sImplyA m (sOrA m (sAndA m h1)) hi,h1⟩
def Txts (ss:List ByteArray) (G:List Fm):Prop:=ss.map bts=G.map Fm.body
theorem Txts.length {ss:List ByteArray} {G:List Fm} (h:Txts ss G):ss.length=G.length:=by
 have:=congrArg List.length h
 simpa using this
theorem Txts.append {ss tt:List ByteArray} {G H:List Fm} (h:Txts ss G) (k:Txts tt H):Txts (ss++tt) (G++H):=by
 unfold Txts at *;rw [List.map_append,List.map_append,h,k]
theorem Txts.get {ss:List ByteArray} {G:List Fm} (h:Txts ss G) (i:Nat) (h1:i<ss.length) (h2:i<G.length):bts ss[i]=G[i].body:=by
 have e:(ss.map bts)[i]? = (G.map Fm.body)[i]? := by rw [h]
 simpa [h1,h2] using e
theorem indexFuncS (pr:ByteArray→Bool) (f:FuncId) (cp:Array Value) (a:List ByteArray) (v:Value) (w:World) (hv:Strs w v a) (hcf:Enters f)
  (hf:∀ x w1,x∈a→Keeps w w1→Calls Tryz.prog f (#[.string x]++cp) w1 fun e w2=>e=.returned (.bool (pr x))∧Keeps w1 w2):
  Calls Tryz.prog 263 #[v,.func (.func f) #[] cp] w fun e w'=>e=.returned (.int .i64 (idxOf pr a 0))∧Keeps w w':=by
 have hv0:=hv;obtain ⟨p,cap,rfl,hle,hmx,_,hlen⟩:=hv.at;unfold maxLen at hmx;have HF:=hid hf;clear hf
 have hcf':∀ args w,(callFunc f args).run Tryz.prog w=.ok (.enter f args) w:=hcf
 clear hcf;go_enter Tryz.func263,Tryz.ntmps263;go_wp2
 go_loopw [4,8] (fun r i' wr=>∃ k:Nat,k≤a.length∧idxOf pr a 0=idxOf pr (a.drop k) k∧Keeps w wr∧i'=.int .i64 k∧r=.int .i64 0) (fun _ i _=>a.length-(intOf i).toNat)
 case atStart=>exact ⟨0,by omega,by simp,Keeps.refl w,rfl,rfl⟩
 case round=>
  obtain ⟨k,hk,hs,kw,rfl,rfl⟩:=hrel;have Hs:=hid hs;clear hs
  by_cases hlt:k<a.length
  ·obtain ⟨b,off,rfl,h1⟩:=(hv0.keeps kw).get k hlt
   have hd:=hid (idxOf_drop pr a k hlt);clear hv0
   cases hp:pr a[k]
   all_goals
    have Hp:=hid hp;clear hp
    go_wp2_with ((with_reducible refine (HF.out a[k] wr (List.getElem_mem hlt) kw).mono ?_);rintro e w2 ⟨rfl,k2⟩;rw [Hp.out])
   ·go_roundw
    case rel=>exact ⟨k+1,by omega,by rw [Hs.out,hd.out,Hp.out];rfl,kw.trans k2,by go_num,rfl⟩
    case measure=>simp [intOf];omega
   ·go_ret
    exact ⟨ret_int (by rw [Hs.out,hd.out,Hp.out];rfl),kw.trans k2⟩
  ·go_wp2
   go_ret;exact ⟨ret_int (by rw [Hs.out,idxOf_end _ _ _ (by omega)]),kw⟩
theorem OwnS.store {w:World} {B:Nat} {g cap:Nat} {a:List ByteArray} (h:OwnS w B (.slice (some ⟨g,0,none⟩) a.length cap) a) (i:Nat) (x:ByteArray):
  OwnS (w.setCell ⟨g,i,none⟩ (.string x)) B (.slice (some ⟨g,0,none⟩) a.length cap) (a.set i x)∧w.grownBy (w.setCell ⟨g,i,none⟩ (.string x)) (some g):=by
 have h':w.ownsRow B 9 1 (.slice (some ⟨g,0,none⟩) a.length cap) a.length (strCells a):=h;have:=h'.stored i (.string x);refine ⟨?_,this.2⟩;unfold OwnS;rw [List.length_set,show strCells (a.set i x)=(strCells a).set i (.string x) by simp [strCells,List.map_set]];exact this.1
theorem bts_toList (s:ByteArray):s.toList=bts s:=ByteArray.toList_eq s
theorem beq_bts (s t:ByteArray):(s.toList==t.toList)=decide (bts s=bts t):=by rw [bts_toList,bts_toList,Bool.eq_iff_iff];simp
theorem OwnS.cut {w:World} {B g cap:Nat} {a:List ByteArray} (h:OwnS w B (.slice (some ⟨g,0,none⟩) a.length cap) a) (k:Nat) (hk:k≤a.length):OwnS w B (.slice (some ⟨g,0,none⟩) k cap) (a.take k):=by
 obtain ⟨hl,h | ⟨g',cap',cur,hv,hb,hg,hnc,hcm,hcs,ht⟩⟩:=h
 ·cases h.1
 cases hv
 have e:(a.take k).length=k:=by simp;omega
 unfold OwnS;rw [e];refine ⟨by simp [strCells];omega,.inr ⟨g,cap,cur,rfl,hb,hg,by omega,hcm,hcs,?_⟩⟩;rw [show strCells (a.take k)=(strCells a).take k by simp [strCells,List.map_take],←ht,List.take_take,Nat.min_eq_left (by omega),Nat.mul_one]
theorem OwnS.zeroed {B g cap:Nat} (x:ByteArray):∀ (m o:Nat) (w:World) (a:List ByteArray),OwnS w B (.slice (some ⟨g,0,none⟩) a.length cap) a→
  ∃ a':List ByteArray,a'.length=a.length∧a'.take o=a.take o∧OwnS (w.setCells g o (List.replicate m (.string x))) B (.slice (some ⟨g,0,none⟩) a.length cap) a'∧w.grownBy (w.setCells g o (List.replicate m (.string x))) (some g)
 | 0,o,w,a,h=>⟨a,rfl,rfl,h,World.grownBy.refl _ _⟩
 | m+1,o,w,a,h=>by
  have h1:=h.store o x;obtain ⟨a',h2,h3,h4,h5⟩:=OwnS.zeroed x m (o+1) _ (a.set o x) (by rw [List.length_set];exact h1.1);rw [List.length_set] at h2 h4;refine ⟨a',h2,?_,h4,grown_trans h1.2 h5⟩;have h6:=congrArg (List.take o) h3;rw [List.take_take,List.take_take,Nat.min_eq_left (by omega)] at h6;rw [h6];apply List.ext_getElem?;intro i
  by_cases hi:i<o
  ·simp [hi,Nat.ne_of_gt hi]
  ·simp [List.getElem?_take,hi]
theorem idxOf_case {α:Type} (pr:α→Bool):∀ (l:List α) (k:Nat),(idxOf pr l k = -1∧∀ x∈l,pr x=false)∨∃ (j:Nat) (h:j<l.length),idxOf pr l k=((k+j:Nat):Int)∧pr l[j]=true∧∀ x∈l.take j,pr x=false
 | [],k=>.inl ⟨rfl,by simp⟩
 | x :: l,k=>by
  cases hx:pr x
  ·rcases idxOf_case pr l (k+1) with ⟨h1,h2⟩ | ⟨j,hj,h1,h2,h3⟩
   ·exact .inl ⟨by simp [idxOf,hx,h1],by intro y hy;rcases List.mem_cons.1 hy with rfl | hy;exact hx;exact h2 y hy⟩
   ·refine .inr ⟨j+1,by simp;omega,by simp [idxOf,hx,h1];omega,by simpa using h2,?_⟩
    intro y hy;rw [List.take_succ_cons] at hy
    rcases List.mem_cons.1 hy with rfl | hy
    ·exact hx
    ·exact h3 y hy
  ·exact .inr ⟨0,by simp,by simp [idxOf,hx],by simpa using hx,by simp⟩
def kept (pr:ByteArray→Bool) (a:List ByteArray) (k:Nat):List ByteArray:=(a.take k).filter fun x=>!pr x
theorem kept_succ (pr:ByteArray→Bool) (a:List ByteArray) (k:Nat) (h:k<a.length):kept pr a (k+1)=kept pr a k++if pr a[k] then [] else [a[k]]:=by
 unfold kept;rw [List.take_succ_eq_append_getElem h,List.filter_append]
 cases h2:pr a[k]<;>simp [h2]
theorem kept_le (pr:ByteArray→Bool) (a:List ByteArray) (k:Nat):(kept pr a k).length≤k:=by
 unfold kept;exact Nat.le_trans (List.length_filter_le _ _) (by simp;omega)
theorem kept_all (pr:ByteArray→Bool) (a:List ByteArray):kept pr a a.length=a.filter fun x=>!pr x:=by unfold kept;rw [List.take_length]
theorem kept_start (pr:ByteArray→Bool) (a:List ByteArray) (j:Nat) (h:∀ x∈a.take j,pr x=false):kept pr a j=a.take j:=by
 unfold kept
 exact List.filter_eq_self.2 fun x hx=>by simp [h x hx]
def delRow (pr:ByteArray→Bool) (a:List ByteArray) (k:Nat):List ByteArray:=kept pr a k++a.drop (kept pr a k).length
theorem delRow_length (pr:ByteArray→Bool) (a:List ByteArray) (k:Nat) (h:k≤a.length):(delRow pr a k).length=a.length:=by
 have:=kept_le pr a k;simp [delRow];omega
theorem delRow_get (pr:ByteArray→Bool) (a:List ByteArray) (k:Nat) (h:k<a.length):(delRow pr a k)[k]? = some a[k]:=by
 have:=kept_le pr a k;unfold delRow;rw [List.getElem?_append_right this,List.getElem?_drop,show (kept pr a k).length+(k-(kept pr a k).length)=k by omega,List.getElem?_eq_getElem h]
theorem delRow_set (pr:ByteArray→Bool) (a:List ByteArray) (k:Nat) (h:k<a.length) (hp:pr a[k]=false):(delRow pr a k).set (kept pr a k).length a[k]=delRow pr a (k+1):=by
 have h1:=kept_le pr a k;have h2:=kept_succ pr a k h;rw [hp] at h2;unfold delRow;rw [h2];simp only [Bool.false_eq_true,if_false,List.length_append,List.length_cons,List.length_nil];rw [List.set_append_right _ _ (Nat.le_refl _),Nat.sub_self,List.append_assoc];rw [List.drop_eq_getElem_cons (show (kept pr a k).length<a.length by omega)];simp only [List.set_cons_zero,List.cons_append,List.nil_append]
theorem delRow_skip (pr:ByteArray→Bool) (a:List ByteArray) (k:Nat) (h:k<a.length) (hp:pr a[k]=true):delRow pr a (k+1)=delRow pr a k∧kept pr a (k+1)=kept pr a k:=by
 have h2:=kept_succ pr a k h;rw [hp] at h2;simp only [if_true,List.append_nil] at h2;exact ⟨by unfold delRow;rw [h2],h2⟩
theorem OwnS.cellAt {w:World} {B g cap:Nat} {a:List ByteArray} (h:OwnS w B (.slice (some ⟨g,0,none⟩) a.length cap) a) {i:Nat} {x:ByteArray} (hx:a[i]? = some x):w.cell? ⟨g,i,none⟩=some (.string x)∧w.frozen? ⟨g,i,none⟩=false:=by
 have hi:i<a.length:=by
  rcases Nat.lt_or_ge i a.length with h | h
  ·exact h
  ·rw [List.getElem?_eq_none h] at hx;cases hx
 exact ⟨by rw [World.ownsRow.cellAt h i (by omega)];simp [strCells,hx],World.ownsRow.frozenAt h i⟩
theorem deleteFuncSK (pr:ByteArray→Bool) (f:FuncId) (cp:Array Value) (a:List ByteArray) (g cap:Nat) (w0 w:World) (hown:OwnS w w0.heap.size (.slice (some ⟨g,0,none⟩) a.length cap) a) (kw0:Keeps w0 w) (hl:a.length≤1000000000) (hcf:Enters f)
  (hf:∀ x w1,x∈a→Keeps w0 w1→Calls Tryz.prog f (#[.string x]++cp) w1 fun e w2=>e=.returned (.bool (pr x))∧Keeps w1 w2):
  Calls Tryz.prog 275 #[.slice (some ⟨g,0,none⟩) a.length cap,.func (.func f) #[] cp] w fun e w'=>∃ v',e=.returned v'∧OwnS w' w0.heap.size v' (a.filter fun x=>!pr x)∧Keeps w0 w':=by
 have hI:=indexFuncS pr f cp a _ w (hown.strs (by omega)) hcf (fun x w1 hx k=>hf x w1 hx (kw0.trans k))
 obtain ⟨_,_,hge,hncap,hcm,_⟩:∃ q c,w0.heap.size≤g∧a.length≤cap∧cap≤maxLen∧q=c:=by
  obtain ⟨p,c,e,h1,h2,_⟩:=At.of_own hown
  cases e
  exact ⟨0,0,(OwnS.len hown g rfl).1,h1,h2,rfl⟩
 unfold maxLen at hcm;have HI:=hid hI;clear hI;have HF:=hid hf;clear hf;have HO:=hid hown;clear hown;have HK:=hid kw0;clear kw0
 have hcf':∀ args w,(callFunc f args).run Tryz.prog w=.ok (.enter f args) w:=hcf
 clear hcf
 rcases idxOf_case pr a 0 with ⟨hi,hall⟩ | ⟨j0,hj0,hi,hp0,hbef⟩
 ·rw [hi] at HI
  have hfil:(a.filter fun x=>!pr x)=a:=List.filter_eq_self.2 fun x hx=>by simp [hall x hx]
  rw [hfil];clear hall hfil hi;go_enter Tryz.func275,Tryz.ntmps275;go_wp2_with fail;refine HI.out.mono ?_;rintro e w1 ⟨rfl,k1⟩;go_wp2_with fail;go_ret;exact ⟨_,rfl,HO.out.keeps k1,HK.out.trans k1⟩
 ·rw [show ((0+j0:Nat):Int)=(j0:Int) by omega] at hi
  rw [hi] at HI
  have hs1:kept pr a (j0+1)=a.take j0:=by
   rw [kept_succ pr a j0 hj0,hp0,kept_start pr a j0 hbef];simp
  have hs2:delRow pr a (j0+1)=a:=by
   unfold delRow;rw [hs1];simp [Nat.min_eq_left (Nat.le_of_lt hj0)]
  have hs3:(kept pr a (j0+1)).length=j0:=by rw [hs1];simp;omega
  have HS:=hid (And.intro hs2 hs3);clear hs1 hs2 hs3 hbef hp0 hi
  have hneq:((j0:Int) == -1)=false:=by simp
  go_enter Tryz.func275,Tryz.ntmps275;go_wp2_with fail;refine HI.out.mono ?_;rintro e w1 ⟨rfl,k1⟩;go_wp2_with fail
  go_loopw [5,6] (fun iv jv wr=>∃ k n:Nat,k≤a.length∧n<k∧n=(kept pr a k).length∧iv=.int .i64 n∧jv=.int .i64 k∧OwnS wr w0.heap.size (.slice (some ⟨g,0,none⟩) a.length cap) (delRow pr a k)∧Keeps w0 wr) (fun _ jv _=>a.length-(intOf jv).toNat)
  case atStart=>exact ⟨j0+1,j0,by omega,by omega,HS.out.2.symm,rfl,by go_num,by rw [HS.out.1];exact HO.out.keeps k1,HK.out.trans k1⟩
  case round=>
   obtain ⟨k,n,hk,hnk,hn,rfl,rfl,hrow,kw⟩:=hrel;have HN:=hid hn;clear hn
   by_cases hlt:k<a.length
   ·have hlt':(k:Int)<a.length:=by omega
    have hc:=OwnS.cellAt (a:=delRow pr a k) (by rw [delRow_length pr a k hk];exact hrow) (delRow_get pr a k hlt)
    obtain ⟨xo,hxo⟩:∃ xo,(delRow pr a k)[n]? = some xo:=⟨_,List.getElem?_eq_getElem (by rw [delRow_length pr a k hk];omega)⟩
    have hd:=OwnS.cellAt (a:=delRow pr a k) (by rw [delRow_length pr a k hk];exact hrow) hxo;obtain ⟨hc1,hc2⟩:=hc;obtain ⟨hd1,hd2⟩:=hd;have HR:=hid hrow;clear hrow;have hq:=hid (delRow_set pr a k hlt);have hq2:=hid (delRow_skip pr a k hlt);have hq3:=hid (kept_succ pr a k hlt)
    cases hp:pr a[k]
    all_goals
     have Hp:=hid hp;clear hp
     go_wp2_with ((with_reducible refine (HF.out a[k] wr (List.getElem_mem hlt) kw).mono ?_);rintro e w2 ⟨rfl,k2⟩;replace hd1:=k2.cell hd1;replace hd2:=(k2.both.2 g n (by first | exact (OwnS.len HR.out g rfl).2 | omega)).trans hd2;replace HR:=hid (HR.out.keeps k2);replace kw:=kw.trans k2;rw [Hp.out])
    ·go_roundw
     case rel=>
      refine ⟨k+1,n+1,by omega,by omega,?_,by go_num,by go_num,?_,?_⟩
      ·rw [hq3.out,Hp.out,HN.out];simp
      ·have:=OwnS.store (a:=delRow pr a k) (by rw [delRow_length pr a k hk];exact HR.out) n a[k]
       rw [delRow_length pr a k hk] at this;have h2:=this.1;rw [HN.out,hq.out Hp.out,←HN.out] at h2;exact h2
      ·have:=OwnS.store (a:=delRow pr a k) (by rw [delRow_length pr a k hk];exact HR.out) n a[k]
       exact kw.grown this.2 (by rintro _ ⟨⟩;exact hge)
     case measure=>simp [intOf];omega
    ·go_roundw
     case rel=>exact ⟨k+1,n,by omega,by omega,by rw [(hq2.out Hp.out).2];exact HN.out,rfl,by go_num,by rw [(hq2.out Hp.out).1];exact HR.out,kw⟩
     case measure=>simp [intOf];omega
   ·obtain rfl:k=a.length:=by omega
    have hlt':¬(a.length:Int)<a.length:=by omega
    have hz:=OwnS.zeroed (a:=delRow pr a a.length) ⟨#[]⟩ (a.length-n) n wr (by rw [delRow_length pr a _ hk];exact hrow)
    have hcell:∀ j,j<a.length→∃ x,(delRow pr a a.length)[j]? = some x:=fun j hj=>⟨_,List.getElem?_eq_getElem (by rw [delRow_length pr a _ hk];exact hj)⟩
    have hcl:∀ ty,(Builtin.clear_ #[82] ty #[.slice (some ⟨g,n,none⟩) (a.length-n) (cap-n)]).run Tryz.prog wr=.ok (.tuple #[]) (wr.setCells g n (List.replicate (a.length-n) (.string ⟨#[]⟩))):=
     fun ty=>Lib.run_clear_slice wr _ _ ty _ Tryz.underlying82 (fun _=>Tryz.zeroValue9 _) rfl rfl g n _ _ (by omega)
      (fun j hj=>by
       obtain ⟨x,hx⟩:=hcell (n+j) (by omega)
       rw [(OwnS.cellAt (a:=delRow pr a a.length) (by rw [delRow_length pr a _ hk];exact hrow) hx).1];rfl)
      (fun j hj=>by
       obtain ⟨x,hx⟩:=hcell (n+j) (by omega)
       rw [(OwnS.cellAt (a:=delRow pr a a.length) (by rw [delRow_length pr a _ hk];exact hrow) hx).2])
    have HZ:=hid hz;clear hz hcell hrow;go_wp2;go_ret;obtain ⟨a',h1,h2,h3,h4⟩:=HZ.out;rw [delRow_length pr a _ hk] at h1 h3;refine ⟨_,rfl,?_,?_⟩
    ·have hfin:a'.take n=a.filter fun x=>!pr x:=by
      rw [h2,←kept_all,HN.out];unfold delRow;rw [List.take_left]
     rw [←hfin];have:=OwnS.cut (a:=a') (by rw [h1];exact h3) n (by omega)
     simpa using this
    ·have:=kw.grown h4 (by rintro _ ⟨⟩;exact hge)
     simpa using this
theorem deleteFuncS (pr:ByteArray→Bool) (f:FuncId) (cp:Array Value) (a:List ByteArray) (g cap:Nat) (w0 w:World) (hown:OwnS w w0.heap.size (.slice (some ⟨g,0,none⟩) a.length cap) a) (kw0:Keeps w0 w) (hl:a.length≤1000000000) (hcf:Enters f)
  (hf:∀ x w1,Keeps w0 w1→Calls Tryz.prog f (#[.string x]++cp) w1 fun e w2=>e=.returned (.bool (pr x))∧w1=w2):
  Calls Tryz.prog 275 #[.slice (some ⟨g,0,none⟩) a.length cap,.func (.func f) #[] cp] w fun e w'=>∃ v',e=.returned v'∧OwnS w' w0.heap.size v' (a.filter fun x=>!pr x)∧Keeps w0 w':=
 deleteFuncSK pr f cp a g cap w0 w hown kw0 hl hcf (fun x w1 _ k=>(hf x w1 k).mono (by rintro e w2 ⟨rfl,rfl⟩;exact ⟨rfl,Keeps.refl _⟩))
theorem drop_1_any (s t:ByteArray) (b:Nat) (w:World) (hc:w.cell? ⟨b,0,none⟩=some (.string t)):
  Calls Tryz.prog 277 #[.string s,.pointer (some ⟨b,0,none⟩)] w fun e w'=>e=.returned (.bool (s.toList==t.toList))∧w=w':=by
 go_enter Tryz.func277,Tryz.ntmps277;go_wp2;go_ret;exact ⟨rfl,rfl⟩
end Go.Proofs.YtbccmdfdclomiaaGreatDoor
