import Derived.Test.YtagoboblkadelaaGreatZK8
/- own -/
namespace Go.Proofs.YtagoboblkadelaaGreat
set_option maxRecDepth 20000
set_option maxHeartbeats 8000000
open Go.RowKit
def Hh (w:World) (r:Nat) (s:ByteArray) (i:Nat) (bad:Bool) (e:Ending) (w':World):Prop:=
 (e=.returned (.bool true)∧bad=false∧i<s.size∧cG w' r s (i+1) false∧w.grownBy w' (some r))∨(e=.returned (.bool false)∧cG w' r s i bad∧aa w w')
def Kh (w:World) (r:Nat) (s:ByteArray) (i:Nat) (e:Ending) (w':World):Prop:=
 ∃ (v:Value) (t:Fm) (j:Nat) (bad:Bool),e=.returned v∧t.wf∧aU w' w.heap.size v t.enc∧cG w' r s j bad∧i≤j∧t.enc.length≤3*(j-i)+1∧w.grownBy w' (some r)
def AQ (w:World) (r:Nat) (s:ByteArray) (i:Nat) (v:Value) (w':World):Prop:=
 ∃ (t:Fm) (j:Nat) (bad:Bool),t.wf∧aU w' w.heap.size v t.enc∧cG w' r s j bad∧i≤j∧t.enc.length≤3*(j-i)+1∧w.grownBy w' (some r)
def G5 (w:World) (r:Nat) (s:ByteArray) (i:Nat) (e:Ending) (w':World):Prop:=
 ∃ (j:Nat) (bad:Bool),e=.returned (.tuple #[])∧i≤j∧cG w' r s j bad∧w.grownBy w' (some r)
def dF (f:FuncId) (m:Nat):Prop:=
 ∀ (w:World) (r:Nat) (s:ByteArray) (i:Nat) (bad:Bool),cG w r s i bad→s.size≤10000000→s.size-i≤m→Calls Tryz.prog f #[.pointer (some ⟨r,0,none⟩)] w (Kh w r s i)
theorem cG.spoiled {w:World} {r:Nat} {s:ByteArray} {i:Nat} {bad:Bool} (h:cG w r s i bad):cG (w.setCell ⟨r,2,none⟩ (.bool true)) r s i true:=by
 refine⟨?_,?_,?_,?_,?_,h.le,h.sz⟩
 ·exact(World.cell?_setCell_other (a:=⟨r,2,none⟩) (b:=⟨r,0,none⟩) (h:=by simp) ..).trans h.c0
 ·exact(World.cell?_setCell_other (a:=⟨r,2,none⟩) (b:=⟨r,1,none⟩) (h:=by simp) ..).trans h.c1
 ·exact World.cell?_setCell_same (h:=h.c2) ..
 ·rw[World.frozen?_setCell];exact h.f1
 ·rw[World.frozen?_setCell];exact h.f2
theorem qv {P:Program} (w:World) (g:Nat) (s:ByteArray) (pos:Nat) (ty:TypeId) (hh:w.heap[g]? = some (.stringIter s pos)) (h:¬pos<s.size):
  (Instr.next (.pointer (some ⟨g,0,none⟩)) true ty).run P w=.ok (.tuple #[.bool false]) w:=by
 simp[Instr.next,getObj,Sem.run,hh,h]
theorem E8 {w:World} {r:Nat} {s:ByteArray} {i:Nat} {k:Int} (h:cG w r s i true):
  Calls Tryz.prog 209 #[.pointer (some ⟨r,0,none⟩),.int .u8 k] w fun e w'=>e=.returned (.bool false)∧cG w' r s i true∧aa w w':=by
 have hm:=fun n=>h.keeps ((aa.refl w).drewN n)
 obtain⟨c0,c1,c2,f1,f2,le,sz⟩:=h;go_enter Tryz.func209,Tryz.ntmps209;go_wp2_with fail
 go_quiet (fail)
 go_wp2_with fail;go_ret;exact⟨rfl,hm _,(aa.refl w).drewN _⟩
theorem cQ (b:UInt8) {w:World} {r:Nat} {s:ByteArray} {i:Nat} {bad:Bool} {k:Int} (h:cG w r s i bad) (hk:k=(b.toNat:Int)):
  Calls Tryz.prog 209 #[.pointer (some ⟨r,0,none⟩),.int .u8 k] w (Hh w r s i bad):=by
 cases bad with
 | true=>exact(E8 h).mono fun e w' ⟨h1,h2,h3⟩=>.inr ⟨h1,h2,h3⟩
 | false=>
  by_cases hh:((bts s).drop i).head? = some b
  ·cases hl:(bts s).drop i with
   | nil=>rw[hl] at hh;cases hh
   | cons c l=>
    rw[hl] at hh;obtain rfl:c=b:=Option.some.inj hh;obtain⟨hi,_⟩:=bA hl
    exact(cH h hl hk).mono fun e w' ⟨h1,h2,h3⟩=>.inl ⟨h1,rfl,hi,h2,h3⟩
  ·exact(br b h rfl hh hk).mono fun e w' ⟨h1,h2,h3⟩=>.inr ⟨h1,h2,h3⟩
theorem yf {w:World} {r:Nat} {s:ByteArray} {i:Nat} {k:Int} (h:cG w r s i true):
  Calls Tryz.prog 241 #[.pointer (some ⟨r,0,none⟩),.int .u8 k] w fun e w'=>e=.returned (.bool false)∧cG w' r s i true∧aa w w':=by
 have hm:=fun n=>h.keeps ((aa.refl w).drewN n)
 obtain⟨c0,c1,c2,f1,f2,le,sz⟩:=h;go_enter Tryz.func241,Tryz.ntmps241;go_wp2_with fail
 go_quiet (fail)
 go_wp2_with fail;go_ret;exact⟨rfl,hm _,(aa.refl w).drewN _⟩
theorem bz (b:UInt8) {w:World} {r:Nat} {s:ByteArray} {i:Nat} {bad:Bool} {k:Int} (h:cG w r s i bad) (hk:k=(b.toNat:Int)):
  Calls Tryz.prog 241 #[.pointer (some ⟨r,0,none⟩),.int .u8 k] w (Hh w r s i bad):=by
 cases bad with
 | true=>exact(yf h).mono fun e w' ⟨h1,h2,h3⟩=>.inr ⟨h1,h2,h3⟩
 | false=>
  by_cases hh:((bts s).drop i).head? = some b
  ·cases hl:(bts s).drop i with
   | nil=>rw[hl] at hh;cases hh
   | cons c l=>
    rw[hl] at hh;obtain rfl:c=b:=Option.some.inj hh;obtain⟨hi,_⟩:=bA hl
    exact(bo h hl hk).mono fun e w' ⟨h1,h2,h3⟩=>.inl ⟨h1,rfl,hi,h2,h3⟩
  ·exact(aB b h rfl hh hk).mono fun e w' ⟨h1,h2,h3⟩=>.inr ⟨h1,h2,h3⟩
theorem zU (b:UInt8) {w:World} {r:Nat} {s:ByteArray} {i:Nat} {bad:Bool} {k:Int} (h:cG w r s i bad) (hk:k=(b.toNat:Int)):
  Calls Tryz.prog 261 #[.pointer (some ⟨r,0,none⟩),.int .u8 k] w (G5 w r s i):=by
 have H:=hid (cQ b h hk);clear h hk;go_enter Tryz.func261,Tryz.ntmps261;go_wp2_with fail;refine H.out.mono ?_;rintro e w1 (⟨rfl,rfl,hi,h1,g1⟩ | ⟨rfl,h1,k1⟩)
 ·go_wp2_with fail
  refine bodyPost_end (v:=.tuple #[]) (by simp[results,Tryz.results261,go_sem]) rfl ?_;exact⟨i+1,false,rfl,qB,h1,g1⟩
 ·have hs:=h1.spoiled
  obtain⟨c0,c1,c2,f1,f2,le,sz⟩:=h1;go_wp2_with fail;refine bodyPost_end (v:=.tuple #[]) (by simp[results,Tryz.results261,go_sem]) rfl ?_;exact⟨i,true,rfl,zm _,hs,ar k1 (db _ _ _)⟩
theorem AF (b:UInt8) {w:World} {r:Nat} {s:ByteArray} {i:Nat} {bad:Bool} {k:Int} (h:cG w r s i bad) (hk:k=(b.toNat:Int)):
  Calls Tryz.prog 266 #[.pointer (some ⟨r,0,none⟩),.int .u8 k] w (G5 w r s i):=by
 have H:=hid (bz b h hk);clear h hk;go_enter Tryz.func266,Tryz.ntmps266;go_wp2_with fail;refine H.out.mono ?_;rintro e w1 (⟨rfl,rfl,hi,h1,g1⟩ | ⟨rfl,h1,k1⟩)
 ·go_wp2_with fail
  refine bodyPost_end (v:=.tuple #[]) (by simp[results,Tryz.results266,go_sem]) rfl ?_;exact⟨i+1,false,rfl,qB,h1,g1⟩
 ·have hs:=h1.spoiled
  obtain⟨c0,c1,c2,f1,f2,le,sz⟩:=h1;go_wp2_with fail;refine bodyPost_end (v:=.tuple #[]) (by simp[results,Tryz.results266,go_sem]) rfl ?_;exact⟨i,true,rfl,zm _,hs,ar k1 (db _ _ _)⟩
theorem IB (m:Nat) (hi:∀ m',m'<m→dF 178 m'):dF 263 m:=by
 intro w r s i bad h hS hm;have HM:=hid hi;clear hi;have hr:=h.lt;go_enter Tryz.func263,Tryz.ntmps263;have KU:=hid (cQ (k:=70) 70 h rfl);go_wp2_with fail;refine KU.out.mono ?_;rintro e wa (⟨rfl,rfl,H7,ha,ga⟩ | ⟨rfl,KZ,kq70⟩)
 ·have g0:=ga
  go_wp2_with fail;refine(gG _).mono ?_;rintro e wb ⟨vb,rfl,KS,kb⟩;go_wp2_with fail;go_ret;exact⟨_,Fm.fls,i+1,false,rfl,(by simp[Fm.wf]),KS.mono g0.size,ha.keeps kb,qB,(by simp[Fm.enc];try omega),ag g0 kb⟩
 ·skip
  have KV:=hid (cQ (k:=84) 84 KZ rfl);go_wp2_with fail;refine KV.out.mono ?_;rintro e wa (⟨rfl,rfl,H7,ha,ga⟩ | ⟨rfl,K0,kq84⟩)
  ·have g0:=ar kq70 ga
   go_wp2_with fail;refine(oX _).mono ?_;rintro e wb ⟨vb,rfl,KS,kb⟩;go_wp2_with fail;go_ret;exact⟨_,Fm.imp .fls .fls,i+1,false,rfl,(by simp[Fm.wf]),KS.mono g0.size,ha.keeps kb,qB,(by simp[Fm.enc];try omega),ag g0 kb⟩
  ·skip
   have KT:=hid (cQ (k:=40) 40 K0 rfl);go_wp2_with fail;refine KT.out.mono ?_;rintro e wa (⟨rfl,rfl,H7,ha,ga⟩ | ⟨rfl,KY,kq40⟩)
   ·have g0:=ar (kq70.trans kq84) ga
    have HY:=hid (HM.out (s.size-(i+1)) qB wa r s (i+1) false ha hS (zm _));have Lb:=ha.lt;go_wp2_with fail;refine HY.out.mono ?_;rintro e wb ⟨vb,tb,jb,bb,rfl,Lc,KS,hb,Ld,Lf,gb⟩;have HN:=hid (zU (k:=41) 41 hb rfl);go_wp2_with fail;refine HN.out.mono ?_;rintro e wn ⟨jn,bn,rfl,Le,hn,gn⟩;go_wp2_with fail;go_ret;exact⟨_,tb,jn,bn,rfl,Lc,(KS.grown gn Lb).mono g0.size,hn,qB,qB,an g0 (an gb gn)⟩
   ·skip
    have H8:=KY;have kz:=((kq70.trans kq84).trans kq40);go_wp2_with fail
    go_loopw [4] (fun _ wr=>∃ q:Nat,q≤6∧wr.heap[wa.heap.size]? = some (.stringIter aw q)∧aa wa wr) (fun _ wr=>6-wr.iterPos wa.heap.size)
    case atStart=>exact⟨0,qB,World.iter_heap ..,(aa.refl wa).alloc _⟩
    case round=>
     obtain⟨q,Lg,h9,kj⟩:=hrel;have H9:wa.heap.size<wr.heap.size:=(Array.getElem?_eq_some_iff.1 h9).1;have La:q=0∨q=1∨q=2∨q=3∨q=4∨q=5∨q=6:=qB
     rcases La with rfl | rfl | rfl | rfl | rfl | rfl | rfl
     ·have KP:∀ ty,(Instr.next (.pointer (some ⟨wa.heap.size,0,none⟩)) true ty).run Tryz.prog wr=_:=fun ty=>cC wr _ aw 0 ty h9 qC qC
      have k5:=kj.grown (cM wr wa.heap.size aw (0+1)) (fun k hk=>by cases hk;omega);have x9:=eM (s':=aw) (p':=0+1) H9;have eE:=h9
      have KR:(bC wr wa.heap.size aw (0+1)).heap.size=wr.heap.size:=by simp[bC]
      have x8:=hid (cQ (k:=112) 112 (H8.keeps k5) rfl);clear h9;go_wp2_with fail;refine x8.out.mono ?_;rintro e w6 (⟨rfl,rfl,H7,h6,g6⟩ | ⟨rfl,h6,k6⟩)
      ·have gg:=ar (kz.trans k5) g6
       go_wp2_with fail;refine(bN 0 _).mono ?_;rintro e w7 ⟨v7,rfl,x7,k7⟩;go_wp2_with fail;go_ret;exact⟨_,Fm.var 0,i+1,false,rfl,(by simp[Fm.wf]),x7.mono gg.size,h6.keeps k7,qB,(by simp[Fm.enc]),ag gg k7⟩
      ·have x6:w6.heap[wa.heap.size]? = some (.stringIter aw (0+1)):=(k6.block qB).trans x9
       go_wp2_with fail;go_roundw
       case rel=>exact⟨0+1,qB,x6,k5.trans k6⟩
       case measure=>simp[World.iterPos,x6,eE]
     ·have KP:∀ ty,(Instr.next (.pointer (some ⟨wa.heap.size,0,none⟩)) true ty).run Tryz.prog wr=_:=fun ty=>cC wr _ aw 1 ty h9 qC qC
      have k5:=kj.grown (cM wr wa.heap.size aw (1+1)) (fun k hk=>by cases hk;omega);have x9:=eM (s':=aw) (p':=1+1) H9;have eE:=h9
      have KR:(bC wr wa.heap.size aw (1+1)).heap.size=wr.heap.size:=by simp[bC]
      have x8:=hid (cQ (k:=113) 113 (H8.keeps k5) rfl);clear h9;go_wp2_with fail;refine x8.out.mono ?_;rintro e w6 (⟨rfl,rfl,H7,h6,g6⟩ | ⟨rfl,h6,k6⟩)
      ·have gg:=ar (kz.trans k5) g6
       go_wp2_with fail;refine(bN 1 _).mono ?_;rintro e w7 ⟨v7,rfl,x7,k7⟩;go_wp2_with fail;go_ret;exact⟨_,Fm.var 1,i+1,false,rfl,(by simp[Fm.wf]),x7.mono gg.size,h6.keeps k7,qB,(by simp[Fm.enc]),ag gg k7⟩
      ·have x6:w6.heap[wa.heap.size]? = some (.stringIter aw (1+1)):=(k6.block qB).trans x9
       go_wp2_with fail;go_roundw
       case rel=>exact⟨1+1,qB,x6,k5.trans k6⟩
       case measure=>simp[World.iterPos,x6,eE]
     ·have KP:∀ ty,(Instr.next (.pointer (some ⟨wa.heap.size,0,none⟩)) true ty).run Tryz.prog wr=_:=fun ty=>cC wr _ aw 2 ty h9 qC qC
      have k5:=kj.grown (cM wr wa.heap.size aw (2+1)) (fun k hk=>by cases hk;omega);have x9:=eM (s':=aw) (p':=2+1) H9;have eE:=h9
      have KR:(bC wr wa.heap.size aw (2+1)).heap.size=wr.heap.size:=by simp[bC]
      have x8:=hid (cQ (k:=114) 114 (H8.keeps k5) rfl);clear h9;go_wp2_with fail;refine x8.out.mono ?_;rintro e w6 (⟨rfl,rfl,H7,h6,g6⟩ | ⟨rfl,h6,k6⟩)
      ·have gg:=ar (kz.trans k5) g6
       go_wp2_with fail;refine(bN 2 _).mono ?_;rintro e w7 ⟨v7,rfl,x7,k7⟩;go_wp2_with fail;go_ret;exact⟨_,Fm.var 2,i+1,false,rfl,(by simp[Fm.wf]),x7.mono gg.size,h6.keeps k7,qB,(by simp[Fm.enc]),ag gg k7⟩
      ·have x6:w6.heap[wa.heap.size]? = some (.stringIter aw (2+1)):=(k6.block qB).trans x9
       go_wp2_with fail;go_roundw
       case rel=>exact⟨2+1,qB,x6,k5.trans k6⟩
       case measure=>simp[World.iterPos,x6,eE]
     ·have KP:∀ ty,(Instr.next (.pointer (some ⟨wa.heap.size,0,none⟩)) true ty).run Tryz.prog wr=_:=fun ty=>cC wr _ aw 3 ty h9 qC qC
      have k5:=kj.grown (cM wr wa.heap.size aw (3+1)) (fun k hk=>by cases hk;omega);have x9:=eM (s':=aw) (p':=3+1) H9;have eE:=h9
      have KR:(bC wr wa.heap.size aw (3+1)).heap.size=wr.heap.size:=by simp[bC]
      have x8:=hid (cQ (k:=115) 115 (H8.keeps k5) rfl);clear h9;go_wp2_with fail;refine x8.out.mono ?_;rintro e w6 (⟨rfl,rfl,H7,h6,g6⟩ | ⟨rfl,h6,k6⟩)
      ·have gg:=ar (kz.trans k5) g6
       go_wp2_with fail;refine(bN 3 _).mono ?_;rintro e w7 ⟨v7,rfl,x7,k7⟩;go_wp2_with fail;go_ret;exact⟨_,Fm.var 3,i+1,false,rfl,(by simp[Fm.wf]),x7.mono gg.size,h6.keeps k7,qB,(by simp[Fm.enc]),ag gg k7⟩
      ·have x6:w6.heap[wa.heap.size]? = some (.stringIter aw (3+1)):=(k6.block qB).trans x9
       go_wp2_with fail;go_roundw
       case rel=>exact⟨3+1,qB,x6,k5.trans k6⟩
       case measure=>simp[World.iterPos,x6,eE]
     ·have KP:∀ ty,(Instr.next (.pointer (some ⟨wa.heap.size,0,none⟩)) true ty).run Tryz.prog wr=_:=fun ty=>cC wr _ aw 4 ty h9 qC qC
      have k5:=kj.grown (cM wr wa.heap.size aw (4+1)) (fun k hk=>by cases hk;omega);have x9:=eM (s':=aw) (p':=4+1) H9;have eE:=h9
      have KR:(bC wr wa.heap.size aw (4+1)).heap.size=wr.heap.size:=by simp[bC]
      have x8:=hid (cQ (k:=116) 116 (H8.keeps k5) rfl);clear h9;go_wp2_with fail;refine x8.out.mono ?_;rintro e w6 (⟨rfl,rfl,H7,h6,g6⟩ | ⟨rfl,h6,k6⟩)
      ·have gg:=ar (kz.trans k5) g6
       go_wp2_with fail;refine(bN 4 _).mono ?_;rintro e w7 ⟨v7,rfl,x7,k7⟩;go_wp2_with fail;go_ret;exact⟨_,Fm.var 4,i+1,false,rfl,(by simp[Fm.wf]),x7.mono gg.size,h6.keeps k7,qB,(by simp[Fm.enc]),ag gg k7⟩
      ·have x6:w6.heap[wa.heap.size]? = some (.stringIter aw (4+1)):=(k6.block qB).trans x9
       go_wp2_with fail;go_roundw
       case rel=>exact⟨4+1,qB,x6,k5.trans k6⟩
       case measure=>simp[World.iterPos,x6,eE]
     ·have KP:∀ ty,(Instr.next (.pointer (some ⟨wa.heap.size,0,none⟩)) true ty).run Tryz.prog wr=_:=fun ty=>cC wr _ aw 5 ty h9 qC qC
      have k5:=kj.grown (cM wr wa.heap.size aw (5+1)) (fun k hk=>by cases hk;omega);have x9:=eM (s':=aw) (p':=5+1) H9;have eE:=h9
      have KR:(bC wr wa.heap.size aw (5+1)).heap.size=wr.heap.size:=by simp[bC]
      have x8:=hid (cQ (k:=117) 117 (H8.keeps k5) rfl);clear h9;go_wp2_with fail;refine x8.out.mono ?_;rintro e w6 (⟨rfl,rfl,H7,h6,g6⟩ | ⟨rfl,h6,k6⟩)
      ·have gg:=ar (kz.trans k5) g6
       go_wp2_with fail;refine(bN 5 _).mono ?_;rintro e w7 ⟨v7,rfl,x7,k7⟩;go_wp2_with fail;go_ret;exact⟨_,Fm.var 5,i+1,false,rfl,(by simp[Fm.wf]),x7.mono gg.size,h6.keeps k7,qB,(by simp[Fm.enc]),ag gg k7⟩
      ·have x6:w6.heap[wa.heap.size]? = some (.stringIter aw (5+1)):=(k6.block qB).trans x9
       go_wp2_with fail;go_roundw
       case rel=>exact⟨5+1,qB,x6,k5.trans k6⟩
       case measure=>simp[World.iterPos,x6,eE]
     ·have KP:∀ ty,(Instr.next (.pointer (some ⟨wa.heap.size,0,none⟩)) true ty).run Tryz.prog wr=_:=fun ty=>qv wr _ aw 6 ty h9 qC
      have h7:=H8.keeps kj;have hs:=h7.spoiled;obtain⟨c0,c1,c2,f1,f2,le,sz⟩:=h7;clear h9;have gg:=ar (kz.trans kj) (db r 2 (.bool true));go_wp2_with fail;refine(gG _).mono ?_;rintro e w7 ⟨v7,rfl,x7,k7⟩;go_wp2_with fail;go_ret;exact⟨_,Fm.fls,i,true,rfl,trivial,x7.mono gg.size,hs.keeps k7,zm _,(by simp[Fm.enc]),ag gg k7⟩
theorem DJ (m:Nat) (KT:dF 263 m) (hi:∀ m',m'<m→dF 256 m'):dF 256 m:=by
 intro w r s i bad h hS hm;have HI:=hid hi;clear hi;have hr:=h.lt;go_enter Tryz.func256,Tryz.ntmps256;have x6:=hid (cQ (k:=126) 126 h rfl);go_wp2_with fail;refine x6.out.mono ?_;rintro e wa (⟨rfl,rfl,KU,ha,ga⟩ | ⟨rfl,x7,kq126⟩)
 ·have g0:=ga
  have HY:=hid (HI.out (s.size-(i+1)) qB wa r s (i+1) false ha hS (zm _));go_wp2_with fail;refine HY.out.mono ?_;rintro e wb ⟨vb,tb,jb,bb,rfl,h9,eE,hb,x9,H7,gb⟩;have gg:=an g0 gb;have KV:=hb.le;go_wp2_with fail;refine(mV tb _ _ (eE.nds qB) qB).mono ?_;rintro e wc ⟨vc,rfl,x8,kc⟩;go_wp2_with fail;go_ret;exact⟨_,Fm.imp tb .fls,jb,bb,rfl,⟨h9,trivial⟩,x8.mono gg.size,hb.keeps kc,qB,(by simp only[Fm.enc,zh,ze,List.length_nil];omega),ag gg kc⟩
 ·skip
  have H9:=hid (cQ (k:=91) 91 x7 rfl);go_wp2_with fail;refine H9.out.mono ?_;rintro e wa (⟨rfl,rfl,KU,ha,ga⟩ | ⟨rfl,KS,kq91⟩)
  ·have g0:=ar kq126 ga
   have HN:=hid (zU (k:=93) 93 ha rfl);go_wp2_with fail;refine HN.out.mono ?_;rintro e wn ⟨jn,bn,rfl,KY,hn,gn⟩;have KP:=hn.le;have HY:=hid (HI.out (s.size-jn) qB wn r s jn bn hn hS (zm _));go_wp2_with fail;refine HY.out.mono ?_;rintro e wb ⟨vb,tb,jb,bb,rfl,h9,eE,hb,x9,H7,gb⟩;have gg:=an g0 (an gn gb);have KV:=hb.le;go_wp2_with fail;refine(jz 5 _ _ _ (eE.nds qB) qB).mono ?_;rintro e wc ⟨vc,rfl,x8,kc⟩;go_wp2_with fail;go_ret;exact⟨_,Fm.box tb,jb,bb,rfl,h9,x8.mono gg.size,hb.keeps kc,qB,(by simp only[Fm.enc,zh];omega),ag gg kc⟩
  ·skip
   have H8:=hid (cQ (k:=60) 60 KS rfl);go_wp2_with fail;refine H8.out.mono ?_;rintro e wa (⟨rfl,rfl,KU,ha,ga⟩ | ⟨rfl,KR,kq60⟩)
   ·have g0:=ar (kq126.trans kq91) ga
    have HN:=hid (zU (k:=62) 62 ha rfl);go_wp2_with fail;refine HN.out.mono ?_;rintro e wn ⟨jn,bn,rfl,KY,hn,gn⟩;have KP:=hn.le;have HY:=hid (HI.out (s.size-jn) qB wn r s jn bn hn hS (zm _));go_wp2_with fail;refine HY.out.mono ?_;rintro e wb ⟨vb,tb,jb,bb,rfl,h9,eE,hb,x9,H7,gb⟩;have gg:=an g0 (an gn gb);have KV:=hb.le;go_wp2_with fail;refine(jz 6 _ _ _ (eE.nds qB) qB).mono ?_;rintro e wc ⟨vc,rfl,x8,kc⟩;go_wp2_with fail;go_ret;exact⟨_,Fm.dia tb,jb,bb,rfl,h9,x8.mono gg.size,hb.keeps kc,qB,(by simp only[Fm.enc,zh];omega),ag gg kc⟩
   ·skip
    have HA:=hid (KT _ r s i bad KR hS hm);clear KT;have kz:=((kq126.trans kq91).trans kq60);go_wp2_with fail;refine HA.out.mono ?_;rintro e wb ⟨vb,tb,jb,bb,rfl,h9,eE,hb,x9,H7,gb⟩;go_wp2_with fail;go_ret;exact⟨_,tb,jb,bb,rfl,h9,eE.mono kz.size,hb,x9,H7,ar kz gb⟩
theorem JG (m:Nat) (hp:dF 256 m):dF 239 m:=by
 intro w r s i bad h hS hm;have HP:=hid hp;clear hp;have hr:=h.lt;have H0:=hid (HP.out w r s i bad h hS hm);clear h;go_enter Tryz.func239,Tryz.ntmps239;go_wp2_with fail;refine H0.out.mono ?_;rintro e w1 ⟨v1,t1,j1,b1,rfl,H7,x9,h1,x7,x8,g1⟩;clear H0;go_wp2_with fail
 go_loopw [3] (fun a' wr=>AQ w r s i a' wr) (fun _ wr=>match wr.cell? ⟨r,1,none⟩ with | some (.int _ n)=>s.size-n.toNat | _=>0)
 case atStart=>exact⟨t1,j1,b1,H7,x9,h1,x7,x8,g1⟩
 case round=>
  obtain⟨t,j,b,hw,eE,hj,H8,hl,gj⟩:=hrel;clear H7 x9 h1 x7 x8 g1;have HT:=hid (cQ (k:=38) 38 hj rfl);have KY:=hj.le;go_wp2_with fail;refine HT.out.mono ?_;rintro e w2 (⟨rfl,rfl,KT,h2,g2⟩ | ⟨rfl,h2,k2⟩)
  ·have h9:=eE.grown g2 hr
   have HY:=hid (HP.out w2 r s (j+1) false h2 hS qB);clear eE;go_wp2_with fail;refine HY.out.mono ?_;rintro e w3 ⟨v3,t3,j3,b3,rfl,KS,KP,h3,KU,KV,g3⟩;have x6:=h9.grown g3 hr;have KZ:=gj.size;have K0:=g2.size;have La:=g3.size;have gw3:=an gj (an g2 g3);have H9:=h3.le;go_wp2_with fail;refine(fO _ _ _ _ _ _ (x6.nds qB) (KP.nds qB) qB).mono ?_;rintro e w4 ⟨v4,rfl,KR,k4⟩;have h4:=h3.keeps k4;go_wp2_with fail;go_roundw
   case rel=>exact⟨Fm.and t t3,j3,b3,⟨hw,KS⟩,KR.mono qB,h4,qB,(by simp only[Fm.enc,zh,ze];omega),ag gw3 k4⟩
   case measure=>
    have e1:=hj.c1;have e2:=h4.c1;simp[e1,e2];omega
  ·go_wp2_with fail
   go_ret;exact⟨_,t,j,b,rfl,hw,eE.keeps k2,h2,H8,hl,ag gj k2⟩
theorem Kr (m:Nat) (hp:dF 239 m):dF 208 m:=by
 intro w r s i bad h hS hm;have HP:=hid hp;clear hp;have hr:=h.lt;have H0:=hid (HP.out w r s i bad h hS hm);clear h;go_enter Tryz.func208,Tryz.ntmps208;go_wp2_with fail;refine H0.out.mono ?_;rintro e w1 ⟨v1,t1,j1,b1,rfl,H7,x9,h1,x7,x8,g1⟩;clear H0;go_wp2_with fail
 go_loopw [3] (fun a' wr=>AQ w r s i a' wr) (fun _ wr=>match wr.cell? ⟨r,1,none⟩ with | some (.int _ n)=>s.size-n.toNat | _=>0)
 case atStart=>exact⟨t1,j1,b1,H7,x9,h1,x7,x8,g1⟩
 case round=>
  obtain⟨t,j,b,hw,eE,hj,H8,hl,gj⟩:=hrel;clear H7 x9 h1 x7 x8 g1;have HT:=hid (cQ (k:=124) 124 hj rfl);have KY:=hj.le;go_wp2_with fail;refine HT.out.mono ?_;rintro e w2 (⟨rfl,rfl,KT,h2,g2⟩ | ⟨rfl,h2,k2⟩)
  ·have h9:=eE.grown g2 hr
   have HY:=hid (HP.out w2 r s (j+1) false h2 hS qB);clear eE;go_wp2_with fail;refine HY.out.mono ?_;rintro e w3 ⟨v3,t3,j3,b3,rfl,KS,KP,h3,KU,KV,g3⟩;have x6:=h9.grown g3 hr;have KZ:=gj.size;have K0:=g2.size;have La:=g3.size;have gw3:=an gj (an g2 g3);have H9:=h3.le;go_wp2_with fail;refine(fO _ _ _ _ _ _ (x6.nds qB) (KP.nds qB) qB).mono ?_;rintro e w4 ⟨v4,rfl,KR,k4⟩;have h4:=h3.keeps k4;go_wp2_with fail;go_roundw
   case rel=>exact⟨Fm.or t t3,j3,b3,⟨hw,KS⟩,KR.mono qB,h4,qB,(by simp only[Fm.enc,zh,ze];omega),ag gw3 k4⟩
   case measure=>
    have e1:=hj.c1;have e2:=h4.c1;simp[e1,e2];omega
  ·go_wp2_with fail
   go_ret;exact⟨_,t,j,b,rfl,hw,eE.keeps k2,h2,H8,hl,ag gj k2⟩
theorem F8 (m:Nat) (hp:dF 208 m) (hi:∀ m',m'<m→dF 178 m'):dF 178 m:=by
 intro w r s i bad h hS hm;have HI:=hid hi;clear hi;have hr:=h.lt;have H0:=hid (hp w r s i bad h hS hm);clear h hp;go_enter Tryz.func178,Tryz.ntmps178;go_wp2_with fail;refine H0.out.mono ?_;rintro e w1 ⟨v1,t1,j1,b1,rfl,x6,h9,h1,x7,x8,g1⟩;clear H0;have HT:=hid (cQ (k:=62) 62 h1 rfl);go_wp2_with fail;refine HT.out.mono ?_;rintro e w2 (⟨rfl,rfl,KP,h2,g2⟩ | ⟨rfl,h2,k2⟩)
 ·have HY:=hid (HI.out (s.size-(j1+1)) qB w2 r s (j1+1) false h2 hS (zm _))
  go_wp2_with fail;refine HY.out.mono ?_;rintro e w3 ⟨v3,t3,j3,b3,rfl,H9,H7,h3,KR,KS,g3⟩;have eE:=(h9.grown g2 hr).grown g3 hr;have gw3:=an g1 (an g2 g3);have x9:=h3.le;go_wp2_with fail;refine(fO _ _ _ _ _ _ (eE.nds qB) (H7.nds qB) qB).mono ?_;rintro e w4 ⟨v4,rfl,H8,k4⟩;go_wp2_with fail;go_ret;exact⟨_,Fm.imp t1 t3,j3,b3,rfl,⟨x6,H9⟩,H8.mono gw3.size,h3.keeps k4,qB,(by simp only[Fm.enc,zh,ze];omega),ag gw3 k4⟩
 ·go_wp2_with fail
  go_ret;exact⟨_,t1,j1,b1,rfl,x6,h9.keeps k2,h2,x7,x8,ag g1 k2⟩
theorem Cd (m:Nat):dF 178 m∧dF 256 m:=by
 induction m using Nat.strongRecOn with
 | ind m ih=>
  have hi:=fun m' (h:m'<m)=>(ih m' h).1
  have hp:=fun m' (h:m'<m)=>(ih m' h).2
  have h1:=DJ m (IB m hi) hp;exact⟨F8 m (Kr m (JG m h1)) hi,h1⟩
theorem ES (m:Nat) (Lf:∀ m',m'<m→dF 210 m') (hi:∀ m',m'<m→dF 264 m'):dF 264 m:=by
 intro w r s i bad h hS hm;have HI:=hid hi;clear hi;have HM:=hid Lf;clear Lf;have hr:=h.lt;go_enter Tryz.func264,Tryz.ntmps264;go_wp2_with fail
 go_loopw [4] (fun q' wr=>∃ q:Nat,q≤6∧q'=.int .i64 q∧aa w wr) (fun q' _=>6-(intOf q').toNat)
 case atStart=>exact⟨0,qB,rfl,aa.refl w⟩
 case round=>
  obtain⟨q,Lj,rfl,kj⟩:=hrel;have Lh:q=0∨q=1∨q=2∨q=3∨q=4∨q=5∨q=6:=qB
  rcases Lh with rfl | rfl | rfl | rfl | rfl | rfl | rfl
  ·have h9:=hid (bz (k:=112) 112 (h.keeps kj) rfl)
   go_wp2_with fail;refine h9.out.mono ?_;rintro e w6 (⟨rfl,rfl,x6,h6,g6⟩ | ⟨rfl,h6,k6⟩)
   ·have gg:=ar kj g6
    go_wp2_with fail;refine(bO 0 _).mono ?_;rintro e w7 ⟨v7,rfl,eE,k7⟩;go_wp2_with fail;go_ret;exact⟨_,Fm.var 0,i+1,false,rfl,(by simp[Fm.wf]),eE.mono gg.size,h6.keeps k7,qB,(by simp[Fm.enc]),ag gg k7⟩
   ·go_wp2_with fail
    go_roundw
    case rel=>exact⟨0+1,qB,by first | rfl | go_num,kj.trans k6⟩
    case measure=>simp[intOf]
  ·have h9:=hid (bz (k:=113) 113 (h.keeps kj) rfl)
   go_wp2_with fail;refine h9.out.mono ?_;rintro e w6 (⟨rfl,rfl,x6,h6,g6⟩ | ⟨rfl,h6,k6⟩)
   ·have gg:=ar kj g6
    go_wp2_with fail;refine(bO 1 _).mono ?_;rintro e w7 ⟨v7,rfl,eE,k7⟩;go_wp2_with fail;go_ret;exact⟨_,Fm.var 1,i+1,false,rfl,(by simp[Fm.wf]),eE.mono gg.size,h6.keeps k7,qB,(by simp[Fm.enc]),ag gg k7⟩
   ·go_wp2_with fail
    go_roundw
    case rel=>exact⟨1+1,qB,by first | rfl | go_num,kj.trans k6⟩
    case measure=>simp[intOf]
  ·have h9:=hid (bz (k:=114) 114 (h.keeps kj) rfl)
   go_wp2_with fail;refine h9.out.mono ?_;rintro e w6 (⟨rfl,rfl,x6,h6,g6⟩ | ⟨rfl,h6,k6⟩)
   ·have gg:=ar kj g6
    go_wp2_with fail;refine(bO 2 _).mono ?_;rintro e w7 ⟨v7,rfl,eE,k7⟩;go_wp2_with fail;go_ret;exact⟨_,Fm.var 2,i+1,false,rfl,(by simp[Fm.wf]),eE.mono gg.size,h6.keeps k7,qB,(by simp[Fm.enc]),ag gg k7⟩
   ·go_wp2_with fail
    go_roundw
    case rel=>exact⟨2+1,qB,by first | rfl | go_num,kj.trans k6⟩
    case measure=>simp[intOf]
  ·have h9:=hid (bz (k:=115) 115 (h.keeps kj) rfl)
   go_wp2_with fail;refine h9.out.mono ?_;rintro e w6 (⟨rfl,rfl,x6,h6,g6⟩ | ⟨rfl,h6,k6⟩)
   ·have gg:=ar kj g6
    go_wp2_with fail;refine(bO 3 _).mono ?_;rintro e w7 ⟨v7,rfl,eE,k7⟩;go_wp2_with fail;go_ret;exact⟨_,Fm.var 3,i+1,false,rfl,(by simp[Fm.wf]),eE.mono gg.size,h6.keeps k7,qB,(by simp[Fm.enc]),ag gg k7⟩
   ·go_wp2_with fail
    go_roundw
    case rel=>exact⟨3+1,qB,by first | rfl | go_num,kj.trans k6⟩
    case measure=>simp[intOf]
  ·have h9:=hid (bz (k:=116) 116 (h.keeps kj) rfl)
   go_wp2_with fail;refine h9.out.mono ?_;rintro e w6 (⟨rfl,rfl,x6,h6,g6⟩ | ⟨rfl,h6,k6⟩)
   ·have gg:=ar kj g6
    go_wp2_with fail;refine(bO 4 _).mono ?_;rintro e w7 ⟨v7,rfl,eE,k7⟩;go_wp2_with fail;go_ret;exact⟨_,Fm.var 4,i+1,false,rfl,(by simp[Fm.wf]),eE.mono gg.size,h6.keeps k7,qB,(by simp[Fm.enc]),ag gg k7⟩
   ·go_wp2_with fail
    go_roundw
    case rel=>exact⟨4+1,qB,by first | rfl | go_num,kj.trans k6⟩
    case measure=>simp[intOf]
  ·have h9:=hid (bz (k:=117) 117 (h.keeps kj) rfl)
   go_wp2_with fail;refine h9.out.mono ?_;rintro e w6 (⟨rfl,rfl,x6,h6,g6⟩ | ⟨rfl,h6,k6⟩)
   ·have gg:=ar kj g6
    go_wp2_with fail;refine(bO 5 _).mono ?_;rintro e w7 ⟨v7,rfl,eE,k7⟩;go_wp2_with fail;go_ret;exact⟨_,Fm.var 5,i+1,false,rfl,(by simp[Fm.wf]),eE.mono gg.size,h6.keeps k7,qB,(by simp[Fm.enc]),ag gg k7⟩
   ·go_wp2_with fail
    go_roundw
    case rel=>exact⟨5+1,qB,by first | rfl | go_num,kj.trans k6⟩
    case measure=>simp[intOf]
  ·have Lg:=h.keeps kj
   have KS:=hid (bz (k:=70) 70 Lg rfl);go_wp2_with fail;refine KS.out.mono ?_;rintro e wa (⟨rfl,rfl,x6,ha,ga⟩ | ⟨rfl,La,kq70⟩)
   ·have g0:=ar kj ga
    go_wp2_with fail;refine(cU _).mono ?_;rintro e wb ⟨vb,rfl,x7,kb⟩;go_wp2_with fail;go_ret;exact⟨_,Fm.fls,i+1,false,rfl,(by simp[Fm.wf]),x7.mono g0.size,ha.keeps kb,qB,(by simp[Fm.enc];try omega),ag g0 kb⟩
   ·skip
    have KT:=hid (bz (k:=84) 84 La rfl);go_wp2_with fail;refine KT.out.mono ?_;rintro e wa (⟨rfl,rfl,x6,ha,ga⟩ | ⟨rfl,Lb,kq84⟩)
    ·have g0:=ar (kj.trans kq70) ga
     go_wp2_with fail;refine(dh _).mono ?_;rintro e wb ⟨vb,rfl,x7,kb⟩;go_wp2_with fail;go_ret;exact⟨_,Fm.imp .fls .fls,i+1,false,rfl,(by simp[Fm.wf]),x7.mono g0.size,ha.keeps kb,qB,(by simp[Fm.enc];try omega),ag g0 kb⟩
    ·skip
     have x9:=hid (bz (k:=126) 126 Lb rfl);go_wp2_with fail;refine x9.out.mono ?_;rintro e wa (⟨rfl,rfl,x6,ha,ga⟩ | ⟨rfl,H7,kq126⟩)
     ·have g0:=ar ((kj.trans kq70).trans kq84) ga
      have HY:=hid (HI.out (s.size-(i+1)) qB wa r s (i+1) false ha hS (zm _));go_wp2_with fail;refine HY.out.mono ?_;rintro e wb ⟨vb,tb,jb,bb,rfl,x8,x7,hb,KV,KY,gb⟩;have gg:=an g0 gb;have Le:=hb.le;go_wp2_with fail;refine(gK tb _ _ (x7.nds qB) qB).mono ?_;rintro e wc ⟨vc,rfl,H9,kc⟩;go_wp2_with fail;go_ret;exact⟨_,Fm.imp tb .fls,jb,bb,rfl,⟨x8,trivial⟩,H9.mono gg.size,hb.keeps kc,qB,(by simp only[Fm.enc,zh,ze,List.length_nil];omega),ag gg kc⟩
     ·skip
      have KU:=hid (bz (k:=91) 91 H7 rfl);go_wp2_with fail;refine KU.out.mono ?_;rintro e wa (⟨rfl,rfl,x6,ha,ga⟩ | ⟨rfl,Lc,kq91⟩)
      ·have g0:=ar (((kj.trans kq70).trans kq84).trans kq126) ga
       have HN:=hid (AF (k:=93) 93 ha rfl);go_wp2_with fail;refine HN.out.mono ?_;rintro e wn ⟨jn,bn,rfl,Ld,hn,gn⟩;have KZ:=hn.le;have HY:=hid (HI.out (s.size-jn) qB wn r s jn bn hn hS (zm _));go_wp2_with fail;refine HY.out.mono ?_;rintro e wb ⟨vb,tb,jb,bb,rfl,x8,x7,hb,KV,KY,gb⟩;have gg:=an g0 (an gn gb);have Le:=hb.le;go_wp2_with fail;refine(ee 5 _ _ _ (x7.nds qB) qB).mono ?_;rintro e wc ⟨vc,rfl,H9,kc⟩;go_wp2_with fail;go_ret;exact⟨_,Fm.box tb,jb,bb,rfl,x8,H9.mono gg.size,hb.keeps kc,qB,(by simp only[Fm.enc,zh];omega),ag gg kc⟩
      ·skip
       have KR:=hid (bz (k:=60) 60 Lc rfl);go_wp2_with fail;refine KR.out.mono ?_;rintro e wa (⟨rfl,rfl,x6,ha,ga⟩ | ⟨rfl,K0,kq60⟩)
       ·have g0:=ar ((((kj.trans kq70).trans kq84).trans kq126).trans kq91) ga
        have HN:=hid (AF (k:=62) 62 ha rfl);go_wp2_with fail;refine HN.out.mono ?_;rintro e wn ⟨jn,bn,rfl,Ld,hn,gn⟩;have KZ:=hn.le;have HY:=hid (HI.out (s.size-jn) qB wn r s jn bn hn hS (zm _));go_wp2_with fail;refine HY.out.mono ?_;rintro e wb ⟨vb,tb,jb,bb,rfl,x8,x7,hb,KV,KY,gb⟩;have gg:=an g0 (an gn gb);have Le:=hb.le;go_wp2_with fail;refine(ee 6 _ _ _ (x7.nds qB) qB).mono ?_;rintro e wc ⟨vc,rfl,H9,kc⟩;go_wp2_with fail;go_ret;exact⟨_,Fm.dia tb,jb,bb,rfl,x8,H9.mono gg.size,hb.keeps kc,qB,(by simp only[Fm.enc,zh];omega),ag gg kc⟩
       ·skip
        have KP:=hid (bz (k:=40) 40 K0 rfl);go_wp2_with fail;refine KP.out.mono ?_;rintro e wa (⟨rfl,rfl,x6,ha,ga⟩ | ⟨rfl,H8,kq40⟩)
        ·have g0:=ar (((((kj.trans kq70).trans kq84).trans kq126).trans kq91).trans kq60) ga
         have HY:=hid (HM.out (s.size-(i+1)) qB wa r s (i+1) false ha hS (zm _));have Li:=ha.lt;go_wp2_with fail;refine HY.out.mono ?_;rintro e wb ⟨vb,tb,jb,bb,rfl,x8,x7,hb,KV,KY,gb⟩;have HN:=hid (AF (k:=41) 41 hb rfl);go_wp2_with fail;refine HN.out.mono ?_;rintro e wn ⟨jn,bn,rfl,Ld,hn,gn⟩;go_wp2_with fail;go_ret;exact⟨_,tb,jn,bn,rfl,x8,(x7.grown gn Li).mono g0.size,hn,qB,qB,an g0 (an gb gn)⟩
        ·skip
         have hs:=H8.spoiled;have kz:=((((((kj.trans kq70).trans kq84).trans kq126).trans kq91).trans kq60).trans kq40);have gg:=ar kz (db r 2 (.bool true));obtain⟨c0,c1,c2,f1,f2,le,sz⟩:=H8;go_wp2_with fail;refine(cU _).mono ?_;rintro e w7 ⟨v7,rfl,eE,k7⟩;go_wp2_with fail;go_ret;exact⟨_,Fm.fls,i,true,rfl,trivial,eE.mono gg.size,hs.keeps k7,zm _,(by simp[Fm.enc]),ag gg k7⟩
theorem J0 (m:Nat) (hp:dF 264 m):dF 257 m:=by
 intro w r s i bad h hS hm;have HP:=hid hp;clear hp;have hr:=h.lt;have H0:=hid (HP.out w r s i bad h hS hm);clear h;go_enter Tryz.func257,Tryz.ntmps257;go_wp2_with fail;refine H0.out.mono ?_;rintro e w1 ⟨v1,t1,j1,b1,rfl,H7,x9,h1,x7,x8,g1⟩;clear H0;go_wp2_with fail
 go_loopw [3] (fun a' wr=>AQ w r s i a' wr) (fun _ wr=>match wr.cell? ⟨r,1,none⟩ with | some (.int _ n)=>s.size-n.toNat | _=>0)
 case atStart=>exact⟨t1,j1,b1,H7,x9,h1,x7,x8,g1⟩
 case round=>
  obtain⟨t,j,b,hw,eE,hj,H8,hl,gj⟩:=hrel;clear H7 x9 h1 x7 x8 g1;have HT:=hid (bz (k:=38) 38 hj rfl);have KY:=hj.le;go_wp2_with fail;refine HT.out.mono ?_;rintro e w2 (⟨rfl,rfl,KT,h2,g2⟩ | ⟨rfl,h2,k2⟩)
  ·have h9:=eE.grown g2 hr
   have HY:=hid (HP.out w2 r s (j+1) false h2 hS qB);clear eE;go_wp2_with fail;refine HY.out.mono ?_;rintro e w3 ⟨v3,t3,j3,b3,rfl,KS,KP,h3,KU,KV,g3⟩;have x6:=h9.grown g3 hr;have KZ:=gj.size;have K0:=g2.size;have La:=g3.size;have gw3:=an gj (an g2 g3);have H9:=h3.le;go_wp2_with fail;refine(bQ _ _ _ _ _ _ (x6.nds qB) (KP.nds qB) qB).mono ?_;rintro e w4 ⟨v4,rfl,KR,k4⟩;have h4:=h3.keeps k4;go_wp2_with fail;go_roundw
   case rel=>exact⟨Fm.and t t3,j3,b3,⟨hw,KS⟩,KR.mono qB,h4,qB,(by simp only[Fm.enc,zh,ze];omega),ag gw3 k4⟩
   case measure=>
    have e1:=hj.c1;have e2:=h4.c1;simp[e1,e2];omega
  ·go_wp2_with fail
   go_ret;exact⟨_,t,j,b,rfl,hw,eE.keeps k2,h2,H8,hl,ag gj k2⟩
theorem KH (m:Nat) (hp:dF 257 m):dF 240 m:=by
 intro w r s i bad h hS hm;have HP:=hid hp;clear hp;have hr:=h.lt;have H0:=hid (HP.out w r s i bad h hS hm);clear h;go_enter Tryz.func240,Tryz.ntmps240;go_wp2_with fail;refine H0.out.mono ?_;rintro e w1 ⟨v1,t1,j1,b1,rfl,H7,x9,h1,x7,x8,g1⟩;clear H0;go_wp2_with fail
 go_loopw [3] (fun a' wr=>AQ w r s i a' wr) (fun _ wr=>match wr.cell? ⟨r,1,none⟩ with | some (.int _ n)=>s.size-n.toNat | _=>0)
 case atStart=>exact⟨t1,j1,b1,H7,x9,h1,x7,x8,g1⟩
 case round=>
  obtain⟨t,j,b,hw,eE,hj,H8,hl,gj⟩:=hrel;clear H7 x9 h1 x7 x8 g1;have HT:=hid (bz (k:=124) 124 hj rfl);have KY:=hj.le;go_wp2_with fail;refine HT.out.mono ?_;rintro e w2 (⟨rfl,rfl,KT,h2,g2⟩ | ⟨rfl,h2,k2⟩)
  ·have h9:=eE.grown g2 hr
   have HY:=hid (HP.out w2 r s (j+1) false h2 hS qB);clear eE;go_wp2_with fail;refine HY.out.mono ?_;rintro e w3 ⟨v3,t3,j3,b3,rfl,KS,KP,h3,KU,KV,g3⟩;have x6:=h9.grown g3 hr;have KZ:=gj.size;have K0:=g2.size;have La:=g3.size;have gw3:=an gj (an g2 g3);have H9:=h3.le;go_wp2_with fail;refine(bQ _ _ _ _ _ _ (x6.nds qB) (KP.nds qB) qB).mono ?_;rintro e w4 ⟨v4,rfl,KR,k4⟩;have h4:=h3.keeps k4;go_wp2_with fail;go_roundw
   case rel=>exact⟨Fm.or t t3,j3,b3,⟨hw,KS⟩,KR.mono qB,h4,qB,(by simp only[Fm.enc,zh,ze];omega),ag gw3 k4⟩
   case measure=>
    have e1:=hj.c1;have e2:=h4.c1;simp[e1,e2];omega
  ·go_wp2_with fail
   go_ret;exact⟨_,t,j,b,rfl,hw,eE.keeps k2,h2,H8,hl,ag gj k2⟩
theorem GG (m:Nat) (hp:dF 240 m) (hi:∀ m',m'<m→dF 210 m'):dF 210 m:=by
 intro w r s i bad h hS hm;have HI:=hid hi;clear hi;have hr:=h.lt;have H0:=hid (hp w r s i bad h hS hm);clear h hp;go_enter Tryz.func210,Tryz.ntmps210;go_wp2_with fail;refine H0.out.mono ?_;rintro e w1 ⟨v1,t1,j1,b1,rfl,x6,h9,h1,x7,x8,g1⟩;clear H0;have HT:=hid (bz (k:=62) 62 h1 rfl);go_wp2_with fail;refine HT.out.mono ?_;rintro e w2 (⟨rfl,rfl,KP,h2,g2⟩ | ⟨rfl,h2,k2⟩)
 ·have HY:=hid (HI.out (s.size-(j1+1)) qB w2 r s (j1+1) false h2 hS (zm _))
  go_wp2_with fail;refine HY.out.mono ?_;rintro e w3 ⟨v3,t3,j3,b3,rfl,H9,H7,h3,KR,KS,g3⟩;have eE:=(h9.grown g2 hr).grown g3 hr;have gw3:=an g1 (an g2 g3);have x9:=h3.le;go_wp2_with fail;refine(bQ _ _ _ _ _ _ (eE.nds qB) (H7.nds qB) qB).mono ?_;rintro e w4 ⟨v4,rfl,H8,k4⟩;go_wp2_with fail;go_ret;exact⟨_,Fm.imp t1 t3,j3,b3,rfl,⟨x6,H9⟩,H8.mono gw3.size,h3.keeps k4,qB,(by simp only[Fm.enc,zh,ze];omega),ag gw3 k4⟩
 ·go_wp2_with fail
  go_ret;exact⟨_,t1,j1,b1,rfl,x6,h9.keeps k2,h2,x7,x8,ag g1 k2⟩
theorem CQ (m:Nat):dF 210 m∧dF 264 m:=by
 induction m using Nat.strongRecOn with
 | ind m ih=>
  have hi:=fun m' (h:m'<m)=>(ih m' h).1
  have hp:=fun m' (h:m'<m)=>(ih m' h).2
  have h1:=ES m hi hp;exact⟨GG m (KH m (J0 m h1)) hi,h1⟩
end Go.Proofs.YtagoboblkadelaaGreat
