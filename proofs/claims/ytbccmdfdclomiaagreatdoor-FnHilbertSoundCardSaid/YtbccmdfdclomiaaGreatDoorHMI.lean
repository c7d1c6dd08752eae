import Derived.Test.YtbccmdfdclomiaaGreatDoorHY5
/- own -/
namespace Go.Proofs.YtbccmdfdclomiaaGreatDoor
set_option maxRecDepth 20000
set_option maxHeartbeats 4000000
open Go.RowKit
theorem wrBox (x:Fm) (hx:WrOk x):WrOk (Fm.box x):=by
 intro hL l k hk v w hv
 have hle1:(Fm.box x).enc.length=x.enc.length+1:=by simp only [Fm.enc,List.length_cons]
 have hp:=Fm.enc_pos x;have hv0:=hv;obtain ⟨b,off,n,cap,rfl,h0,h1,h2,h3,hc,hsy⟩:=hv.root
 replace hc:w.cell? ⟨b,off,none⟩=some (.int .i64 5):=hc
 obtain ⟨hn,hat⟩:n=(Fm.box x).enc.length∧At w (some ⟨b,off,none⟩) (ndCells (Fm.box x).enc):=by
  obtain ⟨p',c',e,_,_,hat,_⟩:=hv0
  cases e
  exact ⟨rfl,hat⟩
 have HVs:=hid (fun o n' c' (ho:o=off+1*2) (hn':n'=n-1) (hc1:n'≤c') (hc2:c'≤maxLen)=>(Nds.sub (w:=w) (l:=[⟨5,0⟩]) (m:=x.enc) (r:=[]) (b:=b) (off:=off) (o:=o) (n:=n') (cap:=c') (by simpa [Fm.enc] using hat) (by omega) (by simpa using ho) (by omega) hc1 hc2));have HX:=hid (hx (by omega));clear hx;have hB:(Fm.box x).body=91::93::x.txt 3:=rfl;have hlv0:(Fm.box x).lev=3:=rfl;have HB:=hid hB;clear hB hat hv hv0
 have hc1:¬cap=1:=by omega
 unfold maxLen at h2
 by_cases hlv:(3:Nat)<l
 ·rw [txt_yes (t:=Fm.box x) (by rw [hlv0];exact hlv)]
  have hkl:((3:Int)<k):=by omega
  clear hlv hk;go_enter Tryz.func178,Tryz.ntmps178;go_wp2_with fail;refine (HX.out 3 _ rfl _ _ (HVs.out _ _ _ (by first | rfl | omega) (by omega) (by omega) (by unfold maxLen;omega))).mono ?_;rintro e w1 ⟨s1,rfl,hs1,k1⟩;have z1:=txt_size hs1 (by omega);go_wp2_with fail;go_ret;exact ⟨_,rfl,by rw [HB.out];simp only [bts_append,hs1];rfl,k1⟩
 ·rw [txt_no (t:=Fm.box x) (by rw [hlv0];exact hlv)]
  have hkl:¬((3:Int)<k):=by omega
  clear hlv hk;go_enter Tryz.func178,Tryz.ntmps178;go_wp2_with fail;refine (HX.out 3 _ rfl _ _ (HVs.out _ _ _ (by first | rfl | omega) (by omega) (by omega) (by unfold maxLen;omega))).mono ?_;rintro e w1 ⟨s1,rfl,hs1,k1⟩;have z1:=txt_size hs1 (by omega);go_wp2_with fail;go_ret;exact ⟨_,rfl,by rw [HB.out];simp only [bts_append,hs1];rfl,k1⟩
theorem wrDia (x:Fm) (hx:WrOk x):WrOk (Fm.dia x):=by
 intro hL l k hk v w hv
 have hle1:(Fm.dia x).enc.length=x.enc.length+1:=by simp only [Fm.enc,List.length_cons]
 have hp:=Fm.enc_pos x;have hv0:=hv;obtain ⟨b,off,n,cap,rfl,h0,h1,h2,h3,hc,hsy⟩:=hv.root
 replace hc:w.cell? ⟨b,off,none⟩=some (.int .i64 6):=hc
 obtain ⟨hn,hat⟩:n=(Fm.dia x).enc.length∧At w (some ⟨b,off,none⟩) (ndCells (Fm.dia x).enc):=by
  obtain ⟨p',c',e,_,_,hat,_⟩:=hv0
  cases e
  exact ⟨rfl,hat⟩
 have HVs:=hid (fun o n' c' (ho:o=off+1*2) (hn':n'=n-1) (hc1:n'≤c') (hc2:c'≤maxLen)=>(Nds.sub (w:=w) (l:=[⟨6,0⟩]) (m:=x.enc) (r:=[]) (b:=b) (off:=off) (o:=o) (n:=n') (cap:=c') (by simpa [Fm.enc] using hat) (by omega) (by simpa using ho) (by omega) hc1 hc2));have HX:=hid (hx (by omega));clear hx;have hB:(Fm.dia x).body=60::62::x.txt 3:=rfl;have hlv0:(Fm.dia x).lev=3:=rfl;have HB:=hid hB;clear hB hat hv hv0
 have hc1:¬cap=1:=by omega
 unfold maxLen at h2
 by_cases hlv:(3:Nat)<l
 ·rw [txt_yes (t:=Fm.dia x) (by rw [hlv0];exact hlv)]
  have hkl:((3:Int)<k):=by omega
  clear hlv hk;go_enter Tryz.func178,Tryz.ntmps178;go_wp2_with fail;refine (HX.out 3 _ rfl _ _ (HVs.out _ _ _ (by first | rfl | omega) (by omega) (by omega) (by unfold maxLen;omega))).mono ?_;rintro e w1 ⟨s1,rfl,hs1,k1⟩;have z1:=txt_size hs1 (by omega);go_wp2_with fail;go_ret;exact ⟨_,rfl,by rw [HB.out];simp only [bts_append,hs1];rfl,k1⟩
 ·rw [txt_no (t:=Fm.dia x) (by rw [hlv0];exact hlv)]
  have hkl:¬((3:Int)<k):=by omega
  clear hlv hk;go_enter Tryz.func178,Tryz.ntmps178;go_wp2_with fail;refine (HX.out 3 _ rfl _ _ (HVs.out _ _ _ (by first | rfl | omega) (by omega) (by omega) (by unfold maxLen;omega))).mono ?_;rintro e w1 ⟨s1,rfl,hs1,k1⟩;have z1:=txt_size hs1 (by omega);go_wp2_with fail;go_ret;exact ⟨_,rfl,by rw [HB.out];simp only [bts_append,hs1];rfl,k1⟩
theorem wrOkA (t:Fm) (hw:t.wf):WrOk t:=by
 induction t with
 | var i=>exact wrVar i hw
 | fls=>exact wrFls
 | and x y hx hy=>exact wrAnd x y (hx hw.1) (hy hw.2)
 | or x y hx hy=>exact wrOr x y (hx hw.1) (hy hw.2)
 | box x hx=>exact wrBox x (hx hw)
 | dia x hx=>exact wrDia x (hx hw)
 | imp x y hx hy=>
  cases hf:y.isFls
  ·exact wrImp x y hf (hx hw.1) (hy hw.2)
  ·cases y<;>simp [Fm.isFls] at hf
   cases hx1:x.isFls
   ·exact wrNeg x hx1 (hx hw.1)
   ·cases x<;>simp [Fm.isFls] at hx1
    exact wrTop
theorem l02TextA (t:Fm) (hw:t.wf) (hl:t.enc.length≤100000000) (v:Value) (w:World) (hv:Nds w v t.enc):
  Calls Tryz.prog 139 #[v] w fun e w'=>∃ s,e=.returned (.string s)∧bts s=t.body∧Keeps w w':=by
 have H:=hid (wrOkA t hw hl 0 0 rfl v w hv);go_enter Tryz.func139,Tryz.ntmps139;go_wp2_with fail;refine H.out.mono ?_;rintro e w1 ⟨s,rfl,hs,k1⟩;go_wp2_with fail;go_ret;exact ⟨_,rfl,by rw [hs,Fm.txt0],k1⟩
def TakeA (w:World) (r:Nat) (s:ByteArray) (i:Nat) (bad:Bool) (e:Ending) (w':World):Prop:=
 (e=.returned (.bool true)∧bad=false∧i<s.size∧RdAt w' r s (i+1) false∧w.grownBy w' (some r))∨(e=.returned (.bool false)∧RdAt w' r s i bad∧Keeps w w')
def RetA (w:World) (r:Nat) (s:ByteArray) (i:Nat) (e:Ending) (w':World):Prop:=
 ∃ (v:Value) (t:Fm) (j:Nat) (bad:Bool),e=.returned v∧t.wf∧OwnN w' w.heap.size v t.enc∧RdAt w' r s j bad∧i≤j∧t.enc.length≤3*(j-i)+1∧w.grownBy w' (some r)
def LoopA (w:World) (r:Nat) (s:ByteArray) (i:Nat) (v:Value) (w':World):Prop:=
 ∃ (t:Fm) (j:Nat) (bad:Bool),t.wf∧OwnN w' w.heap.size v t.enc∧RdAt w' r s j bad∧i≤j∧t.enc.length≤3*(j-i)+1∧w.grownBy w' (some r)
def NeedA (w:World) (r:Nat) (s:ByteArray) (i:Nat) (e:Ending) (w':World):Prop:=
 ∃ (j:Nat) (bad:Bool),e=.returned (.tuple #[])∧i≤j∧RdAt w' r s j bad∧w.grownBy w' (some r)
def ReadA (f:FuncId) (m:Nat):Prop:=
 ∀ (w:World) (r:Nat) (s:ByteArray) (i:Nat) (bad:Bool),RdAt w r s i bad→s.size≤10000000→s.size-i≤m→Calls Tryz.prog f #[.pointer (some ⟨r,0,none⟩)] w (RetA w r s i)
theorem RdAt.spoiled {w:World} {r:Nat} {s:ByteArray} {i:Nat} {bad:Bool} (h:RdAt w r s i bad):RdAt (w.setCell ⟨r,2,none⟩ (.bool true)) r s i true:=by
 refine ⟨?_,?_,?_,?_,?_,h.le,h.sz⟩
 ·exact (World.cell?_setCell_other (a:=⟨r,2,none⟩) (b:=⟨r,0,none⟩) (h:=by simp) ..).trans h.c0
 ·exact (World.cell?_setCell_other (a:=⟨r,2,none⟩) (b:=⟨r,1,none⟩) (h:=by simp) ..).trans h.c1
 ·exact World.cell?_setCell_same (h:=h.c2) ..
 ·rw [World.frozen?_setCell];exact h.f1
 ·rw [World.frozen?_setCell];exact h.f2
theorem run_next_end_at {P:Program} (w:World) (g:Nat) (s:ByteArray) (pos:Nat) (ty:TypeId) (hh:w.heap[g]? = some (.stringIter s pos)) (h:¬pos<s.size):
  (Instr.next (.pointer (some ⟨g,0,none⟩)) true ty).run P w=.ok (.tuple #[.bool false]) w:=by
 simp [Instr.next,getObj,Sem.run,hh,h]
theorem take_bad {w:World} {r:Nat} {s:ByteArray} {i:Nat} {k:Int} (h:RdAt w r s i true):
  Calls Tryz.prog 213 #[.pointer (some ⟨r,0,none⟩),.int .u8 k] w fun e w'=>e=.returned (.bool false)∧RdAt w' r s i true∧Keeps w w':=by
 have hm:=fun n=>h.keeps ((Keeps.refl w).drewN n)
 obtain ⟨c0,c1,c2,f1,f2,le,sz⟩:=h;go_enter Tryz.func213,Tryz.ntmps213;go_wp2_with fail
 go_quiet (fail)
 go_wp2_with fail;go_ret;exact ⟨rfl,hm _,(Keeps.refl w).drewN _⟩
theorem take_any (b:UInt8) {w:World} {r:Nat} {s:ByteArray} {i:Nat} {bad:Bool} {k:Int} (h:RdAt w r s i bad) (hk:k=(b.toNat:Int)):
  Calls Tryz.prog 213 #[.pointer (some ⟨r,0,none⟩),.int .u8 k] w (TakeA w r s i bad):=by
 cases bad with
 | true=>exact (take_bad h).mono fun e w' ⟨h1,h2,h3⟩=>.inr ⟨h1,h2,h3⟩
 | false=>
  by_cases hh:((bts s).drop i).head? = some b
  ·cases hl:(bts s).drop i with
   | nil=>rw [hl] at hh;cases hh
   | cons c l=>
    rw [hl] at hh;obtain rfl:c=b:=Option.some.inj hh;obtain ⟨hi,_⟩:=bts_head hl
    exact (take_hit h hl hk).mono fun e w' ⟨h1,h2,h3⟩=>.inl ⟨h1,rfl,hi,h2,h3⟩
  ·exact (take_miss b h rfl hh hk).mono fun e w' ⟨h1,h2,h3⟩=>.inr ⟨h1,h2,h3⟩
theorem l02Take_bad {w:World} {r:Nat} {s:ByteArray} {i:Nat} {k:Int} (h:RdAt w r s i true):
  Calls Tryz.prog 237 #[.pointer (some ⟨r,0,none⟩),.int .u8 k] w fun e w'=>e=.returned (.bool false)∧RdAt w' r s i true∧Keeps w w':=by
 have hm:=fun n=>h.keeps ((Keeps.refl w).drewN n)
 obtain ⟨c0,c1,c2,f1,f2,le,sz⟩:=h;go_enter Tryz.func237,Tryz.ntmps237;go_wp2_with fail
 go_quiet (fail)
 go_wp2_with fail;go_ret;exact ⟨rfl,hm _,(Keeps.refl w).drewN _⟩
theorem l02Take_any (b:UInt8) {w:World} {r:Nat} {s:ByteArray} {i:Nat} {bad:Bool} {k:Int} (h:RdAt w r s i bad) (hk:k=(b.toNat:Int)):
  Calls Tryz.prog 237 #[.pointer (some ⟨r,0,none⟩),.int .u8 k] w (TakeA w r s i bad):=by
 cases bad with
 | true=>exact (l02Take_bad h).mono fun e w' ⟨h1,h2,h3⟩=>.inr ⟨h1,h2,h3⟩
 | false=>
  by_cases hh:((bts s).drop i).head? = some b
  ·cases hl:(bts s).drop i with
   | nil=>rw [hl] at hh;cases hh
   | cons c l=>
    rw [hl] at hh;obtain rfl:c=b:=Option.some.inj hh;obtain ⟨hi,_⟩:=bts_head hl
    exact (l02Take_hit h hl hk).mono fun e w' ⟨h1,h2,h3⟩=>.inl ⟨h1,rfl,hi,h2,h3⟩
  ·exact (l02Take_miss b h rfl hh hk).mono fun e w' ⟨h1,h2,h3⟩=>.inr ⟨h1,h2,h3⟩
theorem iNeedA (b:UInt8) {w:World} {r:Nat} {s:ByteArray} {i:Nat} {bad:Bool} {k:Int} (h:RdAt w r s i bad) (hk:k=(b.toNat:Int)):
  Calls Tryz.prog 272 #[.pointer (some ⟨r,0,none⟩),.int .u8 k] w (NeedA w r s i):=by
 have H:=hid (take_any b h hk);clear h hk;go_enter Tryz.func272,Tryz.ntmps272;go_wp2_with fail;refine H.out.mono ?_;rintro e w1 (⟨rfl,rfl,hi,h1,g1⟩ | ⟨rfl,h1,k1⟩)
 ·go_wp2_with fail
  refine bodyPost_end (v:=.tuple #[]) (by simp [results,Tryz.results272,go_sem]) rfl ?_;exact ⟨i+1,false,rfl,by omega,h1,g1⟩
 ·have hs:=h1.spoiled
  obtain ⟨c0,c1,c2,f1,f2,le,sz⟩:=h1;go_wp2_with fail;refine bodyPost_end (v:=.tuple #[]) (by simp [results,Tryz.results272,go_sem]) rfl ?_;exact ⟨i,true,rfl,Nat.le_refl _,hs,grown_pre0 k1 (grown_set _ _ _)⟩
theorem sNeedA (b:UInt8) {w:World} {r:Nat} {s:ByteArray} {i:Nat} {bad:Bool} {k:Int} (h:RdAt w r s i bad) (hk:k=(b.toNat:Int)):
  Calls Tryz.prog 282 #[.pointer (some ⟨r,0,none⟩),.int .u8 k] w (NeedA w r s i):=by
 have H:=hid (l02Take_any b h hk);clear h hk;go_enter Tryz.func282,Tryz.ntmps282;go_wp2_with fail;refine H.out.mono ?_;rintro e w1 (⟨rfl,rfl,hi,h1,g1⟩ | ⟨rfl,h1,k1⟩)
 ·go_wp2_with fail
  refine bodyPost_end (v:=.tuple #[]) (by simp [results,Tryz.results282,go_sem]) rfl ?_;exact ⟨i+1,false,rfl,by omega,h1,g1⟩
 ·have hs:=h1.spoiled
  obtain ⟨c0,c1,c2,f1,f2,le,sz⟩:=h1;go_wp2_with fail;refine bodyPost_end (v:=.tuple #[]) (by simp [results,Tryz.results282,go_sem]) rfl ?_;exact ⟨i,true,rfl,Nat.le_refl _,hs,grown_pre0 k1 (grown_set _ _ _)⟩
theorem iAtomA (m:Nat) (hi:∀ m',m'<m→ReadA 179 m'):ReadA 273 m:=by
 intro w r s i bad h hS hm;have HM:=hid hi;clear hi;have hr:=h.lt;go_enter Tryz.func273,Tryz.ntmps273;have HT70:=hid (take_any (k:=70) 70 h rfl);go_wp2_with fail;refine HT70.out.mono ?_;rintro e wa (⟨rfl,rfl,hib,ha,ga⟩ | ⟨rfl,hq70,kq70⟩)
 ·have g0:=ga
  go_wp2_with fail;refine (falsum_any _).mono ?_;rintro e wb ⟨vb,rfl,hvb,kb⟩;go_wp2_with fail;go_ret;exact ⟨_,Fm.fls,i+1,false,rfl,(by simp [Fm.wf]),hvb.mono g0.size,ha.keeps kb,by omega,(by simp [Fm.enc];try omega),grown_keeps g0 kb⟩
 ·skip
  have HT84:=hid (take_any (k:=84) 84 hq70 rfl);go_wp2_with fail;refine HT84.out.mono ?_;rintro e wa (⟨rfl,rfl,hib,ha,ga⟩ | ⟨rfl,hq84,kq84⟩)
  ·have g0:=grown_pre0 kq70 ga
   go_wp2_with fail;refine (truth_any _).mono ?_;rintro e wb ⟨vb,rfl,hvb,kb⟩;go_wp2_with fail;go_ret;exact ⟨_,Fm.imp .fls .fls,i+1,false,rfl,(by simp [Fm.wf]),hvb.mono g0.size,ha.keeps kb,by omega,(by simp [Fm.enc];try omega),grown_keeps g0 kb⟩
  ·skip
   have HT40:=hid (take_any (k:=40) 40 hq84 rfl);go_wp2_with fail;refine HT40.out.mono ?_;rintro e wa (⟨rfl,rfl,hib,ha,ga⟩ | ⟨rfl,hq40,kq40⟩)
   ·have g0:=grown_pre0 (kq70.trans kq84) ga
    have HY:=hid (HM.out (s.size-(i+1)) (by omega) wa r s (i+1) false ha hS (Nat.le_refl _));have hra:=ha.lt;go_wp2_with fail;refine HY.out.mono ?_;rintro e wb ⟨vb,tb,jb,bb,rfl,hwb,hvb,hb,hjb,hlb,gb⟩;have HN:=hid (iNeedA (k:=41) 41 hb rfl);go_wp2_with fail;refine HN.out.mono ?_;rintro e wn ⟨jn,bn,rfl,hjn,hn,gn⟩;go_wp2_with fail;go_ret;exact ⟨_,tb,jn,bn,rfl,hwb,(hvb.grown gn hra).mono g0.size,hn,by omega,by omega,grown_trans g0 (grown_trans gb gn)⟩
   ·skip
    have hqz:=hq40;have kz:=((kq70.trans kq84).trans kq40);go_wp2_with fail
    go_loopw [4] (fun _ wr=>∃ q:Nat,q≤6∧wr.heap[wa.heap.size]? = some (.stringIter letters6 q)∧Keeps wa wr) (fun _ wr=>6-wr.iterPos wa.heap.size)
    case atStart=>exact ⟨0,by omega,World.iter_heap ..,(Keeps.refl wa).alloc _⟩
    case round=>
     obtain ⟨q,hqv,hit,kj⟩:=hrel;have hgl:wa.heap.size<wr.heap.size:=(Array.getElem?_eq_some_iff.1 hit).1
     have hq6:q=0∨q=1∨q=2∨q=3∨q=4∨q=5∨q=6:=by omega
     rcases hq6 with rfl | rfl | rfl | rfl | rfl | rfl | rfl
     ·have hnx:∀ ty,(Instr.next (.pointer (some ⟨wa.heap.size,0,none⟩)) true ty).run Tryz.prog wr=_:=fun ty=>run_next_at wr _ letters6 0 ty hit (by decide) (by decide)
      have k5:=kj.grown (grown_iter wr wa.heap.size letters6 (0+1)) (fun k hk=>by cases hk;omega);have hi5:=iter_at (s':=letters6) (p':=0+1) hgl;have hit0:=hit
      have hs5:(setIter wr wa.heap.size letters6 (0+1)).heap.size=wr.heap.size:=by simp [setIter]
      have HM1:=hid (take_any (k:=112) 112 (hqz.keeps k5) rfl);clear hit;go_wp2_with fail;refine HM1.out.mono ?_;rintro e w6 (⟨rfl,rfl,hib,h6,g6⟩ | ⟨rfl,h6,k6⟩)
      ·have gg:=grown_pre0 (kz.trans k5) g6
       go_wp2_with fail;refine (variable_any 0 _).mono ?_;rintro e w7 ⟨v7,rfl,hv7,k7⟩;go_wp2_with fail;go_ret;exact ⟨_,Fm.var 0,i+1,false,rfl,(by simp [Fm.wf]),hv7.mono gg.size,h6.keeps k7,by omega,(by simp [Fm.enc]),grown_keeps gg k7⟩
      ·have hi6:w6.heap[wa.heap.size]? = some (.stringIter letters6 (0+1)):=(k6.block (by omega)).trans hi5
       go_wp2_with fail;go_roundw
       case rel=>exact ⟨0+1,by omega,hi6,k5.trans k6⟩
       case measure=>simp [World.iterPos,hi6,hit0]
     ·have hnx:∀ ty,(Instr.next (.pointer (some ⟨wa.heap.size,0,none⟩)) true ty).run Tryz.prog wr=_:=fun ty=>run_next_at wr _ letters6 1 ty hit (by decide) (by decide)
      have k5:=kj.grown (grown_iter wr wa.heap.size letters6 (1+1)) (fun k hk=>by cases hk;omega);have hi5:=iter_at (s':=letters6) (p':=1+1) hgl;have hit0:=hit
      have hs5:(setIter wr wa.heap.size letters6 (1+1)).heap.size=wr.heap.size:=by simp [setIter]
      have HM1:=hid (take_any (k:=113) 113 (hqz.keeps k5) rfl);clear hit;go_wp2_with fail;refine HM1.out.mono ?_;rintro e w6 (⟨rfl,rfl,hib,h6,g6⟩ | ⟨rfl,h6,k6⟩)
      ·have gg:=grown_pre0 (kz.trans k5) g6
       go_wp2_with fail;refine (variable_any 1 _).mono ?_;rintro e w7 ⟨v7,rfl,hv7,k7⟩;go_wp2_with fail;go_ret;exact ⟨_,Fm.var 1,i+1,false,rfl,(by simp [Fm.wf]),hv7.mono gg.size,h6.keeps k7,by omega,(by simp [Fm.enc]),grown_keeps gg k7⟩
      ·have hi6:w6.heap[wa.heap.size]? = some (.stringIter letters6 (1+1)):=(k6.block (by omega)).trans hi5
       go_wp2_with fail;go_roundw
       case rel=>exact ⟨1+1,by omega,hi6,k5.trans k6⟩
       case measure=>simp [World.iterPos,hi6,hit0]
     ·have hnx:∀ ty,(Instr.next (.pointer (some ⟨wa.heap.size,0,none⟩)) true ty).run Tryz.prog wr=_:=fun ty=>run_next_at wr _ letters6 2 ty hit (by decide) (by decide)
      have k5:=kj.grown (grown_iter wr wa.heap.size letters6 (2+1)) (fun k hk=>by cases hk;omega);have hi5:=iter_at (s':=letters6) (p':=2+1) hgl;have hit0:=hit
      have hs5:(setIter wr wa.heap.size letters6 (2+1)).heap.size=wr.heap.size:=by simp [setIter]
      have HM1:=hid (take_any (k:=114) 114 (hqz.keeps k5) rfl);clear hit;go_wp2_with fail;refine HM1.out.mono ?_;rintro e w6 (⟨rfl,rfl,hib,h6,g6⟩ | ⟨rfl,h6,k6⟩)
      ·have gg:=grown_pre0 (kz.trans k5) g6
       go_wp2_with fail;refine (variable_any 2 _).mono ?_;rintro e w7 ⟨v7,rfl,hv7,k7⟩;go_wp2_with fail;go_ret;exact ⟨_,Fm.var 2,i+1,false,rfl,(by simp [Fm.wf]),hv7.mono gg.size,h6.keeps k7,by omega,(by simp [Fm.enc]),grown_keeps gg k7⟩
      ·have hi6:w6.heap[wa.heap.size]? = some (.stringIter letters6 (2+1)):=(k6.block (by omega)).trans hi5
       go_wp2_with fail;go_roundw
       case rel=>exact ⟨2+1,by omega,hi6,k5.trans k6⟩
       case measure=>simp [World.iterPos,hi6,hit0]
     ·have hnx:∀ ty,(Instr.next (.pointer (some ⟨wa.heap.size,0,none⟩)) true ty).run Tryz.prog wr=_:=fun ty=>run_next_at wr _ letters6 3 ty hit (by decide) (by decide)
      have k5:=kj.grown (grown_iter wr wa.heap.size letters6 (3+1)) (fun k hk=>by cases hk;omega);have hi5:=iter_at (s':=letters6) (p':=3+1) hgl;have hit0:=hit
      have hs5:(setIter wr wa.heap.size letters6 (3+1)).heap.size=wr.heap.size:=by simp [setIter]
      have HM1:=hid (take_any (k:=115) 115 (hqz.keeps k5) rfl);clear hit;go_wp2_with fail;refine HM1.out.mono ?_;rintro e w6 (⟨rfl,rfl,hib,h6,g6⟩ | ⟨rfl,h6,k6⟩)
      ·have gg:=grown_pre0 (kz.trans k5) g6
       go_wp2_with fail;refine (variable_any 3 _).mono ?_;rintro e w7 ⟨v7,rfl,hv7,k7⟩;go_wp2_with fail;go_ret;exact ⟨_,Fm.var 3,i+1,false,rfl,(by simp [Fm.wf]),hv7.mono gg.size,h6.keeps k7,by omega,(by simp [Fm.enc]),grown_keeps gg k7⟩
      ·have hi6:w6.heap[wa.heap.size]? = some (.stringIter letters6 (3+1)):=(k6.block (by omega)).trans hi5
       go_wp2_with fail;go_roundw
       case rel=>exact ⟨3+1,by omega,hi6,k5.trans k6⟩
       case measure=>simp [World.iterPos,hi6,hit0]
     ·have hnx:∀ ty,(Instr.next (.pointer (some ⟨wa.heap.size,0,none⟩)) true ty).run Tryz.prog wr=_:=fun ty=>run_next_at wr _ letters6 4 ty hit (by decide) (by decide)
      have k5:=kj.grown (grown_iter wr wa.heap.size letters6 (4+1)) (fun k hk=>by cases hk;omega);have hi5:=iter_at (s':=letters6) (p':=4+1) hgl;have hit0:=hit
      have hs5:(setIter wr wa.heap.size letters6 (4+1)).heap.size=wr.heap.size:=by simp [setIter]
      have HM1:=hid (take_any (k:=116) 116 (hqz.keeps k5) rfl);clear hit;go_wp2_with fail;refine HM1.out.mono ?_;rintro e w6 (⟨rfl,rfl,hib,h6,g6⟩ | ⟨rfl,h6,k6⟩)
      ·have gg:=grown_pre0 (kz.trans k5) g6
       go_wp2_with fail;refine (variable_any 4 _).mono ?_;rintro e w7 ⟨v7,rfl,hv7,k7⟩;go_wp2_with fail;go_ret;exact ⟨_,Fm.var 4,i+1,false,rfl,(by simp [Fm.wf]),hv7.mono gg.size,h6.keeps k7,by omega,(by simp [Fm.enc]),grown_keeps gg k7⟩
      ·have hi6:w6.heap[wa.heap.size]? = some (.stringIter letters6 (4+1)):=(k6.block (by omega)).trans hi5
       go_wp2_with fail;go_roundw
       case rel=>exact ⟨4+1,by omega,hi6,k5.trans k6⟩
       case measure=>simp [World.iterPos,hi6,hit0]
     ·have hnx:∀ ty,(Instr.next (.pointer (some ⟨wa.heap.size,0,none⟩)) true ty).run Tryz.prog wr=_:=fun ty=>run_next_at wr _ letters6 5 ty hit (by decide) (by decide)
      have k5:=kj.grown (grown_iter wr wa.heap.size letters6 (5+1)) (fun k hk=>by cases hk;omega);have hi5:=iter_at (s':=letters6) (p':=5+1) hgl;have hit0:=hit
      have hs5:(setIter wr wa.heap.size letters6 (5+1)).heap.size=wr.heap.size:=by simp [setIter]
      have HM1:=hid (take_any (k:=117) 117 (hqz.keeps k5) rfl);clear hit;go_wp2_with fail;refine HM1.out.mono ?_;rintro e w6 (⟨rfl,rfl,hib,h6,g6⟩ | ⟨rfl,h6,k6⟩)
      ·have gg:=grown_pre0 (kz.trans k5) g6
       go_wp2_with fail;refine (variable_any 5 _).mono ?_;rintro e w7 ⟨v7,rfl,hv7,k7⟩;go_wp2_with fail;go_ret;exact ⟨_,Fm.var 5,i+1,false,rfl,(by simp [Fm.wf]),hv7.mono gg.size,h6.keeps k7,by omega,(by simp [Fm.enc]),grown_keeps gg k7⟩
      ·have hi6:w6.heap[wa.heap.size]? = some (.stringIter letters6 (5+1)):=(k6.block (by omega)).trans hi5
       go_wp2_with fail;go_roundw
       case rel=>exact ⟨5+1,by omega,hi6,k5.trans k6⟩
       case measure=>simp [World.iterPos,hi6,hit0]
     ·have hnx:∀ ty,(Instr.next (.pointer (some ⟨wa.heap.size,0,none⟩)) true ty).run Tryz.prog wr=_:=fun ty=>run_next_end_at wr _ letters6 6 ty hit (by decide)
      have h7:=hqz.keeps kj;have hs:=h7.spoiled;obtain ⟨c0,c1,c2,f1,f2,le,sz⟩:=h7;clear hit;have gg:=grown_pre0 (kz.trans kj) (grown_set r 2 (.bool true));go_wp2_with fail;refine (falsum_any _).mono ?_;rintro e w7 ⟨v7,rfl,hv7,k7⟩;go_wp2_with fail;go_ret;exact ⟨_,Fm.fls,i,true,rfl,trivial,hv7.mono gg.size,hs.keeps k7,Nat.le_refl _,(by simp [Fm.enc]),grown_keeps gg k7⟩
theorem iPrefixA (m:Nat) (ha0:ReadA 273 m) (hi:∀ m',m'<m→ReadA 259 m'):ReadA 259 m:=by
 intro w r s i bad h hS hm;have HI:=hid hi;clear hi;have hr:=h.lt;go_enter Tryz.func259,Tryz.ntmps259;have HT126:=hid (take_any (k:=126) 126 h rfl);go_wp2_with fail;refine HT126.out.mono ?_;rintro e wa (⟨rfl,rfl,hib,ha,ga⟩ | ⟨rfl,hq126,kq126⟩)
 ·have g0:=ga
  have HY:=hid (HI.out (s.size-(i+1)) (by omega) wa r s (i+1) false ha hS (Nat.le_refl _));go_wp2_with fail;refine HY.out.mono ?_;rintro e wb ⟨vb,tb,jb,bb,rfl,hwb,hvb,hb,hjb,hlb,gb⟩;have gg:=grown_trans g0 gb;have hle:=hb.le;go_wp2_with fail;refine (negation_any tb _ _ (hvb.nds (by omega)) (by omega)).mono ?_;rintro e wc ⟨vc,rfl,hvc,kc⟩;go_wp2_with fail;go_ret;exact ⟨_,Fm.imp tb .fls,jb,bb,rfl,⟨hwb,trivial⟩,hvc.mono gg.size,hb.keeps kc,by omega,(by simp only [Fm.enc,List.length_cons,List.length_append,List.length_nil];omega),grown_keeps gg kc⟩
 ·skip
  have HT91:=hid (take_any (k:=91) 91 hq126 rfl);go_wp2_with fail;refine HT91.out.mono ?_;rintro e wa (⟨rfl,rfl,hib,ha,ga⟩ | ⟨rfl,hq91,kq91⟩)
  ·have g0:=grown_pre0 kq126 ga
   have HN:=hid (iNeedA (k:=93) 93 ha rfl);go_wp2_with fail;refine HN.out.mono ?_;rintro e wn ⟨jn,bn,rfl,hjn,hn,gn⟩;have hlen:=hn.le;have HY:=hid (HI.out (s.size-jn) (by omega) wn r s jn bn hn hS (Nat.le_refl _));go_wp2_with fail;refine HY.out.mono ?_;rintro e wb ⟨vb,tb,jb,bb,rfl,hwb,hvb,hb,hjb,hlb,gb⟩;have gg:=grown_trans g0 (grown_trans gn gb);have hle:=hb.le;go_wp2_with fail;refine (prefix_any 5 _ _ _ (hvb.nds (by omega)) (by omega)).mono ?_;rintro e wc ⟨vc,rfl,hvc,kc⟩;go_wp2_with fail;go_ret;exact ⟨_,Fm.box tb,jb,bb,rfl,hwb,hvc.mono gg.size,hb.keeps kc,by omega,(by simp only [Fm.enc,List.length_cons];omega),grown_keeps gg kc⟩
  ·skip
   have HT60:=hid (take_any (k:=60) 60 hq91 rfl);go_wp2_with fail;refine HT60.out.mono ?_;rintro e wa (⟨rfl,rfl,hib,ha,ga⟩ | ⟨rfl,hq60,kq60⟩)
   ·have g0:=grown_pre0 (kq126.trans kq91) ga
    have HN:=hid (iNeedA (k:=62) 62 ha rfl);go_wp2_with fail;refine HN.out.mono ?_;rintro e wn ⟨jn,bn,rfl,hjn,hn,gn⟩;have hlen:=hn.le;have HY:=hid (HI.out (s.size-jn) (by omega) wn r s jn bn hn hS (Nat.le_refl _));go_wp2_with fail;refine HY.out.mono ?_;rintro e wb ⟨vb,tb,jb,bb,rfl,hwb,hvb,hb,hjb,hlb,gb⟩;have gg:=grown_trans g0 (grown_trans gn gb);have hle:=hb.le;go_wp2_with fail;refine (prefix_any 6 _ _ _ (hvb.nds (by omega)) (by omega)).mono ?_;rintro e wc ⟨vc,rfl,hvc,kc⟩;go_wp2_with fail;go_ret;exact ⟨_,Fm.dia tb,jb,bb,rfl,hwb,hvc.mono gg.size,hb.keeps kc,by omega,(by simp only [Fm.enc,List.length_cons];omega),grown_keeps gg kc⟩
   ·skip
    have HA:=hid (ha0 _ r s i bad hq60 hS hm);clear ha0;have kz:=((kq126.trans kq91).trans kq60);go_wp2_with fail;refine HA.out.mono ?_;rintro e wb ⟨vb,tb,jb,bb,rfl,hwb,hvb,hb,hjb,hlb,gb⟩;go_wp2_with fail;go_ret;exact ⟨_,tb,jb,bb,rfl,hwb,hvb.mono kz.size,hb,hjb,hlb,grown_pre0 kz gb⟩
theorem iAndA (m:Nat) (hp:ReadA 259 m):ReadA 235 m:=by
 intro w r s i bad h hS hm;have HP:=hid hp;clear hp;have hr:=h.lt;have H0:=hid (HP.out w r s i bad h hS hm);clear h;go_enter Tryz.func235,Tryz.ntmps235;go_wp2_with fail;refine H0.out.mono ?_;rintro e w1 ⟨v1,t1,j1,b1,rfl,hw1,hv1,h1,hj1,hl1,g1⟩;clear H0;go_wp2_with fail
 go_loopw [3] (fun a' wr=>LoopA w r s i a' wr) (fun _ wr=>match wr.cell? ⟨r,1,none⟩ with | some (.int _ n)=>s.size-n.toNat | _=>0)
 case atStart=>exact ⟨t1,j1,b1,hw1,hv1,h1,hj1,hl1,g1⟩
 case round=>
  obtain ⟨t,j,b,hw,hacc,hj,hij,hl,gj⟩:=hrel;clear hw1 hv1 h1 hj1 hl1 g1;have HT:=hid (take_any (k:=38) 38 hj rfl);have hle:=hj.le;go_wp2_with fail;refine HT.out.mono ?_;rintro e w2 (⟨rfl,rfl,hi2,h2,g2⟩ | ⟨rfl,h2,k2⟩)
  ·have hacc2:=hacc.grown g2 hr
   have HY:=hid (HP.out w2 r s (j+1) false h2 hS (by omega));clear hacc;go_wp2_with fail;refine HY.out.mono ?_;rintro e w3 ⟨v3,t3,j3,b3,rfl,hw3,hv3,h3,hj3,hl3,g3⟩;have hacc3:=hacc2.grown g3 hr;have hs2:=gj.size;have hs3:=g2.size;have hs4:=g3.size;have gw3:=grown_trans gj (grown_trans g2 g3);have hle3:=h3.le;go_wp2_with fail;refine (join_any _ _ _ _ _ _ (hacc3.nds (by omega)) (hv3.nds (by omega)) (by omega)).mono ?_;rintro e w4 ⟨v4,rfl,hv4,k4⟩;have h4:=h3.keeps k4;go_wp2_with fail;go_roundw
   case rel=>exact ⟨Fm.and t t3,j3,b3,⟨hw,hw3⟩,hv4.mono (by omega),h4,by omega,(by simp only [Fm.enc,List.length_cons,List.length_append];omega),grown_keeps gw3 k4⟩
   case measure=>
    have e1:=hj.c1;have e2:=h4.c1;simp [e1,e2];omega
  ·go_wp2_with fail
   go_ret;exact ⟨_,t,j,b,rfl,hw,hacc.keeps k2,h2,hij,hl,grown_keeps gj k2⟩
theorem iOrA (m:Nat) (hp:ReadA 235 m):ReadA 212 m:=by
 intro w r s i bad h hS hm;have HP:=hid hp;clear hp;have hr:=h.lt;have H0:=hid (HP.out w r s i bad h hS hm);clear h;go_enter Tryz.func212,Tryz.ntmps212;go_wp2_with fail;refine H0.out.mono ?_;rintro e w1 ⟨v1,t1,j1,b1,rfl,hw1,hv1,h1,hj1,hl1,g1⟩;clear H0;go_wp2_with fail
 go_loopw [3] (fun a' wr=>LoopA w r s i a' wr) (fun _ wr=>match wr.cell? ⟨r,1,none⟩ with | some (.int _ n)=>s.size-n.toNat | _=>0)
 case atStart=>exact ⟨t1,j1,b1,hw1,hv1,h1,hj1,hl1,g1⟩
 case round=>
  obtain ⟨t,j,b,hw,hacc,hj,hij,hl,gj⟩:=hrel;clear hw1 hv1 h1 hj1 hl1 g1;have HT:=hid (take_any (k:=124) 124 hj rfl);have hle:=hj.le;go_wp2_with fail;refine HT.out.mono ?_;rintro e w2 (⟨rfl,rfl,hi2,h2,g2⟩ | ⟨rfl,h2,k2⟩)
  ·have hacc2:=hacc.grown g2 hr
   have HY:=hid (HP.out w2 r s (j+1) false h2 hS (by omega));clear hacc;go_wp2_with fail;refine HY.out.mono ?_;rintro e w3 ⟨v3,t3,j3,b3,rfl,hw3,hv3,h3,hj3,hl3,g3⟩;have hacc3:=hacc2.grown g3 hr;have hs2:=gj.size;have hs3:=g2.size;have hs4:=g3.size;have gw3:=grown_trans gj (grown_trans g2 g3);have hle3:=h3.le;go_wp2_with fail;refine (join_any _ _ _ _ _ _ (hacc3.nds (by omega)) (hv3.nds (by omega)) (by omega)).mono ?_;rintro e w4 ⟨v4,rfl,hv4,k4⟩;have h4:=h3.keeps k4;go_wp2_with fail;go_roundw
   case rel=>exact ⟨Fm.or t t3,j3,b3,⟨hw,hw3⟩,hv4.mono (by omega),h4,by omega,(by simp only [Fm.enc,List.length_cons,List.length_append];omega),grown_keeps gw3 k4⟩
   case measure=>
    have e1:=hj.c1;have e2:=h4.c1;simp [e1,e2];omega
  ·go_wp2_with fail
   go_ret;exact ⟨_,t,j,b,rfl,hw,hacc.keeps k2,h2,hij,hl,grown_keeps gj k2⟩
theorem iImplyA (m:Nat) (hp:ReadA 212 m) (hi:∀ m',m'<m→ReadA 179 m'):ReadA 179 m:=by
 intro w r s i bad h hS hm;have HI:=hid hi;clear hi;have hr:=h.lt;have H0:=hid (hp w r s i bad h hS hm);clear h hp;go_enter Tryz.func179,Tryz.ntmps179;go_wp2_with fail;refine H0.out.mono ?_;rintro e w1 ⟨v1,t1,j1,b1,rfl,hw1,hv1,h1,hj1,hl1,g1⟩;clear H0;have HT:=hid (take_any (k:=62) 62 h1 rfl);go_wp2_with fail;refine HT.out.mono ?_;rintro e w2 (⟨rfl,rfl,hi2,h2,g2⟩ | ⟨rfl,h2,k2⟩)
 ·have HY:=hid (HI.out (s.size-(j1+1)) (by omega) w2 r s (j1+1) false h2 hS (Nat.le_refl _))
  go_wp2_with fail;refine HY.out.mono ?_;rintro e w3 ⟨v3,t3,j3,b3,rfl,hw3,hv3,h3,hj3,hl3,g3⟩;have hv13:=(hv1.grown g2 hr).grown g3 hr;have gw3:=grown_trans g1 (grown_trans g2 g3);have hle3:=h3.le;go_wp2_with fail;refine (join_any _ _ _ _ _ _ (hv13.nds (by omega)) (hv3.nds (by omega)) (by omega)).mono ?_;rintro e w4 ⟨v4,rfl,hv4,k4⟩;go_wp2_with fail;go_ret;exact ⟨_,Fm.imp t1 t3,j3,b3,rfl,⟨hw1,hw3⟩,hv4.mono gw3.size,h3.keeps k4,by omega,(by simp only [Fm.enc,List.length_cons,List.length_append];omega),grown_keeps gw3 k4⟩
 ·go_wp2_with fail
  go_ret;exact ⟨_,t1,j1,b1,rfl,hw1,hv1.keeps k2,h2,hj1,hl1,grown_keeps g1 k2⟩
theorem implReadA (m:Nat):ReadA 179 m∧ReadA 259 m:=by
 induction m using Nat.strongRecOn with
 | ind m ih=>
  have hi:=fun m' (h:m'<m)=>(ih m' h).1
  have hp:=fun m' (h:m'<m)=>(ih m' h).2
  have h1:=iPrefixA m (iAtomA m hi) hp;exact ⟨iImplyA m (iOrA m (iAndA m h1)) hi,h1⟩
end Go.Proofs.YtbccmdfdclomiaaGreatDoor
