import Derived.Test.YtagoboblkadelaaGreatZZA
import Derived.Deep.RegionHeld3
/- own -/
namespace Go.Proofs.YtagoboblkadelaaGreat
set_option maxRecDepth 20000
set_option maxHeartbeats 4000000
open Go.RowKit
theorem gG (w:World):Calls Tryz.prog 81 #[] w (jh w Fm.fls.enc):=by
 go_enter Tryz.func81,Tryz.ntmps81;go_wp2;go_ret;exact⟨_,rfl,aU.lit1 w ⟨1,0⟩,(aa.refl w).alloc _⟩
theorem fO (k:Int) (a b:List Nd) (va vb:Value) (w:World) (x6:Nds w va a) (x7:Nds w vb b) (hl:1+a.length+b.length≤2147483648):
  Calls Tryz.prog 37 #[.int .i64 k,va,vb] w (jh w (⟨k,0⟩::(a++b))):=by
 obtain⟨pa,na,ca,rfl⟩:=x6.shape;obtain⟨pb,nb,cb,rfl⟩:=x7.shape;have k1:=(aa.refl w).alloc (.cells #[.int .i64 k,.int .i64 0] 82);have h1:=(aU.lit1 w ⟨k,0⟩).nds qD;have h2:=bW.lit3N (N:=w.heap.size+1) qD h1 (x6.keeps k1) (x7.keeps k1);have k2:=k1.alloc (.cells #[.slice (some ⟨w.heap.size,0,none⟩) 1 1,.slice pa na ca,.slice pb nb cb] 50)
 have h9:fl [[⟨k,0⟩],a,b] [[⟨k,0⟩],a,b].length=⟨k,0⟩::(a++b):=by simp[fl]
 have eE:(fl [[⟨k,0⟩],a,b] [[(⟨k,0⟩:Nd)],a,b].length).length≤2147483648:=by rw[h9];simp;omega
 have hc:=pC _ _ _ h2 eE;rw[h9] at hc;have HC:=hid hc;clear eE h1 h2 h9 hc;go_enter Tryz.func37,Tryz.ntmps37
 go_wp2_with (go_at_call 79;go_must (refine HC.out.mono ?_);rintro e w3 ⟨v3,rfl,x8,k3⟩)
 go_ret;exact⟨_,rfl,x8.mono k2.size,k2.trans k3⟩
theorem mV (t:Fm) (v:Value) (w:World) (hv:Nds w v t.enc) (hl:t.enc.length≤1073741824):
  Calls Tryz.prog 260 #[v] w (jh w (Fm.not t).enc):=by
 go_enter Tryz.func260,Tryz.ntmps260
 go_wp2_with (first | (go_at_call 81;refine(gG _).mono ?_;rintro e w1 ⟨v1,rfl,eE,k1⟩) | (go_at_call 37;refine(fO _ _ _ _ _ _ (hv.keeps k1) (eE.nds (by simp[Fm.enc])) (by simp[Fm.enc];omega)).mono ?_;rintro e w2 ⟨v2,rfl,h9,k2⟩))
 go_ret;exact⟨_,rfl,h9.mono k1.size,k1.trans k2⟩
theorem yo (a:List Nd) (v:Value) (w:World) (hv:Nds w v a):
  Calls Tryz.prog 36 #[v] w fun e w'=>e=.returned (.tuple #[if a.length≤40 then v else .slice none 0 0,.int .i64 (fR a).2])∧w=w':=by
 obtain⟨p,cap,rfl,x6,h9,hr,eE⟩:=hv;unfold maxLen at h9
 by_cases h:a.length≤40
 all_goals
  go_enter Tryz.func36,Tryz.ntmps36;go_wp2
  go_ret2
  exact⟨by simp[h,fR],rfl⟩
theorem yp (a:List Nd) (v:Value) (w:World) (B:Nat) (hv:aU w B v a) (hl:a.length≤2147483648):
  Calls Tryz.prog 36 #[v] w fun e w'=>∃ u,e=.returned (.tuple #[u,.int .i64 (fR a).2])∧aU w' B u (fR a).1∧w=w':=
 (yo a v w (hv.nds hl)).mono fun e w' ⟨he,hw⟩=>⟨_,he,by subst hw;exact yr hv,hw⟩
theorem zY (pr:List Nd→Bool) (f:FuncId) (cp:Array Value) (a:List (List Nd)) (v:Value) (w:World) (hv:bW w v a) (h9:aG f)
  (hf:∀ x u w1,x∈a→aa w w1→Nds w1 u x→Calls Tryz.prog f (#[u]++cp) w1 fun e w2=>e=.returned (.bool (pr x))∧aa w1 w2):
  Calls Tryz.prog 171 #[v,.func (.func f) #[] cp] w fun e w'=>e=.returned (.int .i64 (idxOf pr a 0))∧aa w w':=by
 have x6:=hv;obtain⟨p,cap,rfl,H7,x9,x8,_⟩:=hv;unfold maxLen at x9;have HF:=hid hf;clear hf
 have x7:∀ args w,(callFunc f args).run Tryz.prog w=.ok (.enter f args) w:=h9
 clear h9;go_enter Tryz.func171,Tryz.ntmps171;go_wp2
 go_loopw [4,8] (fun r i' wr=>∃ k:Nat,k≤a.length∧idxOf pr a 0=idxOf pr (a.drop k) k∧aa w wr∧i'=.int .i64 k∧r=.int .i64 0) (fun _ i _=>a.length-(intOf i).toNat)
 case atStart=>exact⟨0,qB,qD,aa.refl w,rfl,rfl⟩
 case round=>
  obtain⟨k,hk,hs,kw,rfl,rfl⟩:=hrel;have Hs:=hid hs;clear hs
  by_cases eE:k<a.length
  ·obtain⟨b,off,u,rfl,h1,hu⟩:=(x6.keeps kw).get k eE
   have hd:=hid (ea pr a k eE);clear x6
   cases hp:pr a[k]
   all_goals
    have Hp:=hid hp;clear hp
    go_wp2_with ((with_reducible refine(HF.out a[k] u wr (zo eE) kw hu).mono ?_);rintro e w2 ⟨rfl,k2⟩;rw[Hp.out])
   ·go_roundw
    case rel=>exact⟨k+1,qB,by rw[Hs.out,hd.out,Hp.out];rfl,kw.trans k2,by go_num,rfl⟩
    case measure=>simp[intOf];omega
   ·go_ret
    exact⟨aK (by rw[Hs.out,hd.out,Hp.out];rfl),kw.trans k2⟩
  ·go_wp2
   go_ret;exact⟨aK (by rw[Hs.out,eT _ _ _ qB]),kw⟩
theorem ig (pr:List Nd→Bool) (f:FuncId) (cp:Array Value) (a:List (List Nd)) (v:Value) (w:World) (hv:bW w v a) (eE:aG f)
  (hf:∀ x u w1,x∈a→aa w w1→Nds w1 u x→Calls Tryz.prog f (#[u]++cp) w1 fun e w2=>e=.returned (.bool (pr x))∧aa w1 w2):
  Calls Tryz.prog 121 #[v,.func (.func f) #[] cp] w fun e w'=>e=.returned (.bool (a.any pr))∧aa w w':=by
 have H:=hid (zY pr f cp a v w hv eE hf);clear hv hf eE;have he:=hid (fI pr a 0);go_enter Tryz.func121,Tryz.ntmps121
 go_wp2_with (go_at_call 171;refine H.out.mono ?_;rintro e w2 ⟨rfl,k2⟩)
 go_ret;exact⟨ab he.out,k2⟩
theorem mx (x:List Nd) (u:Value) (w:World) (hu:Nds w u x):Calls Tryz.prog 138 #[u] w fun e w'=>e=.returned (.bool (!qf x))∧aa w w':=by
 go_enter Tryz.func138,Tryz.ntmps138
 go_wp2_with (go_at_call 139;refine(tP x _ _ hu).mono ?_;rintro e w' ⟨rfl,k1⟩)
 go_ret;exact⟨rfl,k1⟩
theorem j8:aG 138:=fun _ _=>by kernel_rfl
def AV (l:List (List Nd)):Bool:=!(l.any fun x=>!qf x)
theorem pY (l:List (List Nd)) (v:Value) (w:World) (hv:bW w v l):
  Calls Tryz.prog 90 #[v] w fun e w'=>e=.returned (.bool (AV l))∧aa w w':=by
 go_enter Tryz.func90,Tryz.ntmps90
 go_wp2_with (go_at_call 121;refine(ig (fun x=>!qf x) _ #[] l _ _ hv j8 (fun x u w1 _ _ hu=>mx x u w1 hu)).mono ?_;rintro e w1 ⟨rfl,k1⟩)
 go_ret;exact⟨rfl,k1⟩
theorem ar {w w1 w2:World} {row:Option Nat} (h:aa w w1) (k:w1.grownBy w2 row):w.grownBy w2 row:=
 ⟨k.os.trans h.os,k.tape.trans h.tape,k.output.trans h.output,zx h.size k.size,fun i hi hr=>(k.block i (zv hi h.size) hr).trans (h.block hi)⟩
def Da (w:World) (r:Nat) (s:ByteArray) (i:Nat) (e:Ending) (w':World):Prop:=
 e=.returned (.bool true)∧cG w' r s (i+1) false∧w.grownBy w' (some r)
def AR (w:World) (r:Nat) (s:ByteArray) (i:Nat) (e:Ending) (w':World):Prop:=
 e=.returned (.bool false)∧cG w' r s i false∧aa w w'
theorem cG.moved {w:World} {r:Nat} {s:ByteArray} {i:Nat} (h:cG w r s i false) (hi:i<s.size):cG (w.setCell ⟨r,1,none⟩ (.int .i64 ((i:Int)+1))) r s (i+1) false:=by
 refine⟨?_,?_,?_,?_,?_,hi,h.sz⟩
 ·exact(World.cell?_setCell_other (a:=⟨r,1,none⟩) (b:=⟨r,0,none⟩) (h:=by simp) ..).trans h.c0
 ·exact World.cell?_setCell_same (h:=h.c1) ..
 ·exact(World.cell?_setCell_other (a:=⟨r,1,none⟩) (b:=⟨r,2,none⟩) (h:=by simp) ..).trans h.c2
 ·rw[World.frozen?_setCell];exact h.f1
 ·rw[World.frozen?_setCell];exact h.f2
theorem bo {w:World} {r:Nat} {s:ByteArray} {i:Nat} {b:UInt8} {l:List UInt8} {k:Int} (h:cG w r s i false) (hd:(bts s).drop i=b::l) (hk:k=(b.toNat:Int)):
  Calls Tryz.prog 241 #[.pointer (some ⟨r,0,none⟩),.int .u8 k] w (Da w r s i):=by
 subst hk;obtain⟨hi,hb,_⟩:=bA hd
 have hm:=fun n=>(h.keeps ((aa.refl w).drewN n)).moved hi
 obtain⟨c0,c1,c2,f1,f2,le,sz⟩:=h
 have x6:decide ((i:Int)<s.size)=true:=by simp;omega
 have h9:decide ((i:Int)≥s.size)=false:=by simp;omega
 have eE:s[i].toNat=b.toNat:=by rw[hb]
 clear hd;go_enter Tryz.func241,Tryz.ntmps241;go_wp2_with fail
 go_quiet (fail)
 go_wp2_with fail;go_ret;exact⟨rfl,hm _,ar ((aa.refl w).drewN _) (db _ _ _)⟩
theorem aB {w:World} {r:Nat} {s:ByteArray} {i:Nat} {l:List UInt8} {k:Int} (b:UInt8) (h:cG w r s i false) (hd:(bts s).drop i=l) (eE:l.head? ≠ some b) (hk:k=(b.toNat:Int)):
  Calls Tryz.prog 241 #[.pointer (some ⟨r,0,none⟩),.int .u8 k] w (AR w r s i):=by
 subst hk
 have hm:=fun n=>h.keeps ((aa.refl w).drewN n)
 cases l with
 | nil=>
  have hi:=A3 h.le hd;obtain⟨c0,c1,c2,f1,f2,le,sz⟩:=h
  have x7:decide ((i:Int)<s.size)=false:=by simp;omega
  have x6:decide ((i:Int)≥s.size)=true:=by simp;omega
  clear hd eE;go_enter Tryz.func241,Tryz.ntmps241;go_wp2_with fail
  go_quiet (fail)
  go_wp2_with fail;go_ret;exact⟨rfl,hm _,(aa.refl w).drewN _⟩
 | cons c l=>
  obtain⟨hi,hb,_⟩:=bA hd;obtain⟨c0,c1,c2,f1,f2,le,sz⟩:=h
  have x7:decide ((i:Int)<s.size)=true:=by simp;omega
  have x6:decide ((i:Int)≥s.size)=false:=by simp;omega
  have h9:((c.toNat:Int)==(b.toNat:Int))=false:=by simp only[beq_eq_false_iff_ne,ne_eq];intro e;apply eE;simp[UInt8.toNat_inj.1 (Int.ofNat_inj.1 e)]
  have x8:((c.toNat:Int) != (b.toNat:Int))=true:=by simp[bne,h9]
  clear hd eE;go_enter Tryz.func241,Tryz.ntmps241;go_wp2_with fail
  go_quiet (fail)
  go_wp2_with fail;go_ret;exact⟨rfl,hm _,(aa.refl w).drewN _⟩
theorem cH {w:World} {r:Nat} {s:ByteArray} {i:Nat} {b:UInt8} {l:List UInt8} {k:Int} (h:cG w r s i false) (hd:(bts s).drop i=b::l) (hk:k=(b.toNat:Int)):
  Calls Tryz.prog 209 #[.pointer (some ⟨r,0,none⟩),.int .u8 k] w (Da w r s i):=by
 subst hk;obtain⟨hi,hb,_⟩:=bA hd
 have hm:=fun n=>(h.keeps ((aa.refl w).drewN n)).moved hi
 obtain⟨c0,c1,c2,f1,f2,le,sz⟩:=h
 have x6:decide ((i:Int)<s.size)=true:=by simp;omega
 have h9:decide ((i:Int)≥s.size)=false:=by simp;omega
 have eE:s[i].toNat=b.toNat:=by rw[hb]
 clear hd;go_enter Tryz.func209,Tryz.ntmps209;go_wp2_with fail
 go_quiet (fail)
 go_wp2_with fail;go_ret;exact⟨rfl,hm _,ar ((aa.refl w).drewN _) (db _ _ _)⟩
theorem br {w:World} {r:Nat} {s:ByteArray} {i:Nat} {l:List UInt8} {k:Int} (b:UInt8) (h:cG w r s i false) (hd:(bts s).drop i=l) (eE:l.head? ≠ some b) (hk:k=(b.toNat:Int)):
  Calls Tryz.prog 209 #[.pointer (some ⟨r,0,none⟩),.int .u8 k] w (AR w r s i):=by
 subst hk
 have hm:=fun n=>h.keeps ((aa.refl w).drewN n)
 cases l with
 | nil=>
  have hi:=A3 h.le hd;obtain⟨c0,c1,c2,f1,f2,le,sz⟩:=h
  have x7:decide ((i:Int)<s.size)=false:=by simp;omega
  have x6:decide ((i:Int)≥s.size)=true:=by simp;omega
  clear hd eE;go_enter Tryz.func209,Tryz.ntmps209;go_wp2_with fail
  go_quiet (fail)
  go_wp2_with fail;go_ret;exact⟨rfl,hm _,(aa.refl w).drewN _⟩
 | cons c l=>
  obtain⟨hi,hb,_⟩:=bA hd;obtain⟨c0,c1,c2,f1,f2,le,sz⟩:=h
  have x7:decide ((i:Int)<s.size)=true:=by simp;omega
  have x6:decide ((i:Int)≥s.size)=false:=by simp;omega
  have h9:((c.toNat:Int)==(b.toNat:Int))=false:=by simp only[beq_eq_false_iff_ne,ne_eq];intro e;apply eE;simp[UInt8.toNat_inj.1 (Int.ofNat_inj.1 e)]
  have x8:((c.toNat:Int) != (b.toNat:Int))=true:=by simp[bne,h9]
  clear hd eE;go_enter Tryz.func209,Tryz.ntmps209;go_wp2_with fail
  go_quiet (fail)
  go_wp2_with fail;go_ret;exact⟨rfl,hm _,(aa.refl w).drewN _⟩
theorem ee (k:Int) (a:List Nd) (va:Value) (w:World) (x8:Nds w va a) (hl:1+a.length≤2147483648):
  Calls Tryz.prog 96 #[.int .i64 k,va] w (jh w (⟨k,0⟩::a)):=by
 go_enter Tryz.func96,Tryz.ntmps96;have h1:=aU.lit1 w ⟨k,0⟩;have k1:=(aa.refl w).alloc (.cells #[.int .i64 k,.int .i64 0] 82);have eE:=x8.keeps k1
 go_wp2_with (at_builtin;refine zF rfl _ _ rfl w.heap.size _ [⟨k,0⟩] rfl h1 _ a rfl eE qD (by simp;omega) ?_;intro v1 w1 x7 h9 x6;have k2:aa w w1:=k1.grown h9 x6)
 go_ret;exact⟨_,rfl,by simpa using x7,k2⟩
theorem jz (k:Int) (a:List Nd) (va:Value) (w:World) (x6:Nds w va a) (hl:1+a.length≤2147483648):
  Calls Tryz.prog 262 #[.int .i64 k,va] w (jh w (⟨k,0⟩::a)):=by
 obtain⟨pa,na,ca,rfl⟩:=x6.shape;have k1:=(aa.refl w).alloc (.cells #[.int .i64 k,.int .i64 0] 82);have h1:=(aU.lit1 w ⟨k,0⟩).nds qD;have h2:=bW.lit2N (N:=w.heap.size+1) qD h1 (x6.keeps k1);have k2:=k1.alloc (.cells #[.slice (some ⟨w.heap.size,0,none⟩) 1 1,.slice pa na ca] 50)
 have h9:fl [[⟨k,0⟩],a] [[⟨k,0⟩],a].length=⟨k,0⟩::a:=by simp[fl]
 have eE:(fl [[⟨k,0⟩],a] [[(⟨k,0⟩:Nd)],a].length).length≤2147483648:=by rw[h9];simp;omega
 have hc:=pC _ _ _ h2 eE;rw[h9] at hc;have HC:=hid hc;clear eE h1 h2 h9 hc;go_enter Tryz.func262,Tryz.ntmps262
 go_wp2_with (go_at_call 79;go_must (refine HC.out.mono ?_);rintro e w3 ⟨v3,rfl,x7,k3⟩)
 go_ret;exact⟨_,rfl,x7.mono k2.size,k2.trans k3⟩
def aw:ByteArray:=⟨#[112,113,114,115,116,117]⟩
def bC (w:World) (g:Nat) (s:ByteArray) (p:Nat):World:={ w with heap:=w.heap.setIfInBounds g (.stringIter s p) }
theorem cM (w:World) (g:Nat) (s:ByteArray) (p:Nat):w.grownBy (bC w g s p) (some g):=
 ⟨rfl,rfl,rfl,by simp[bC],fun k _ hk=>by
  show(w.heap.setIfInBounds g _)[k]? = w.heap[k]?
  rw[Array.getElem?_setIfInBounds_ne (fun e=>hk (by rw[e]))]⟩
theorem eM {w:World} {g:Nat} {s':ByteArray} {p':Nat} (h:g<w.heap.size):(bC w g s' p').heap[g]? = some (.stringIter s' p'):=by
 show(w.heap.setIfInBounds g _)[g]? = _
 rw[Array.getElem?_setIfInBounds_self_of_lt h]
theorem cC {P:Program} (w:World) (g:Nat) (s:ByteArray) (pos:Nat) (ty:TypeId) (hh:w.heap[g]? = some (.stringIter s pos)) (h:pos<s.size) (ha:(s[pos]'h).toNat<128):
  (Instr.next (.pointer (some ⟨g,0,none⟩)) true ty).run P w=.ok (.tuple #[.bool true,.int .i64 pos,.int .i32 (s[pos]'h).toNat]) (bC w g s (pos+1)):=by
 simp only[Instr.next,getObj,setObj,Sem.run_bind,Sem.run,hh,Result.andThen,h,if_true,decode_ascii s pos h ha,bC];simp[goInt]
theorem oX (w:World):Calls Tryz.prog 80 #[] w (jh w (Fm.imp .fls .fls).enc):=by
 go_enter Tryz.func80,Tryz.ntmps80;go_wp2;go_ret;refine⟨_,rfl,?_,(aa.refl w).alloc _⟩;exact⟨rfl,.inr ⟨w.heap.size,3,_,rfl,zm _,heap_alloc_new w _,zm _,by simp[maxLen],rfl,rfl⟩⟩
theorem bN (v:Nat) (w:World):Calls Tryz.prog 265 #[.int .i64 v] w (jh w (Fm.var v).enc):=by
 go_enter Tryz.func265,Tryz.ntmps265;go_wp2;go_ret;exact⟨_,rfl,aU.lit1 w ⟨0,v⟩,(aa.refl w).alloc _⟩
theorem DI {w:World} {r:Nat} {s:ByteArray} {i:Nat} {b:UInt8} {l:List UInt8} {k:Int} (h:cG w r s i false) (hd:(bts s).drop i=b::l) (hk:k=(b.toNat:Int)):
  Calls Tryz.prog 261 #[.pointer (some ⟨r,0,none⟩),.int .u8 k] w fun e w'=>e=.returned (.tuple #[])∧cG w' r s (i+1) false∧w.grownBy w' (some r):=by
 have H:=hid (cH h hd hk);clear h hd hk;go_enter Tryz.func261,Tryz.ntmps261;go_wp2_with fail;refine H.out.mono ?_;rintro e w1 ⟨rfl,h1,g1⟩;go_wp2_with fail;refine bodyPost_end (v:=.tuple #[]) (by simp[results,Tryz.results261,go_sem]) rfl ?_;exact⟨rfl,h1,g1⟩
theorem Kl (x0:Fm) (xs:List Fm) (KZ:bh 256 3 x0 (x0.txt 3)) (K0:∀ x∈xs,bh 256 3 x (x.txt 3)):
  bh 239 2 (xs.foldl Fm.and x0) (x0.txt 3++Fm.behind 38 3 xs):=by
 intro w r s i rest h hd KR Lg;have Lk:=er xs x0;rw[zz] at hd;have KU:=cK hd
 have eE:fH 3 (Fm.behind 38 3 xs++rest):=by
  cases xs with
  | nil=>exact KR.up qB
  | cons y ys=>exact⟨fun e=>by first | omega | simp[Fm.behind],fun e=>by first | omega | simp[Fm.behind],fun e=>by omega⟩
 have H0:=hid (KZ w r s i _ h hd eE qB);clear hd eE KZ;generalize hT:xs.foldl Fm.and x0=T at*;have HT:=hid hT;clear hT;have hr:=h.lt;have Le:=hid K0;clear K0;have Lc:=hid KU;clear KU;have H9:=hid KR;clear KR;clear h;go_enter Tryz.func239,Tryz.ntmps239;go_wp2_with fail;refine H0.out.mono ?_;rintro e w1 ⟨v1,rfl,KY,h1,g1⟩;clear H0;go_wp2_with fail
 go_loopw [3] (fun a' wr=>∃ (acc:Fm) (ys:List Fm) (j:Nat),ys.foldl Fm.and acc=T∧(∀ x∈ys,bh 256 3 x (x.txt 3))∧aU wr w.heap.size a' acc.enc∧cG wr r s j false∧w.grownBy wr (some r)∧(bts s).drop j=Fm.behind 38 3 ys++rest∧j+(Fm.behind 38 3 ys).length=i+(x0.txt 3++Fm.behind 38 3 xs).length) (fun _ wr=>match wr.cell? ⟨r,1,none⟩ with | some (.int _ n)=>s.size-n.toNat | _=>0)
 case atStart=>exact⟨x0,xs,_,HT.out,Le.out,KY,h1,g1,Lc.out,by rw[ze];omega⟩
 case round=>
  obtain⟨acc,ys,j,hT,La,h9,hj,gj,KP,KV⟩:=hrel;have H8:=hid hT;clear hT;have KT:=hid La;clear La;have KS:=hid KV;clear KV;clear KY h1 g1;have H7:=er ys acc;rw[H8.out] at H7
  cases ys with
  | nil=>
   have HM:=hid (br (k:=38) 38 hj KP (by first | exact H9.out.1 qB | exact H9.out.2.1 qB) rfl);go_wp2_with fail;refine HM.out.mono ?_;rintro e w2 ⟨rfl,h2,k2⟩;go_wp2_with fail;go_ret;have hT:=H8.out;simp only[List.foldl_nil] at hT;subst hT;have hl:=KS.out;simp only[Fm.behind,List.length_nil,Nat.add_zero] at hl;rw[hl] at h2;exact⟨_,rfl,h9.keeps k2,h2,ag gj k2⟩
  | cons y ys=>
   have x6:(bts s).drop j=38::(y.txt 3++(Fm.behind 38 3 ys++rest)):=by rw[KP];simp[Fm.behind]
   obtain⟨Lj,_,x7⟩:=bA x6;have HM:=hid (cH (k:=38) hj x6 rfl)
   have eE:fH 3 (Fm.behind 38 3 ys++rest):=by
    cases ys with
    | nil=>exact H9.out.up qB
    | cons z zs=>exact⟨fun e=>by first | omega | simp[Fm.behind],fun e=>by first | omega | simp[Fm.behind],fun e=>by omega⟩
   have hT:=H8.out;rw[List.foldl_cons] at hT;have Lf:=er ys (Fm.and acc y);rw[hT] at Lf
   have Ll:(Fm.and acc y).enc.length=1+acc.enc.length+y.enc.length:=by simp only[Fm.enc,zh,ze];omega
   have Lb:=hid hT;clear hT;have HY:=hid (fun w2 (h2:cG w2 r s (j+1) false)=>KT.out y (List.mem_cons_self ..) w2 r s (j+1) _ h2 x7 eE qB);have Ld:=hid (cK x7);clear KP x6 x7 eE;go_wp2_with fail;refine HM.out.mono ?_;rintro e w2 ⟨rfl,h2,g2⟩;have x8:=h9.grown g2 hr;clear h9;go_wp2_with fail;refine(HY.out _ h2).mono ?_;rintro e w3 ⟨v3,rfl,Lh,h3,g3⟩;have x9:=x8.grown g3 hr;have Lm:=gj.size;have Ln:=g2.size;have gw3:=an gj (an g2 g3);go_wp2_with fail;refine(fO _ _ _ _ _ _ (x9.nds qB) (Lh.nds qB) qB).mono ?_;rintro e w4 ⟨v4,rfl,Li,k4⟩;have h4:=h3.keeps k4;go_wp2_with fail;go_roundw
   case rel=>
    refine⟨Fm.and acc y,ys,_,Lb.out,fun x hx=>KT.out x (zw _ hx),Li.mono (by have:=g3.size;omega),h4,ag gw3 k4,Ld.out,?_⟩;have hl:=KS.out;simp only[Fm.behind,zh,ze] at hl;simp only[ze] at*;omega
   case measure=>
    have e1:=hj.c1;have e2:=h4.c1;simp[e1,e2];omega
theorem iOr (x0:Fm) (xs:List Fm) (KZ:bh 239 2 x0 (x0.txt 2)) (K0:∀ x∈xs,bh 239 2 x (x.txt 2)):
  bh 208 1 (xs.foldl Fm.or x0) (x0.txt 2++Fm.behind 124 2 xs):=by
 intro w r s i rest h hd KR Lg;have Lk:=eS xs x0;rw[zz] at hd;have KU:=cK hd
 have eE:fH 2 (Fm.behind 124 2 xs++rest):=by
  cases xs with
  | nil=>exact KR.up qB
  | cons y ys=>exact⟨fun e=>by first | omega | simp[Fm.behind],fun e=>by first | omega | simp[Fm.behind],fun e=>by omega⟩
 have H0:=hid (KZ w r s i _ h hd eE qB);clear hd eE KZ;generalize hT:xs.foldl Fm.or x0=T at*;have HT:=hid hT;clear hT;have hr:=h.lt;have Le:=hid K0;clear K0;have Lc:=hid KU;clear KU;have H9:=hid KR;clear KR;clear h;go_enter Tryz.func208,Tryz.ntmps208;go_wp2_with fail;refine H0.out.mono ?_;rintro e w1 ⟨v1,rfl,KY,h1,g1⟩;clear H0;go_wp2_with fail
 go_loopw [3] (fun a' wr=>∃ (acc:Fm) (ys:List Fm) (j:Nat),ys.foldl Fm.or acc=T∧(∀ x∈ys,bh 239 2 x (x.txt 2))∧aU wr w.heap.size a' acc.enc∧cG wr r s j false∧w.grownBy wr (some r)∧(bts s).drop j=Fm.behind 124 2 ys++rest∧j+(Fm.behind 124 2 ys).length=i+(x0.txt 2++Fm.behind 124 2 xs).length) (fun _ wr=>match wr.cell? ⟨r,1,none⟩ with | some (.int _ n)=>s.size-n.toNat | _=>0)
 case atStart=>exact⟨x0,xs,_,HT.out,Le.out,KY,h1,g1,Lc.out,by rw[ze];omega⟩
 case round=>
  obtain⟨acc,ys,j,hT,La,h9,hj,gj,KP,KV⟩:=hrel;have H8:=hid hT;clear hT;have KT:=hid La;clear La;have KS:=hid KV;clear KV;clear KY h1 g1;have H7:=eS ys acc;rw[H8.out] at H7
  cases ys with
  | nil=>
   have HM:=hid (br (k:=124) 124 hj KP (by first | exact H9.out.1 qB | exact H9.out.2.1 qB) rfl);go_wp2_with fail;refine HM.out.mono ?_;rintro e w2 ⟨rfl,h2,k2⟩;go_wp2_with fail;go_ret;have hT:=H8.out;simp only[List.foldl_nil] at hT;subst hT;have hl:=KS.out;simp only[Fm.behind,List.length_nil,Nat.add_zero] at hl;rw[hl] at h2;exact⟨_,rfl,h9.keeps k2,h2,ag gj k2⟩
  | cons y ys=>
   have x6:(bts s).drop j=124::(y.txt 2++(Fm.behind 124 2 ys++rest)):=by rw[KP];simp[Fm.behind]
   obtain⟨Lj,_,x7⟩:=bA x6;have HM:=hid (cH (k:=124) hj x6 rfl)
   have eE:fH 2 (Fm.behind 124 2 ys++rest):=by
    cases ys with
    | nil=>exact H9.out.up qB
    | cons z zs=>exact⟨fun e=>by first | omega | simp[Fm.behind],fun e=>by first | omega | simp[Fm.behind],fun e=>by omega⟩
   have hT:=H8.out;rw[List.foldl_cons] at hT;have Lf:=eS ys (Fm.or acc y);rw[hT] at Lf
   have Ll:(Fm.or acc y).enc.length=1+acc.enc.length+y.enc.length:=by simp only[Fm.enc,zh,ze];omega
   have Lb:=hid hT;clear hT;have HY:=hid (fun w2 (h2:cG w2 r s (j+1) false)=>KT.out y (List.mem_cons_self ..) w2 r s (j+1) _ h2 x7 eE qB);have Ld:=hid (cK x7);clear KP x6 x7 eE;go_wp2_with fail;refine HM.out.mono ?_;rintro e w2 ⟨rfl,h2,g2⟩;have x8:=h9.grown g2 hr;clear h9;go_wp2_with fail;refine(HY.out _ h2).mono ?_;rintro e w3 ⟨v3,rfl,Lh,h3,g3⟩;have x9:=x8.grown g3 hr;have Lm:=gj.size;have Ln:=g2.size;have gw3:=an gj (an g2 g3);go_wp2_with fail;refine(fO _ _ _ _ _ _ (x9.nds qB) (Lh.nds qB) qB).mono ?_;rintro e w4 ⟨v4,rfl,Li,k4⟩;have h4:=h3.keeps k4;go_wp2_with fail;go_roundw
   case rel=>
    refine⟨Fm.or acc y,ys,_,Lb.out,fun x hx=>KT.out x (zw _ hx),Li.mono (by have:=g3.size;omega),h4,ag gw3 k4,Ld.out,?_⟩;have hl:=KS.out;simp only[Fm.behind,zh,ze] at hl;simp only[ze] at*;omega
   case measure=>
    have e1:=hj.c1;have e2:=h4.c1;simp[e1,e2];omega
theorem F6 (t:Fm) (X:List UInt8) (hx:bh 208 1 t X):bh 178 0 t X:=by
 intro w r s i rest h hd h9 eE;have H0:=hid (hx w r s i _ h hd (h9.up qB) eE);have x6:=cK hd;have x7:=h9.2.2 rfl;clear hd h9 hx h;go_enter Tryz.func178,Tryz.ntmps178;go_wp2_with fail;refine H0.out.mono ?_;rintro e w1 ⟨v1,rfl,x8,h1,g1⟩;have HM:=hid (br (k:=62) 62 h1 x6 x7 rfl);go_wp2_with fail;refine HM.out.mono ?_;rintro e w2 ⟨rfl,h2,k2⟩;go_wp2_with fail;go_ret;exact⟨_,rfl,x8.keeps k2,h2,ag g1 k2⟩
theorem F7 (a b:Fm) (ha:bh 208 1 a (a.txt 1)) (hb:bh 178 0 b b.body):bh 178 0 (Fm.imp a b) (a.txt 1++62::b.body):=by
 intro w r s i rest h hd x6 x8
 have H9:(Fm.imp a b).enc.length=1+a.enc.length+b.enc.length:=by simp only[Fm.enc,zh,ze];omega
 rw[zz,List.cons_append] at hd;have H0:=hid (ha w r s i _ h hd ⟨fun e=>by simp,fun e=>by simp,fun e=>by omega⟩ qB);have h9:=cK hd;have hr:=h.lt;obtain⟨_,_,x7⟩:=bA h9;have HB:=hid (fun w2 h2=>hb w2 r s (i+(a.txt 1).length+1) _ h2 x7 x6 qB);clear hd x6 ha hb h;go_enter Tryz.func178,Tryz.ntmps178;go_wp2_with fail;refine H0.out.mono ?_;rintro e w1 ⟨v1,rfl,x9,h1,g1⟩;have HM:=hid (cH (k:=62) h1 h9 rfl);go_wp2_with fail;refine HM.out.mono ?_;rintro e w2 ⟨rfl,h2,g2⟩;go_wp2_with fail;refine(HB.out _ h2).mono ?_;rintro e w3 ⟨v3,rfl,H7,h3,g3⟩;have eE:=(x9.grown g2 hr).grown g3 hr;have gw3:=an g1 (an g2 g3);go_wp2_with fail;refine(fO _ _ _ _ _ _ (eE.nds qB) (H7.nds qB) qB).mono ?_;rintro e w4 ⟨v4,rfl,H8,k4⟩;have h4:=h3.keeps k4;go_wp2_with fail;go_ret;refine⟨_,rfl,H8.mono gw3.size,?_,ag gw3 k4⟩
 simpa only[ze,zh,Nat.add_assoc,Nat.add_comm 1] using h4
theorem gY {w:World} {r:Nat} {s:ByteArray} {i j:Nat} {c:UInt8} {l:List UInt8} {a:List Nd} (h:cG w r s i false) (hd:(bts s).drop i=c::l) (n1:c≠126) (n2:c≠91) (n3:c≠60)
  (H:∀ w1,cG w1 r s i false→aa w w1→Calls Tryz.prog 263 #[.pointer (some ⟨r,0,none⟩)] w1 (Db w1 r s j a)):Calls Tryz.prog 256 #[.pointer (some ⟨r,0,none⟩)] w (Db w r s j a):=by
 have HH:=hid H;clear H;go_enter Tryz.func256,Tryz.ntmps256;go_wp2_with fail;refine(br (k:=126) 126 h hd (by simpa using n1) rfl).mono ?_;rintro e w1 ⟨rfl,h1,k1⟩;go_wp2_with fail;refine(br (k:=91) 91 h1 hd (by simpa using n2) rfl).mono ?_;rintro e w2 ⟨rfl,h2,k2⟩;go_wp2_with fail;refine(br (k:=60) 60 h2 hd (by simpa using n3) rfl).mono ?_;rintro e w3 ⟨rfl,h3,k3⟩;have k:=(k1.trans k2).trans k3;go_wp2_with fail;refine(HH.out _ h3 k).mono ?_;rintro e w4 ⟨v,rfl,hv,h4,g4⟩;go_wp2_with fail;go_ret;exact⟨_,rfl,hv.mono k.size,h4,ar k g4⟩
theorem Ko:bh 256 3 .fls [70]:=by
 intro w r s i rest h hd x6 eE;refine gY h hd qC qC qC ?_;intro w1 h1 k1;go_enter Tryz.func263,Tryz.ntmps263;go_wp2_with fail;refine(cH (k:=70) h1 hd rfl).mono ?_;rintro e w2 ⟨rfl,h2,g2⟩;go_wp2_with fail;refine(gG _).mono ?_;rintro e w3 ⟨v3,rfl,h9,k3⟩;go_wp2_with fail;go_ret;exact⟨_,rfl,h9.mono g2.size,h2.keeps k3,ag g2 k3⟩
theorem Kt:bh 256 3 (.imp .fls .fls) [84]:=by
 intro w r s i rest h hd x6 eE;refine gY h hd qC qC qC ?_;intro w1 h1 k1;go_enter Tryz.func263,Tryz.ntmps263;go_wp2_with fail;refine(br (k:=70) 70 h1 hd qD rfl).mono ?_;rintro e w2 ⟨rfl,h2,k2⟩;go_wp2_with fail;refine(cH (k:=84) h2 hd rfl).mono ?_;rintro e w3 ⟨rfl,h3,g3⟩;have g:=ar k2 g3;go_wp2_with fail;refine(oX _).mono ?_;rintro e w4 ⟨v4,rfl,h9,k4⟩;go_wp2_with fail;go_ret;exact⟨_,rfl,h9.mono g.size,h3.keeps k4,ag g k4⟩
theorem Ks (t:Fm) (ht:bh 178 0 t t.body):bh 256 3 t (40::(t.body++[41])):=by
 intro w r s i rest h hd x9 eE;rw[List.cons_append,zz] at hd;refine gY h hd qC qC qC ?_;obtain⟨_,_,h9⟩:=bA hd;have x6:=cK h9;have HT:=hid (fun w1 h1=>ht w1 r s (i+1) _ h1 h9 ⟨fun e=>by simp,fun e=>by simp,fun e=>by simp⟩ eE);clear ht;intro w1 h1 k1;have hr:=h1.lt;go_enter Tryz.func263,Tryz.ntmps263;go_wp2_with fail;refine(br (k:=70) 70 h1 hd qD rfl).mono ?_;rintro e w2 ⟨rfl,h2,k2⟩;go_wp2_with fail;refine(br (k:=84) 84 h2 hd qD rfl).mono ?_;rintro e w3 ⟨rfl,h3,k3⟩;go_wp2_with fail;refine(cH (k:=40) h3 hd rfl).mono ?_;rintro e w4 ⟨rfl,h4,g4⟩;have g:=ar (k2.trans k3) g4;go_wp2_with fail;refine(HT.out _ h4).mono ?_;rintro e w5 ⟨v5,rfl,x8,h5,g5⟩;go_wp2_with fail;refine(DI (k:=41) h5 x6 rfl).mono ?_;rintro e w6 ⟨rfl,h6,g6⟩;have x7:r<w4.heap.size:=h4.lt;go_wp2_with fail;go_ret;refine⟨_,rfl,(x8.grown g6 x7).mono g.size,?_,an g (an g5 g6)⟩
 simpa only[ze,zh,List.length_nil,Nat.add_assoc,Nat.add_comm 1] using h6
theorem Kp (a:Fm) (ha:bh 256 3 a (a.txt 3)):bh 256 3 (.imp a .fls) (126::a.txt 3):=by
 intro w r s i rest h hd x6 h9;rw[List.cons_append] at hd
 have x9:(Fm.imp a .fls).enc.length=a.enc.length+2:=by simp only[Fm.enc,zh,ze,List.length_nil]
 obtain⟨_,_,eE⟩:=bA hd;have HA:=hid (fun w1 h1=>ha w1 r s (i+1) _ h1 eE x6 qB);clear ha;go_enter Tryz.func256,Tryz.ntmps256;go_wp2_with fail;refine(cH (k:=126) h hd rfl).mono ?_;rintro e w1 ⟨rfl,h1,g1⟩;go_wp2_with fail;refine(HA.out _ h1).mono ?_;rintro e w2 ⟨v2,rfl,x7,h2,g2⟩;have g:=an g1 g2;go_wp2_with fail;refine(mV a _ _ (x7.nds qB) qB).mono ?_;rintro e w3 ⟨v3,rfl,x8,k3⟩;go_wp2_with fail;go_ret;refine⟨_,rfl,x8.mono g.size,?_,ag g k3⟩
 simpa only[zh,Nat.add_assoc,Nat.add_comm 1] using h2.keeps k3
theorem Km (a:Fm) (ha:bh 256 3 a (a.txt 3)):bh 256 3 (.box a) (91::93::a.txt 3):=by
 intro w r s i rest h hd x8 x7;rw[List.cons_append,List.cons_append] at hd
 have H8:(Fm.box a).enc.length=a.enc.length+1:=by simp only[Fm.enc,zh]
 obtain⟨_,_,eE⟩:=bA hd;obtain⟨_,_,x6⟩:=bA eE;have HA:=hid (fun w1 h1=>ha w1 r s (i+1+1) _ h1 x6 x8 qB);clear ha;go_enter Tryz.func256,Tryz.ntmps256;go_wp2_with fail;refine(br (k:=126) 126 h hd qD rfl).mono ?_;rintro e wa ⟨rfl,h9,ka⟩;go_wp2_with fail;refine(cH (k:=91) h9 hd rfl).mono ?_;rintro e w1 ⟨rfl,h1,g1⟩;go_wp2_with fail;refine(DI (k:=93) h1 eE rfl).mono ?_;rintro e w2 ⟨rfl,h2,g2⟩;go_wp2_with fail;refine(HA.out _ h2).mono ?_;rintro e w3 ⟨v3,rfl,x9,h3,g3⟩;have g:=ar ka (an g1 (an g2 g3));go_wp2_with fail;refine(jz 5 _ _ _ (x9.nds qB) qB).mono ?_;rintro e w4 ⟨v4,rfl,H7,k4⟩;go_wp2_with fail;go_ret;refine⟨_,rfl,H7.mono g.size,?_,ag g k4⟩
 simpa only[zh,Nat.add_assoc,Nat.add_comm 1] using h3.keeps k4
theorem Kn (a:Fm) (ha:bh 256 3 a (a.txt 3)):bh 256 3 (.dia a) (60::62::a.txt 3):=by
 intro w r s i rest h hd x9 x8;rw[List.cons_append,List.cons_append] at hd
 have H9:(Fm.dia a).enc.length=a.enc.length+1:=by simp only[Fm.enc,zh]
 obtain⟨_,_,eE⟩:=bA hd;obtain⟨_,_,x7⟩:=bA eE;have HA:=hid (fun w1 h1=>ha w1 r s (i+1+1) _ h1 x7 x9 qB);clear ha;go_enter Tryz.func256,Tryz.ntmps256;go_wp2_with fail;refine(br (k:=126) 126 h hd qD rfl).mono ?_;rintro e wa ⟨rfl,h9,ka⟩;go_wp2_with fail;refine(br (k:=91) 91 h9 hd qD rfl).mono ?_;rintro e wb ⟨rfl,x6,kb⟩;go_wp2_with fail;refine(cH (k:=60) x6 hd rfl).mono ?_;rintro e w1 ⟨rfl,h1,g1⟩;go_wp2_with fail;refine(DI (k:=62) h1 eE rfl).mono ?_;rintro e w2 ⟨rfl,h2,g2⟩;go_wp2_with fail;refine(HA.out _ h2).mono ?_;rintro e w3 ⟨v3,rfl,H7,h3,g3⟩;have g:=ar (ka.trans kb) (an g1 (an g2 g3));go_wp2_with fail;refine(jz 6 _ _ _ (H7.nds qB) qB).mono ?_;rintro e w4 ⟨v4,rfl,H8,k4⟩;go_wp2_with fail;go_ret;refine⟨_,rfl,H8.mono g.size,?_,ag g k4⟩
 simpa only[zh,Nat.add_assoc,Nat.add_comm 1] using h3.keeps k4
theorem Ku (v:Nat) (H7:v<6):bh 256 3 (.var v) [UInt8.ofNat (112+v)]:=by
 intro w r s i rest h hd KV KS
 have hb:∀ k,k<6→(UInt8.ofNat (112+k)).toNat=112+k:=fun k hk=>by rw[UInt8.toNat_ofNat'];omega
 have KR:∀ k:Nat,k<112→UInt8.ofNat (112+v)≠UInt8.ofNat k:=by
  intro k hk e;have:=congrArg UInt8.toNat e;rw[hb v H7,UInt8.toNat_ofNat'] at this;omega
 refine gY h hd ?_ (KR 91 qB) (KR 60 qB) ?_
 ·intro e
  have:=congrArg UInt8.toNat e;rw[hb v H7] at this
  simp at this;omega
 intro w1 h1 k1;have hr:=h1.lt;have HN:=hid KR;clear KR;have HB:=hid hb;clear hb;go_enter Tryz.func263,Tryz.ntmps263;go_wp2_with fail;refine(br (k:=70) 70 h1 hd (by simpa using HN.out 70 qB) rfl).mono ?_;rintro e w2 ⟨rfl,h2,k2⟩;go_wp2_with fail;refine(br (k:=84) 84 h2 hd (by simpa using HN.out 84 qB) rfl).mono ?_;rintro e w3 ⟨rfl,h3,k3⟩;go_wp2_with fail;refine(br (k:=40) 40 h3 hd (by simpa using HN.out 40 qB) rfl).mono ?_;rintro e w4 ⟨rfl,h4,k4⟩;have k:=(k2.trans k3).trans k4;have HD:=hid hd;clear hd;go_wp2_with fail
 go_loopw [4] (fun _ wr=>∃ q:Nat,q≤v∧wr.heap[w4.heap.size]? = some (.stringIter aw q)∧aa w4 wr) (fun _ wr=>6-wr.iterPos w4.heap.size)
 case atStart=>exact⟨0,qB,World.iter_heap ..,(aa.refl w4).alloc _⟩
 case round=>
  obtain⟨q,KU,h9,kj⟩:=hrel;have H8:w4.heap.size<wr.heap.size:=(Array.getElem?_eq_some_iff.1 h9).1;have KT:q=0∨q=1∨q=2∨q=3∨q=4∨q=5:=qB
  rcases KT with rfl | rfl | rfl | rfl | rfl | rfl
  ·have H9:∀ ty,(Instr.next (.pointer (some ⟨w4.heap.size,0,none⟩)) true ty).run Tryz.prog wr=_:=fun ty=>cC wr _ aw 0 ty h9 qC qC
   have k5:=kj.grown (cM wr w4.heap.size aw (0+1)) (fun k hk=>by cases hk;omega);have x8:=eM (s':=aw) (p':=0+1) H8;have x6:=h9
   have KP:(bC wr w4.heap.size aw (0+1)).heap.size=wr.heap.size:=by simp[bC]
   by_cases e:0=v
   ·subst e
    have HM:=hid (cH (k:=112) (h4.keeps k5) HD.out rfl);clear h9;go_wp2_with fail;refine HM.out.mono ?_;rintro e w6 ⟨rfl,h6,g6⟩;go_wp2_with fail;refine(bN 0 _).mono ?_;rintro e w7 ⟨v7,rfl,x9,k7⟩;have gg:=ar (k.trans k5) g6;go_wp2_with fail;go_ret;exact⟨_,rfl,x9.mono gg.size,h6.keeps k7,ag gg k7⟩
   ·have eE:(UInt8.ofNat (112+v)::([]++rest)).head? ≠ some (UInt8.ofNat 112):=by
     intro e2;have:=congrArg UInt8.toNat (Option.some.inj e2);rw[HB.out v H7] at this
     simp at this;omega
    have HM:=hid (br (k:=112) (UInt8.ofNat 112) (h4.keeps k5) HD.out eE rfl);clear h9 eE;have He:=hid e;clear e;go_wp2_with fail;refine HM.out.mono ?_;rintro e w6 ⟨rfl,h6,k6⟩;have x7:w6.heap[w4.heap.size]? = some (.stringIter aw (0+1)):=(k6.block qB).trans x8;go_wp2_with fail;go_roundw
    case rel=>exact⟨0+1,by have:=He.out;omega,x7,k5.trans k6⟩
    case measure=>simp[World.iterPos,x7,x6]
  ·have H9:∀ ty,(Instr.next (.pointer (some ⟨w4.heap.size,0,none⟩)) true ty).run Tryz.prog wr=_:=fun ty=>cC wr _ aw 1 ty h9 qC qC
   have k5:=kj.grown (cM wr w4.heap.size aw (1+1)) (fun k hk=>by cases hk;omega);have x8:=eM (s':=aw) (p':=1+1) H8;have x6:=h9
   have KP:(bC wr w4.heap.size aw (1+1)).heap.size=wr.heap.size:=by simp[bC]
   by_cases e:1=v
   ·subst e
    have HM:=hid (cH (k:=113) (h4.keeps k5) HD.out rfl);clear h9;go_wp2_with fail;refine HM.out.mono ?_;rintro e w6 ⟨rfl,h6,g6⟩;go_wp2_with fail;refine(bN 1 _).mono ?_;rintro e w7 ⟨v7,rfl,x9,k7⟩;have gg:=ar (k.trans k5) g6;go_wp2_with fail;go_ret;exact⟨_,rfl,x9.mono gg.size,h6.keeps k7,ag gg k7⟩
   ·have eE:(UInt8.ofNat (112+v)::([]++rest)).head? ≠ some (UInt8.ofNat 113):=by
     intro e2;have:=congrArg UInt8.toNat (Option.some.inj e2);rw[HB.out v H7] at this
     simp at this;omega
    have HM:=hid (br (k:=113) (UInt8.ofNat 113) (h4.keeps k5) HD.out eE rfl);clear h9 eE;have He:=hid e;clear e;go_wp2_with fail;refine HM.out.mono ?_;rintro e w6 ⟨rfl,h6,k6⟩;have x7:w6.heap[w4.heap.size]? = some (.stringIter aw (1+1)):=(k6.block qB).trans x8;go_wp2_with fail;go_roundw
    case rel=>exact⟨1+1,by have:=He.out;omega,x7,k5.trans k6⟩
    case measure=>simp[World.iterPos,x7,x6]
  ·have H9:∀ ty,(Instr.next (.pointer (some ⟨w4.heap.size,0,none⟩)) true ty).run Tryz.prog wr=_:=fun ty=>cC wr _ aw 2 ty h9 qC qC
   have k5:=kj.grown (cM wr w4.heap.size aw (2+1)) (fun k hk=>by cases hk;omega);have x8:=eM (s':=aw) (p':=2+1) H8;have x6:=h9
   have KP:(bC wr w4.heap.size aw (2+1)).heap.size=wr.heap.size:=by simp[bC]
   by_cases e:2=v
   ·subst e
    have HM:=hid (cH (k:=114) (h4.keeps k5) HD.out rfl);clear h9;go_wp2_with fail;refine HM.out.mono ?_;rintro e w6 ⟨rfl,h6,g6⟩;go_wp2_with fail;refine(bN 2 _).mono ?_;rintro e w7 ⟨v7,rfl,x9,k7⟩;have gg:=ar (k.trans k5) g6;go_wp2_with fail;go_ret;exact⟨_,rfl,x9.mono gg.size,h6.keeps k7,ag gg k7⟩
   ·have eE:(UInt8.ofNat (112+v)::([]++rest)).head? ≠ some (UInt8.ofNat 114):=by
     intro e2;have:=congrArg UInt8.toNat (Option.some.inj e2);rw[HB.out v H7] at this
     simp at this;omega
    have HM:=hid (br (k:=114) (UInt8.ofNat 114) (h4.keeps k5) HD.out eE rfl);clear h9 eE;have He:=hid e;clear e;go_wp2_with fail;refine HM.out.mono ?_;rintro e w6 ⟨rfl,h6,k6⟩;have x7:w6.heap[w4.heap.size]? = some (.stringIter aw (2+1)):=(k6.block qB).trans x8;go_wp2_with fail;go_roundw
    case rel=>exact⟨2+1,by have:=He.out;omega,x7,k5.trans k6⟩
    case measure=>simp[World.iterPos,x7,x6]
  ·have H9:∀ ty,(Instr.next (.pointer (some ⟨w4.heap.size,0,none⟩)) true ty).run Tryz.prog wr=_:=fun ty=>cC wr _ aw 3 ty h9 qC qC
   have k5:=kj.grown (cM wr w4.heap.size aw (3+1)) (fun k hk=>by cases hk;omega);have x8:=eM (s':=aw) (p':=3+1) H8;have x6:=h9
   have KP:(bC wr w4.heap.size aw (3+1)).heap.size=wr.heap.size:=by simp[bC]
   by_cases e:3=v
   ·subst e
    have HM:=hid (cH (k:=115) (h4.keeps k5) HD.out rfl);clear h9;go_wp2_with fail;refine HM.out.mono ?_;rintro e w6 ⟨rfl,h6,g6⟩;go_wp2_with fail;refine(bN 3 _).mono ?_;rintro e w7 ⟨v7,rfl,x9,k7⟩;have gg:=ar (k.trans k5) g6;go_wp2_with fail;go_ret;exact⟨_,rfl,x9.mono gg.size,h6.keeps k7,ag gg k7⟩
   ·have eE:(UInt8.ofNat (112+v)::([]++rest)).head? ≠ some (UInt8.ofNat 115):=by
     intro e2;have:=congrArg UInt8.toNat (Option.some.inj e2);rw[HB.out v H7] at this
     simp at this;omega
    have HM:=hid (br (k:=115) (UInt8.ofNat 115) (h4.keeps k5) HD.out eE rfl);clear h9 eE;have He:=hid e;clear e;go_wp2_with fail;refine HM.out.mono ?_;rintro e w6 ⟨rfl,h6,k6⟩;have x7:w6.heap[w4.heap.size]? = some (.stringIter aw (3+1)):=(k6.block qB).trans x8;go_wp2_with fail;go_roundw
    case rel=>exact⟨3+1,by have:=He.out;omega,x7,k5.trans k6⟩
    case measure=>simp[World.iterPos,x7,x6]
  ·have H9:∀ ty,(Instr.next (.pointer (some ⟨w4.heap.size,0,none⟩)) true ty).run Tryz.prog wr=_:=fun ty=>cC wr _ aw 4 ty h9 qC qC
   have k5:=kj.grown (cM wr w4.heap.size aw (4+1)) (fun k hk=>by cases hk;omega);have x8:=eM (s':=aw) (p':=4+1) H8;have x6:=h9
   have KP:(bC wr w4.heap.size aw (4+1)).heap.size=wr.heap.size:=by simp[bC]
   by_cases e:4=v
   ·subst e
    have HM:=hid (cH (k:=116) (h4.keeps k5) HD.out rfl);clear h9;go_wp2_with fail;refine HM.out.mono ?_;rintro e w6 ⟨rfl,h6,g6⟩;go_wp2_with fail;refine(bN 4 _).mono ?_;rintro e w7 ⟨v7,rfl,x9,k7⟩;have gg:=ar (k.trans k5) g6;go_wp2_with fail;go_ret;exact⟨_,rfl,x9.mono gg.size,h6.keeps k7,ag gg k7⟩
   ·have eE:(UInt8.ofNat (112+v)::([]++rest)).head? ≠ some (UInt8.ofNat 116):=by
     intro e2;have:=congrArg UInt8.toNat (Option.some.inj e2);rw[HB.out v H7] at this
     simp at this;omega
    have HM:=hid (br (k:=116) (UInt8.ofNat 116) (h4.keeps k5) HD.out eE rfl);clear h9 eE;have He:=hid e;clear e;go_wp2_with fail;refine HM.out.mono ?_;rintro e w6 ⟨rfl,h6,k6⟩;have x7:w6.heap[w4.heap.size]? = some (.stringIter aw (4+1)):=(k6.block qB).trans x8;go_wp2_with fail;go_roundw
    case rel=>exact⟨4+1,by have:=He.out;omega,x7,k5.trans k6⟩
    case measure=>simp[World.iterPos,x7,x6]
  ·have H9:∀ ty,(Instr.next (.pointer (some ⟨w4.heap.size,0,none⟩)) true ty).run Tryz.prog wr=_:=fun ty=>cC wr _ aw 5 ty h9 qC qC
   have k5:=kj.grown (cM wr w4.heap.size aw (5+1)) (fun k hk=>by cases hk;omega);have x8:=eM (s':=aw) (p':=5+1) H8;have x6:=h9
   have KP:(bC wr w4.heap.size aw (5+1)).heap.size=wr.heap.size:=by simp[bC]
   by_cases e:5=v
   ·subst e
    have HM:=hid (cH (k:=117) (h4.keeps k5) HD.out rfl);clear h9;go_wp2_with fail;refine HM.out.mono ?_;rintro e w6 ⟨rfl,h6,g6⟩;go_wp2_with fail;refine(bN 5 _).mono ?_;rintro e w7 ⟨v7,rfl,x9,k7⟩;have gg:=ar (k.trans k5) g6;go_wp2_with fail;go_ret;exact⟨_,rfl,x9.mono gg.size,h6.keeps k7,ag gg k7⟩
   ·have eE:(UInt8.ofNat (112+v)::([]++rest)).head? ≠ some (UInt8.ofNat 117):=by
     intro e2;have:=congrArg UInt8.toNat (Option.some.inj e2);rw[HB.out v H7] at this
     simp at this;omega
    have HM:=hid (br (k:=117) (UInt8.ofNat 117) (h4.keeps k5) HD.out eE rfl);clear h9 eE;have He:=hid e;clear e;go_wp2_with fail;refine HM.out.mono ?_;rintro e w6 ⟨rfl,h6,k6⟩;have x7:w6.heap[w4.heap.size]? = some (.stringIter aw (5+1)):=(k6.block qB).trans x8;go_wp2_with fail;go_roundw
    case rel=>exact⟨5+1,by have:=He.out;omega,x7,k5.trans k6⟩
    case measure=>simp[World.iterPos,x7,x6]
theorem dh (w:World):Calls Tryz.prog 84 #[] w (jh w (Fm.imp .fls .fls).enc):=by
 go_enter Tryz.func84,Tryz.ntmps84;go_wp2_with fail;refine(cU _).mono ?_;rintro e w1 ⟨v1,rfl,eE,k1⟩;go_wp2_with fail;refine(gK .fls _ _ (eE.nds (by simp[Fm.enc])) (by simp[Fm.enc])).mono ?_;rintro e w2 ⟨v2,rfl,h9,k2⟩;go_wp2_with fail;go_ret;exact⟨_,rfl,h9.mono k1.size,k1.trans k2⟩
theorem bO (v:Nat) (w:World):Calls Tryz.prog 144 #[.int .i64 v] w (jh w (Fm.var v).enc):=by
 go_enter Tryz.func144,Tryz.ntmps144;go_wp2;go_ret;exact⟨_,rfl,aU.lit1 w ⟨0,v⟩,(aa.refl w).alloc _⟩
theorem ER {w:World} {r:Nat} {s:ByteArray} {i:Nat} {b:UInt8} {l:List UInt8} {k:Int} (h:cG w r s i false) (hd:(bts s).drop i=b::l) (hk:k=(b.toNat:Int)):
  Calls Tryz.prog 266 #[.pointer (some ⟨r,0,none⟩),.int .u8 k] w fun e w'=>e=.returned (.tuple #[])∧cG w' r s (i+1) false∧w.grownBy w' (some r):=by
 have H:=hid (bo h hd hk);clear h hd hk;go_enter Tryz.func266,Tryz.ntmps266;go_wp2_with fail;refine H.out.mono ?_;rintro e w1 ⟨rfl,h1,g1⟩;go_wp2_with fail;refine bodyPost_end (v:=.tuple #[]) (by simp[results,Tryz.results266,go_sem]) rfl ?_;exact⟨rfl,h1,g1⟩
theorem KG (x0:Fm) (xs:List Fm) (KZ:bh 264 3 x0 (x0.txt 3)) (K0:∀ x∈xs,bh 264 3 x (x.txt 3)):
  bh 257 2 (xs.foldl Fm.and x0) (x0.txt 3++Fm.behind 38 3 xs):=by
 intro w r s i rest h hd KR Lg;have Lk:=er xs x0;rw[zz] at hd;have KU:=cK hd
 have eE:fH 3 (Fm.behind 38 3 xs++rest):=by
  cases xs with
  | nil=>exact KR.up qB
  | cons y ys=>exact⟨fun e=>by first | omega | simp[Fm.behind],fun e=>by first | omega | simp[Fm.behind],fun e=>by omega⟩
 have H0:=hid (KZ w r s i _ h hd eE qB);clear hd eE KZ;generalize hT:xs.foldl Fm.and x0=T at*;have HT:=hid hT;clear hT;have hr:=h.lt;have Le:=hid K0;clear K0;have Lc:=hid KU;clear KU;have H9:=hid KR;clear KR;clear h;go_enter Tryz.func257,Tryz.ntmps257;go_wp2_with fail;refine H0.out.mono ?_;rintro e w1 ⟨v1,rfl,KY,h1,g1⟩;clear H0;go_wp2_with fail
 go_loopw [3] (fun a' wr=>∃ (acc:Fm) (ys:List Fm) (j:Nat),ys.foldl Fm.and acc=T∧(∀ x∈ys,bh 264 3 x (x.txt 3))∧aU wr w.heap.size a' acc.enc∧cG wr r s j false∧w.grownBy wr (some r)∧(bts s).drop j=Fm.behind 38 3 ys++rest∧j+(Fm.behind 38 3 ys).length=i+(x0.txt 3++Fm.behind 38 3 xs).length) (fun _ wr=>match wr.cell? ⟨r,1,none⟩ with | some (.int _ n)=>s.size-n.toNat | _=>0)
 case atStart=>exact⟨x0,xs,_,HT.out,Le.out,KY,h1,g1,Lc.out,by rw[ze];omega⟩
 case round=>
  obtain⟨acc,ys,j,hT,La,h9,hj,gj,KP,KV⟩:=hrel;have H8:=hid hT;clear hT;have KT:=hid La;clear La;have KS:=hid KV;clear KV;clear KY h1 g1;have H7:=er ys acc;rw[H8.out] at H7
  cases ys with
  | nil=>
   have HM:=hid (aB (k:=38) 38 hj KP (by first | exact H9.out.1 qB | exact H9.out.2.1 qB) rfl);go_wp2_with fail;refine HM.out.mono ?_;rintro e w2 ⟨rfl,h2,k2⟩;go_wp2_with fail;go_ret;have hT:=H8.out;simp only[List.foldl_nil] at hT;subst hT;have hl:=KS.out;simp only[Fm.behind,List.length_nil,Nat.add_zero] at hl;rw[hl] at h2;exact⟨_,rfl,h9.keeps k2,h2,ag gj k2⟩
  | cons y ys=>
   have x6:(bts s).drop j=38::(y.txt 3++(Fm.behind 38 3 ys++rest)):=by rw[KP];simp[Fm.behind]
   obtain⟨Lj,_,x7⟩:=bA x6;have HM:=hid (bo (k:=38) hj x6 rfl)
   have eE:fH 3 (Fm.behind 38 3 ys++rest):=by
    cases ys with
    | nil=>exact H9.out.up qB
    | cons z zs=>exact⟨fun e=>by first | omega | simp[Fm.behind],fun e=>by first | omega | simp[Fm.behind],fun e=>by omega⟩
   have hT:=H8.out;rw[List.foldl_cons] at hT;have Lf:=er ys (Fm.and acc y);rw[hT] at Lf
   have Ll:(Fm.and acc y).enc.length=1+acc.enc.length+y.enc.length:=by simp only[Fm.enc,zh,ze];omega
   have Lb:=hid hT;clear hT;have HY:=hid (fun w2 (h2:cG w2 r s (j+1) false)=>KT.out y (List.mem_cons_self ..) w2 r s (j+1) _ h2 x7 eE qB);have Ld:=hid (cK x7);clear KP x6 x7 eE;go_wp2_with fail;refine HM.out.mono ?_;rintro e w2 ⟨rfl,h2,g2⟩;have x8:=h9.grown g2 hr;clear h9;go_wp2_with fail;refine(HY.out _ h2).mono ?_;rintro e w3 ⟨v3,rfl,Lh,h3,g3⟩;have x9:=x8.grown g3 hr;have Lm:=gj.size;have Ln:=g2.size;have gw3:=an gj (an g2 g3);go_wp2_with fail;refine(bQ _ _ _ _ _ _ (x9.nds qB) (Lh.nds qB) qB).mono ?_;rintro e w4 ⟨v4,rfl,Li,k4⟩;have h4:=h3.keeps k4;go_wp2_with fail;go_roundw
   case rel=>
    refine⟨Fm.and acc y,ys,_,Lb.out,fun x hx=>KT.out x (zw _ hx),Li.mono (by have:=g3.size;omega),h4,ag gw3 k4,Ld.out,?_⟩;have hl:=KS.out;simp only[Fm.behind,zh,ze] at hl;simp only[ze] at*;omega
   case measure=>
    have e1:=hj.c1;have e2:=h4.c1;simp[e1,e2];omega
theorem sOr (x0:Fm) (xs:List Fm) (KZ:bh 257 2 x0 (x0.txt 2)) (K0:∀ x∈xs,bh 257 2 x (x.txt 2)):
  bh 240 1 (xs.foldl Fm.or x0) (x0.txt 2++Fm.behind 124 2 xs):=by
 intro w r s i rest h hd KR Lg;have Lk:=eS xs x0;rw[zz] at hd;have KU:=cK hd
 have eE:fH 2 (Fm.behind 124 2 xs++rest):=by
  cases xs with
  | nil=>exact KR.up qB
  | cons y ys=>exact⟨fun e=>by first | omega | simp[Fm.behind],fun e=>by first | omega | simp[Fm.behind],fun e=>by omega⟩
 have H0:=hid (KZ w r s i _ h hd eE qB);clear hd eE KZ;generalize hT:xs.foldl Fm.or x0=T at*;have HT:=hid hT;clear hT;have hr:=h.lt;have Le:=hid K0;clear K0;have Lc:=hid KU;clear KU;have H9:=hid KR;clear KR;clear h;go_enter Tryz.func240,Tryz.ntmps240;go_wp2_with fail;refine H0.out.mono ?_;rintro e w1 ⟨v1,rfl,KY,h1,g1⟩;clear H0;go_wp2_with fail
 go_loopw [3] (fun a' wr=>∃ (acc:Fm) (ys:List Fm) (j:Nat),ys.foldl Fm.or acc=T∧(∀ x∈ys,bh 257 2 x (x.txt 2))∧aU wr w.heap.size a' acc.enc∧cG wr r s j false∧w.grownBy wr (some r)∧(bts s).drop j=Fm.behind 124 2 ys++rest∧j+(Fm.behind 124 2 ys).length=i+(x0.txt 2++Fm.behind 124 2 xs).length) (fun _ wr=>match wr.cell? ⟨r,1,none⟩ with | some (.int _ n)=>s.size-n.toNat | _=>0)
 case atStart=>exact⟨x0,xs,_,HT.out,Le.out,KY,h1,g1,Lc.out,by rw[ze];omega⟩
 case round=>
  obtain⟨acc,ys,j,hT,La,h9,hj,gj,KP,KV⟩:=hrel;have H8:=hid hT;clear hT;have KT:=hid La;clear La;have KS:=hid KV;clear KV;clear KY h1 g1;have H7:=eS ys acc;rw[H8.out] at H7
  cases ys with
  | nil=>
   have HM:=hid (aB (k:=124) 124 hj KP (by first | exact H9.out.1 qB | exact H9.out.2.1 qB) rfl);go_wp2_with fail;refine HM.out.mono ?_;rintro e w2 ⟨rfl,h2,k2⟩;go_wp2_with fail;go_ret;have hT:=H8.out;simp only[List.foldl_nil] at hT;subst hT;have hl:=KS.out;simp only[Fm.behind,List.length_nil,Nat.add_zero] at hl;rw[hl] at h2;exact⟨_,rfl,h9.keeps k2,h2,ag gj k2⟩
  | cons y ys=>
   have x6:(bts s).drop j=124::(y.txt 2++(Fm.behind 124 2 ys++rest)):=by rw[KP];simp[Fm.behind]
   obtain⟨Lj,_,x7⟩:=bA x6;have HM:=hid (bo (k:=124) hj x6 rfl)
   have eE:fH 2 (Fm.behind 124 2 ys++rest):=by
    cases ys with
    | nil=>exact H9.out.up qB
    | cons z zs=>exact⟨fun e=>by first | omega | simp[Fm.behind],fun e=>by first | omega | simp[Fm.behind],fun e=>by omega⟩
   have hT:=H8.out;rw[List.foldl_cons] at hT;have Lf:=eS ys (Fm.or acc y);rw[hT] at Lf
   have Ll:(Fm.or acc y).enc.length=1+acc.enc.length+y.enc.length:=by simp only[Fm.enc,zh,ze];omega
   have Lb:=hid hT;clear hT;have HY:=hid (fun w2 (h2:cG w2 r s (j+1) false)=>KT.out y (List.mem_cons_self ..) w2 r s (j+1) _ h2 x7 eE qB);have Ld:=hid (cK x7);clear KP x6 x7 eE;go_wp2_with fail;refine HM.out.mono ?_;rintro e w2 ⟨rfl,h2,g2⟩;have x8:=h9.grown g2 hr;clear h9;go_wp2_with fail;refine(HY.out _ h2).mono ?_;rintro e w3 ⟨v3,rfl,Lh,h3,g3⟩;have x9:=x8.grown g3 hr;have Lm:=gj.size;have Ln:=g2.size;have gw3:=an gj (an g2 g3);go_wp2_with fail;refine(bQ _ _ _ _ _ _ (x9.nds qB) (Lh.nds qB) qB).mono ?_;rintro e w4 ⟨v4,rfl,Li,k4⟩;have h4:=h3.keeps k4;go_wp2_with fail;go_roundw
   case rel=>
    refine⟨Fm.or acc y,ys,_,Lb.out,fun x hx=>KT.out x (zw _ hx),Li.mono (by have:=g3.size;omega),h4,ag gw3 k4,Ld.out,?_⟩;have hl:=KS.out;simp only[Fm.behind,zh,ze] at hl;simp only[ze] at*;omega
   case measure=>
    have e1:=hj.c1;have e2:=h4.c1;simp[e1,e2];omega
theorem GD (t:Fm) (X:List UInt8) (hx:bh 240 1 t X):bh 210 0 t X:=by
 intro w r s i rest h hd h9 eE;have H0:=hid (hx w r s i _ h hd (h9.up qB) eE);have x6:=cK hd;have x7:=h9.2.2 rfl;clear hd h9 hx h;go_enter Tryz.func210,Tryz.ntmps210;go_wp2_with fail;refine H0.out.mono ?_;rintro e w1 ⟨v1,rfl,x8,h1,g1⟩;have HM:=hid (aB (k:=62) 62 h1 x6 x7 rfl);go_wp2_with fail;refine HM.out.mono ?_;rintro e w2 ⟨rfl,h2,k2⟩;go_wp2_with fail;go_ret;exact⟨_,rfl,x8.keeps k2,h2,ag g1 k2⟩
theorem GF (a b:Fm) (ha:bh 240 1 a (a.txt 1)) (hb:bh 210 0 b b.body):bh 210 0 (Fm.imp a b) (a.txt 1++62::b.body):=by
 intro w r s i rest h hd x6 x8
 have H9:(Fm.imp a b).enc.length=1+a.enc.length+b.enc.length:=by simp only[Fm.enc,zh,ze];omega
 rw[zz,List.cons_append] at hd;have H0:=hid (ha w r s i _ h hd ⟨fun e=>by simp,fun e=>by simp,fun e=>by omega⟩ qB);have h9:=cK hd;have hr:=h.lt;obtain⟨_,_,x7⟩:=bA h9;have HB:=hid (fun w2 h2=>hb w2 r s (i+(a.txt 1).length+1) _ h2 x7 x6 qB);clear hd x6 ha hb h;go_enter Tryz.func210,Tryz.ntmps210;go_wp2_with fail;refine H0.out.mono ?_;rintro e w1 ⟨v1,rfl,x9,h1,g1⟩;have HM:=hid (bo (k:=62) h1 h9 rfl);go_wp2_with fail;refine HM.out.mono ?_;rintro e w2 ⟨rfl,h2,g2⟩;go_wp2_with fail;refine(HB.out _ h2).mono ?_;rintro e w3 ⟨v3,rfl,H7,h3,g3⟩;have eE:=(x9.grown g2 hr).grown g3 hr;have gw3:=an g1 (an g2 g3);go_wp2_with fail;refine(bQ _ _ _ _ _ _ (eE.nds qB) (H7.nds qB) qB).mono ?_;rintro e w4 ⟨v4,rfl,H8,k4⟩;have h4:=h3.keeps k4;go_wp2_with fail;go_ret;refine⟨_,rfl,H8.mono gw3.size,?_,ag gw3 k4⟩
 simpa only[ze,zh,Nat.add_assoc,Nat.add_comm 1] using h4
theorem KI (v:Nat) (x6:v<6):bh 264 3 (.var v) [UInt8.ofNat (112+v)]:=by
 intro w r s i rest h hd H7 x7
 have hb:∀ k,k<6→(UInt8.ofNat (112+k)).toNat=112+k:=fun k hk=>by rw[UInt8.toNat_ofNat'];omega
 have hr:=h.lt;have HB:=hid hb;clear hb;have HD:=hid hd;clear hd;go_enter Tryz.func264,Tryz.ntmps264;go_wp2_with fail
 go_loopw [4] (fun q' wr=>∃ q:Nat,q≤v∧q'=.int .i64 q∧aa w wr) (fun q' _=>6-(intOf q').toNat)
 case atStart=>exact⟨0,qB,rfl,aa.refl w⟩
 case round=>
  obtain⟨q,x9,rfl,kj⟩:=hrel;have x8:q=0∨q=1∨q=2∨q=3∨q=4∨q=5:=qB
  rcases x8 with rfl | rfl | rfl | rfl | rfl | rfl
  ·by_cases e:0=v
   ·subst e
    have HM:=hid (bo (k:=112) (h.keeps kj) HD.out rfl);go_wp2_with fail;refine HM.out.mono ?_;rintro e w6 ⟨rfl,h6,g6⟩;go_wp2_with fail;refine(bO 0 _).mono ?_;rintro e w7 ⟨v7,rfl,h9,k7⟩;have gg:=ar kj g6;go_wp2_with fail;go_ret;exact⟨_,rfl,h9.mono gg.size,h6.keeps k7,ag gg k7⟩
   ·have eE:(UInt8.ofNat (112+v)::([]++rest)).head? ≠ some (UInt8.ofNat 112):=by
     intro e2;have:=congrArg UInt8.toNat (Option.some.inj e2);rw[HB.out v x6] at this
     simp at this;omega
    have HM:=hid (aB (k:=112) (UInt8.ofNat 112) (h.keeps kj) HD.out eE rfl);clear eE;have He:=hid e;clear e;go_wp2_with fail;refine HM.out.mono ?_;rintro e w6 ⟨rfl,h6,k6⟩;go_wp2_with fail;go_roundw
    case rel=>exact⟨0+1,by have:=He.out;omega,by first | rfl | go_num,kj.trans k6⟩
    case measure=>simp[intOf]
  ·by_cases e:1=v
   ·subst e
    have HM:=hid (bo (k:=113) (h.keeps kj) HD.out rfl);go_wp2_with fail;refine HM.out.mono ?_;rintro e w6 ⟨rfl,h6,g6⟩;go_wp2_with fail;refine(bO 1 _).mono ?_;rintro e w7 ⟨v7,rfl,h9,k7⟩;have gg:=ar kj g6;go_wp2_with fail;go_ret;exact⟨_,rfl,h9.mono gg.size,h6.keeps k7,ag gg k7⟩
   ·have eE:(UInt8.ofNat (112+v)::([]++rest)).head? ≠ some (UInt8.ofNat 113):=by
     intro e2;have:=congrArg UInt8.toNat (Option.some.inj e2);rw[HB.out v x6] at this
     simp at this;omega
    have HM:=hid (aB (k:=113) (UInt8.ofNat 113) (h.keeps kj) HD.out eE rfl);clear eE;have He:=hid e;clear e;go_wp2_with fail;refine HM.out.mono ?_;rintro e w6 ⟨rfl,h6,k6⟩;go_wp2_with fail;go_roundw
    case rel=>exact⟨1+1,by have:=He.out;omega,by first | rfl | go_num,kj.trans k6⟩
    case measure=>simp[intOf]
  ·by_cases e:2=v
   ·subst e
    have HM:=hid (bo (k:=114) (h.keeps kj) HD.out rfl);go_wp2_with fail;refine HM.out.mono ?_;rintro e w6 ⟨rfl,h6,g6⟩;go_wp2_with fail;refine(bO 2 _).mono ?_;rintro e w7 ⟨v7,rfl,h9,k7⟩;have gg:=ar kj g6;go_wp2_with fail;go_ret;exact⟨_,rfl,h9.mono gg.size,h6.keeps k7,ag gg k7⟩
   ·have eE:(UInt8.ofNat (112+v)::([]++rest)).head? ≠ some (UInt8.ofNat 114):=by
     intro e2;have:=congrArg UInt8.toNat (Option.some.inj e2);rw[HB.out v x6] at this
     simp at this;omega
    have HM:=hid (aB (k:=114) (UInt8.ofNat 114) (h.keeps kj) HD.out eE rfl);clear eE;have He:=hid e;clear e;go_wp2_with fail;refine HM.out.mono ?_;rintro e w6 ⟨rfl,h6,k6⟩;go_wp2_with fail;go_roundw
    case rel=>exact⟨2+1,by have:=He.out;omega,by first | rfl | go_num,kj.trans k6⟩
    case measure=>simp[intOf]
  ·by_cases e:3=v
   ·subst e
    have HM:=hid (bo (k:=115) (h.keeps kj) HD.out rfl);go_wp2_with fail;refine HM.out.mono ?_;rintro e w6 ⟨rfl,h6,g6⟩;go_wp2_with fail;refine(bO 3 _).mono ?_;rintro e w7 ⟨v7,rfl,h9,k7⟩;have gg:=ar kj g6;go_wp2_with fail;go_ret;exact⟨_,rfl,h9.mono gg.size,h6.keeps k7,ag gg k7⟩
   ·have eE:(UInt8.ofNat (112+v)::([]++rest)).head? ≠ some (UInt8.ofNat 115):=by
     intro e2;have:=congrArg UInt8.toNat (Option.some.inj e2);rw[HB.out v x6] at this
     simp at this;omega
    have HM:=hid (aB (k:=115) (UInt8.ofNat 115) (h.keeps kj) HD.out eE rfl);clear eE;have He:=hid e;clear e;go_wp2_with fail;refine HM.out.mono ?_;rintro e w6 ⟨rfl,h6,k6⟩;go_wp2_with fail;go_roundw
    case rel=>exact⟨3+1,by have:=He.out;omega,by first | rfl | go_num,kj.trans k6⟩
    case measure=>simp[intOf]
  ·by_cases e:4=v
   ·subst e
    have HM:=hid (bo (k:=116) (h.keeps kj) HD.out rfl);go_wp2_with fail;refine HM.out.mono ?_;rintro e w6 ⟨rfl,h6,g6⟩;go_wp2_with fail;refine(bO 4 _).mono ?_;rintro e w7 ⟨v7,rfl,h9,k7⟩;have gg:=ar kj g6;go_wp2_with fail;go_ret;exact⟨_,rfl,h9.mono gg.size,h6.keeps k7,ag gg k7⟩
   ·have eE:(UInt8.ofNat (112+v)::([]++rest)).head? ≠ some (UInt8.ofNat 116):=by
     intro e2;have:=congrArg UInt8.toNat (Option.some.inj e2);rw[HB.out v x6] at this
     simp at this;omega
    have HM:=hid (aB (k:=116) (UInt8.ofNat 116) (h.keeps kj) HD.out eE rfl);clear eE;have He:=hid e;clear e;go_wp2_with fail;refine HM.out.mono ?_;rintro e w6 ⟨rfl,h6,k6⟩;go_wp2_with fail;go_roundw
    case rel=>exact⟨4+1,by have:=He.out;omega,by first | rfl | go_num,kj.trans k6⟩
    case measure=>simp[intOf]
  ·by_cases e:5=v
   ·subst e
    have HM:=hid (bo (k:=117) (h.keeps kj) HD.out rfl);go_wp2_with fail;refine HM.out.mono ?_;rintro e w6 ⟨rfl,h6,g6⟩;go_wp2_with fail;refine(bO 5 _).mono ?_;rintro e w7 ⟨v7,rfl,h9,k7⟩;have gg:=ar kj g6;go_wp2_with fail;go_ret;exact⟨_,rfl,h9.mono gg.size,h6.keeps k7,ag gg k7⟩
   ·have eE:(UInt8.ofNat (112+v)::([]++rest)).head? ≠ some (UInt8.ofNat 117):=by
     intro e2;have:=congrArg UInt8.toNat (Option.some.inj e2);rw[HB.out v x6] at this
     simp at this;omega
    have HM:=hid (aB (k:=117) (UInt8.ofNat 117) (h.keeps kj) HD.out eE rfl);clear eE;have He:=hid e;clear e;go_wp2_with fail;refine HM.out.mono ?_;rintro e w6 ⟨rfl,h6,k6⟩;go_wp2_with fail;go_roundw
    case rel=>exact⟨5+1,by have:=He.out;omega,by first | rfl | go_num,kj.trans k6⟩
    case measure=>simp[intOf]
theorem lH (t:Fm) (X:List UInt8) (hc:(t=.fls∧X=[70])∨(t=.imp .fls .fls∧X=[84])∨(∃ a,t=.imp a .fls∧X=126::a.txt 3∧bh 264 3 a (a.txt 3))∨(∃ a,t=.box a∧X=91::93::a.txt 3∧bh 264 3 a (a.txt 3))∨(∃ a,t=.dia a∧X=60::62::a.txt 3∧bh 264 3 a (a.txt 3))∨(X=40::(t.body++[41])∧bh 210 0 t t.body)):bh 264 3 t X:=by
 intro w r s i rest h hd KY KR
 have KV:∀ k:Nat,112≤k→k≤117→(X++rest).head? ≠ some (UInt8.ofNat k):=by
  intro k h1 h2;have hk:k=112∨k=113∨k=114∨k=115∨k=116∨k=117:=qB
  rcases hc with ⟨_,rfl⟩ | ⟨_,rfl⟩ | ⟨a,_,rfl,_⟩ | ⟨a,_,rfl,_⟩ | ⟨a,_,rfl,_⟩ | ⟨rfl,_⟩<;>rcases hk with rfl | rfl | rfl | rfl | rfl | rfl<;>simp
 have hr:=h.lt;have HN:=hid KV;clear KV;have HD:=hid hd;clear hd;have HC:=hid hc;clear hc;have KP:=hid KY;clear KY;go_enter Tryz.func264,Tryz.ntmps264;go_wp2_with fail
 go_loopw [4] (fun q' wr=>∃ q:Nat,q≤6∧q'=.int .i64 q∧aa w wr) (fun q' _=>6-(intOf q').toNat)
 case atStart=>exact⟨0,qB,rfl,aa.refl w⟩
 case round=>
  obtain⟨q,La,rfl,kj⟩:=hrel;have KZ:q=0∨q=1∨q=2∨q=3∨q=4∨q=5∨q=6:=qB
  rcases KZ with rfl | rfl | rfl | rfl | rfl | rfl | rfl
  ·have HM:=hid (aB (k:=112) (UInt8.ofNat 112) (h.keeps kj) HD.out (HN.out 112 qB qB) rfl)
   go_wp2_with fail;refine HM.out.mono ?_;rintro e w6 ⟨rfl,h6,k6⟩;go_wp2_with fail;go_roundw
   case rel=>exact⟨0+1,qB,by first | rfl | go_num,kj.trans k6⟩
   case measure=>simp[intOf]
  ·have HM:=hid (aB (k:=113) (UInt8.ofNat 113) (h.keeps kj) HD.out (HN.out 113 qB qB) rfl)
   go_wp2_with fail;refine HM.out.mono ?_;rintro e w6 ⟨rfl,h6,k6⟩;go_wp2_with fail;go_roundw
   case rel=>exact⟨1+1,qB,by first | rfl | go_num,kj.trans k6⟩
   case measure=>simp[intOf]
  ·have HM:=hid (aB (k:=114) (UInt8.ofNat 114) (h.keeps kj) HD.out (HN.out 114 qB qB) rfl)
   go_wp2_with fail;refine HM.out.mono ?_;rintro e w6 ⟨rfl,h6,k6⟩;go_wp2_with fail;go_roundw
   case rel=>exact⟨2+1,qB,by first | rfl | go_num,kj.trans k6⟩
   case measure=>simp[intOf]
  ·have HM:=hid (aB (k:=115) (UInt8.ofNat 115) (h.keeps kj) HD.out (HN.out 115 qB qB) rfl)
   go_wp2_with fail;refine HM.out.mono ?_;rintro e w6 ⟨rfl,h6,k6⟩;go_wp2_with fail;go_roundw
   case rel=>exact⟨3+1,qB,by first | rfl | go_num,kj.trans k6⟩
   case measure=>simp[intOf]
  ·have HM:=hid (aB (k:=116) (UInt8.ofNat 116) (h.keeps kj) HD.out (HN.out 116 qB qB) rfl)
   go_wp2_with fail;refine HM.out.mono ?_;rintro e w6 ⟨rfl,h6,k6⟩;go_wp2_with fail;go_roundw
   case rel=>exact⟨4+1,qB,by first | rfl | go_num,kj.trans k6⟩
   case measure=>simp[intOf]
  ·have HM:=hid (aB (k:=117) (UInt8.ofNat 117) (h.keeps kj) HD.out (HN.out 117 qB qB) rfl)
   go_wp2_with fail;refine HM.out.mono ?_;rintro e w6 ⟨rfl,h6,k6⟩;go_wp2_with fail;go_roundw
   case rel=>exact⟨5+1,qB,by first | rfl | go_num,kj.trans k6⟩
   case measure=>simp[intOf]
  ·have hj:=h.keeps kj
   clear HN
   rcases HC.out with ⟨rfl,rfl⟩ | ⟨rfl,rfl⟩ | ⟨a,rfl,rfl,ha⟩ | ⟨a,rfl,rfl,ha⟩ | ⟨a,rfl,rfl,ha⟩ | ⟨rfl,ht⟩
   all_goals clear HC
   ·have hd:=HD.out;clear HD
    go_wp2_with fail;refine(bo (k:=70) hj hd rfl).mono ?_;rintro e wa ⟨rfl,x7,ga⟩;have g:=ar kj ga;go_wp2_with fail;refine(cU _).mono ?_;rintro e wb ⟨vb,rfl,H7,kb⟩;go_wp2_with fail;go_ret;exact⟨_,rfl,H7.mono g.size,x7.keeps kb,ag g kb⟩
   ·have hd:=HD.out;clear HD
    go_wp2_with fail;refine(aB (k:=70) 70 hj hd qD rfl).mono ?_;rintro e wm70 ⟨rfl,eE,km70⟩;go_wp2_with fail;refine(bo (k:=84) eE hd rfl).mono ?_;rintro e wa ⟨rfl,x7,ga⟩;have g:=ar (kj.trans km70) ga;go_wp2_with fail;refine(dh _).mono ?_;rintro e wb ⟨vb,rfl,H7,kb⟩;go_wp2_with fail;go_ret;exact⟨_,rfl,H7.mono g.size,x7.keeps kb,ag g kb⟩
   ·have hd:=HD.out;clear HD
    rw[List.cons_append] at hd
    have KU:(Fm.imp a .fls).enc.length=a.enc.length+2:=by simp only[Fm.enc,zh,ze,List.length_nil]
    obtain⟨_,_,x8⟩:=bA hd;have HA:=hid (fun w1 h1=>ha w1 r s (i+1) _ h1 x8 KP.out qB);clear ha;go_wp2_with fail;refine(aB (k:=70) 70 hj hd qD rfl).mono ?_;rintro e wm70 ⟨rfl,eE,km70⟩;go_wp2_with fail;refine(aB (k:=84) 84 eE hd qD rfl).mono ?_;rintro e wm84 ⟨rfl,x6,km84⟩;go_wp2_with fail;refine(bo (k:=126) x6 hd rfl).mono ?_;rintro e wa ⟨rfl,x7,ga⟩;go_wp2_with fail;refine(HA.out _ x7).mono ?_;rintro e wb ⟨vb,rfl,H7,hb,gb⟩;have g:=ar ((kj.trans km70).trans km84) (an ga gb);go_wp2_with fail;refine(gK a _ _ (H7.nds qB) qB).mono ?_;rintro e wc ⟨vc,rfl,H9,kc⟩;go_wp2_with fail;go_ret;refine⟨_,rfl,H9.mono g.size,?_,ag g kc⟩
    simpa only[zh,Nat.add_assoc,Nat.add_comm 1] using hb.keeps kc
   ·have hd:=HD.out;clear HD
    rw[List.cons_append,List.cons_append] at hd
    have KU:(Fm.box a).enc.length=a.enc.length+1:=by simp only[Fm.enc,zh]
    obtain⟨_,_,x8⟩:=bA hd;obtain⟨_,_,H8⟩:=bA x8;have HA:=hid (fun w1 h1=>ha w1 r s (i+1+1) _ h1 H8 KP.out qB);clear ha;go_wp2_with fail;refine(aB (k:=70) 70 hj hd qD rfl).mono ?_;rintro e wm70 ⟨rfl,eE,km70⟩;go_wp2_with fail;refine(aB (k:=84) 84 eE hd qD rfl).mono ?_;rintro e wm84 ⟨rfl,x6,km84⟩;go_wp2_with fail;refine(aB (k:=126) 126 x6 hd qD rfl).mono ?_;rintro e wm126 ⟨rfl,h9,km126⟩;go_wp2_with fail;refine(bo (k:=91) h9 hd rfl).mono ?_;rintro e wa ⟨rfl,x7,ga⟩;go_wp2_with fail;refine(ER (k:=93) x7 x8 rfl).mono ?_;rintro e wb ⟨rfl,hb,gb⟩;go_wp2_with fail;refine(HA.out _ hb).mono ?_;rintro e wc ⟨vc,rfl,H9,hc,gc⟩;have g:=ar (((kj.trans km70).trans km84).trans km126) (an ga (an gb gc));go_wp2_with fail;refine(ee 5 _ _ _ (H9.nds qB) qB).mono ?_;rintro e wd ⟨vd,rfl,KT,kd⟩;go_wp2_with fail;go_ret;refine⟨_,rfl,KT.mono g.size,?_,ag g kd⟩
    simpa only[zh,Nat.add_assoc,Nat.add_comm 1] using hc.keeps kd
   ·have hd:=HD.out;clear HD
    rw[List.cons_append,List.cons_append] at hd
    have KU:(Fm.dia a).enc.length=a.enc.length+1:=by simp only[Fm.enc,zh]
    obtain⟨_,_,x8⟩:=bA hd;obtain⟨_,_,H8⟩:=bA x8;have HA:=hid (fun w1 h1=>ha w1 r s (i+1+1) _ h1 H8 KP.out qB);clear ha;go_wp2_with fail;refine(aB (k:=70) 70 hj hd qD rfl).mono ?_;rintro e wm70 ⟨rfl,eE,km70⟩;go_wp2_with fail;refine(aB (k:=84) 84 eE hd qD rfl).mono ?_;rintro e wm84 ⟨rfl,x6,km84⟩;go_wp2_with fail;refine(aB (k:=126) 126 x6 hd qD rfl).mono ?_;rintro e wm126 ⟨rfl,h9,km126⟩;go_wp2_with fail;refine(aB (k:=91) 91 h9 hd qD rfl).mono ?_;rintro e wm91 ⟨rfl,x9,km91⟩;go_wp2_with fail;refine(bo (k:=60) x9 hd rfl).mono ?_;rintro e wa ⟨rfl,x7,ga⟩;go_wp2_with fail;refine(ER (k:=62) x7 x8 rfl).mono ?_;rintro e wb ⟨rfl,hb,gb⟩;go_wp2_with fail;refine(HA.out _ hb).mono ?_;rintro e wc ⟨vc,rfl,H9,hc,gc⟩;have g:=ar ((((kj.trans km70).trans km84).trans km126).trans km91) (an ga (an gb gc));go_wp2_with fail;refine(ee 6 _ _ _ (H9.nds qB) qB).mono ?_;rintro e wd ⟨vd,rfl,KT,kd⟩;go_wp2_with fail;go_ret;refine⟨_,rfl,KT.mono g.size,?_,ag g kd⟩
    simpa only[zh,Nat.add_assoc,Nat.add_comm 1] using hc.keeps kd
   ·have hd:=HD.out;clear HD
    rw[List.cons_append,zz] at hd;obtain⟨_,_,x8⟩:=bA hd;have H8:=cK x8;have HT:=hid (fun w1 h1=>ht w1 r s (i+1) _ h1 x8 ⟨fun e=>by simp,fun e=>by simp,fun e=>by simp⟩ KR);clear ht;go_wp2_with fail;refine(aB (k:=70) 70 hj hd qD rfl).mono ?_;rintro e wm70 ⟨rfl,eE,km70⟩;go_wp2_with fail;refine(aB (k:=84) 84 eE hd qD rfl).mono ?_;rintro e wm84 ⟨rfl,x6,km84⟩;go_wp2_with fail;refine(aB (k:=126) 126 x6 hd qD rfl).mono ?_;rintro e wm126 ⟨rfl,h9,km126⟩;go_wp2_with fail;refine(aB (k:=91) 91 h9 hd qD rfl).mono ?_;rintro e wm91 ⟨rfl,x9,km91⟩;go_wp2_with fail;refine(aB (k:=60) 60 x9 hd qD rfl).mono ?_;rintro e wm60 ⟨rfl,KS,km60⟩;go_wp2_with fail;refine(bo (k:=40) KS hd rfl).mono ?_;rintro e wa ⟨rfl,x7,ga⟩;have g:=ar (((((kj.trans km70).trans km84).trans km126).trans km91).trans km60) ga;go_wp2_with fail;refine(HT.out _ x7).mono ?_;rintro e wb ⟨vb,rfl,H7,hb,gb⟩;go_wp2_with fail;refine(ER (k:=41) hb H8 rfl).mono ?_;rintro e wc ⟨rfl,hc,gc⟩;have K0:r<wa.heap.size:=x7.lt;go_wp2_with fail;go_ret;refine⟨_,rfl,(H7.grown gc K0).mono g.size,?_,an g (an gb gc)⟩
    simpa only[ze,zh,List.length_nil,Nat.add_assoc,Nat.add_comm 1] using hc
theorem Af (a:List Nd) (v:Value) (w:World) (hv:Nds w v a) (hl:a.length≤1073741824):Calls Tryz.prog 86 #[v] w (jh w a):=by
 have h1:=aU.empty w;have k1:=(aa.refl w).alloc (.cells #[] 82);have eE:=hv.keeps k1;go_enter Tryz.func86,Tryz.ntmps86
 go_wp2_with (at_builtin;refine zF rfl _ _ rfl w.heap.size _ [] rfl h1 _ a rfl eE qD (by simp;omega) ?_;intro v1 w1 eE h9 x6;have k2:aa w w1:=k1.grown h9 x6)
 go_ret;exact⟨_,rfl,by simpa using eE,k2⟩
end Go.Proofs.YtagoboblkadelaaGreat
