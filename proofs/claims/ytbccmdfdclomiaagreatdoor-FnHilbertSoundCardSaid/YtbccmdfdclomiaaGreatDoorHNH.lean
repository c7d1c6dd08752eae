import Derived.Test.YtbccmdfdclomiaaGreatDoorHMU
/- own -/
namespace Go.Proofs.YtbccmdfdclomiaaGreatDoor
set_option maxRecDepth 20000
set_option maxHeartbeats 4000000
open Go.RowKit
structure Nee where
 ix:Nat
 bx:Bool
 inn:List Bool
def Nee.kd (n:Nee):Int:=if n.bx then 5 else 6
def Nee.dem (n:Nee) (m:Nat):Bool:=m.testBit n.ix==n.bx
def Nee.mee (n:Nee) (m:Nat):Bool:=n.inn.getD m false==n.bx
def NeeL (w:World) (v:Value) (ns:List Nee):Prop:=
 ∃ p cap,v=.slice p ns.length cap∧ns.length≤cap∧cap≤maxLen∧ns.length≤8∧
  ∀ i (h:i<ns.length),∃ b off u,p=some ⟨b,off,none⟩∧w.cell? ⟨b,off+i*3,none⟩=some (.int .i64 ns[i].ix)∧w.cell? ⟨b,off+i*3+1,none⟩=some (.int .i64 ns[i].kd)∧w.cell? ⟨b,off+i*3+2,none⟩=some u∧Bools w u ns[i].inn
theorem NeeL.keeps {w w':World} {v:Value} {ns:List Nee} (h:NeeL w v ns) (k:Keeps w w'):NeeL w' v ns:=by
 obtain ⟨p,cap,h1,h2,h3,h4,h5⟩:=h;exact ⟨p,cap,h1,h2,h3,h4,fun i a=>by obtain ⟨b,off,u,e1,e2,e3,e4,e5⟩:=h5 i a;exact ⟨b,off,u,e1,k.cell e2,k.cell e3,k.cell e4,e5.keeps k⟩⟩
theorem Bools.shape {w:World} {v:Value} {a:List Bool} (h:Bools w v a):∃ p c,v=.slice p a.length c∧a.length≤c∧c≤maxLen:=by
 obtain ⟨p,c,e,h1,h2,_⟩:=h;exact ⟨p,c,e,h1,h2⟩
theorem box3 (w:World) (a b c:Value) (ty:TypeId):(w.alloc (.cells #[a,b,c] ty)).cell? ⟨w.heap.size,0,none⟩=some a∧(w.alloc (.cells #[a,b,c] ty)).cell? ⟨w.heap.size,1,none⟩=some b∧(w.alloc (.cells #[a,b,c] ty)).cell? ⟨w.heap.size,2,none⟩=some c:=by
 refine ⟨?_,?_,?_⟩<;>simp
theorem demands_any (n:Nee) (hi:n.ix≤8) (m:Nat) (hm:m<256) (q:Option Addr) (l c:Nat) (w:World):
  Calls Tryz.prog 208 #[.agg #[.int .i64 n.ix,.int .i64 n.kd,.slice q l c],.int .i64 m] w fun e w'=>e=.returned (.bool (n.dem m))∧Keeps w w':=by
 obtain ⟨ix,bx,inn⟩:=n;have kA:=(Keeps.refl w).alloc (.cells #[.int .i64 ix,.int .i64 (Nee.kd ⟨ix,bx,inn⟩),.slice q l c] 190);obtain ⟨c0,c1,c2⟩:=box3 w (.int .i64 ix) (.int .i64 (Nee.kd ⟨ix,bx,inn⟩)) (.slice q l c) 190;have HB:=hid (fun wz=>hasB_any m ix wz hm hi);have HD:Hid (Nee.dem ⟨ix,bx,inn⟩ m=(m.testBit ix==bx)):=hid rfl;rw [HD.out]
 cases bx
 ·rw [show Nee.kd ⟨ix,false,inn⟩=6 from rfl] at*
  go_enter Tryz.func208,Tryz.ntmps208;go_wp2_with fail
  go_quiet (first | (go_at_call 165;refine quietS (HB.out _)))
  go_wp2_with fail;go_ret;exact ⟨ret_bool (by cases m.testBit ix<;>rfl),kA.drewN _⟩
 ·rw [show Nee.kd ⟨ix,true,inn⟩=5 from rfl] at*
  go_enter Tryz.func208,Tryz.ntmps208;go_wp2_with fail
  go_quiet (first | (go_at_call 165;refine quietS (HB.out _)))
  go_wp2_with fail;go_ret;exact ⟨ret_bool (by cases m.testBit ix<;>rfl),kA.drewN _⟩
theorem meets_any (n:Nee) (m:Nat) (hm:m<n.inn.length) (h256:n.inn.length≤256) (u:Value) (w:World) (hu:Bools w u n.inn):
  Calls Tryz.prog 209 #[.agg #[.int .i64 n.ix,.int .i64 n.kd,u],.int .i64 m] w fun e w'=>e=.returned (.bool (n.mee m))∧Keeps w w':=by
 obtain ⟨ix,bx,inn⟩:=n
 simp only at hm h256 hu
 have hu0:=hu;obtain ⟨q,c,rfl,hl,hx⟩:=hu.shape;unfold maxLen at hx;have kA:=(Keeps.refl w).alloc (.cells #[.int .i64 ix,.int .i64 (Nee.kd ⟨ix,bx,inn⟩),.slice q inn.length c] 190);obtain ⟨c0,c1,c2⟩:=box3 w (.int .i64 ix) (.int .i64 (Nee.kd ⟨ix,bx,inn⟩)) (.slice q inn.length c) 190;obtain ⟨_,_,e0,-,-,hat,-⟩:=hu0.keeps kA
 cases e0
 obtain ⟨b,off,rfl,h1⟩:=hat.bool m hm
 have hm':(m:Int)<inn.length:=by omega
 have HD:Hid (Nee.mee ⟨ix,bx,inn⟩ m=(inn[m]==bx)):=hid (by unfold Nee.mee;rw [List.getD_eq_getElem?_getD,List.getElem?_eq_getElem hm];rfl);rw [HD.out];clear hu hu0 hat;generalize inn[m]=y at*
 cases bx
 ·rw [show Nee.kd ⟨ix,false,inn⟩=6 from rfl] at*
  go_enter Tryz.func209,Tryz.ntmps209;go_wp2_with fail
  go_quiet (fail)
  go_wp2_with fail;go_ret;exact ⟨ret_bool (by cases y<;>rfl),kA.drewN _⟩
 ·rw [show Nee.kd ⟨ix,true,inn⟩=5 from rfl] at*
  go_enter Tryz.func209,Tryz.ntmps209;go_wp2_with fail
  go_quiet (fail)
  go_wp2_with fail;go_ret;exact ⟨ret_bool (by cases y<;>rfl),kA.drewN _⟩
theorem indexFuncNe (pr:Nee→Bool) (f:FuncId) (cp:Array Value) (ns:List Nee) (v:Value) (w:World) (hv:NeeL w v ns) (hcf:Enters f)
  (hf:∀ (n:Nee) (q:Option Addr) (c:Nat) (w1:World),n∈ns→Keeps w w1→Bools w1 (.slice q n.inn.length c) n.inn→Calls Tryz.prog f (#[.agg #[.int .i64 n.ix,.int .i64 n.kd,.slice q n.inn.length c]]++cp) w1 fun e w2=>e=.returned (.bool (pr n))∧Keeps w1 w2):
  Calls Tryz.prog 231 #[v,.func (.func f) #[] cp] w fun e w'=>e=.returned (.int .i64 (idxOf pr ns 0))∧Keeps w w':=by
 have hv0:=hv;obtain ⟨p,cap,rfl,hle,hmx,hlen,-⟩:=hv;unfold maxLen at hmx;have HF:=hid hf;clear hf
 have hcf':∀ args w,(callFunc f args).run Tryz.prog w=.ok (.enter f args) w:=hcf
 clear hcf;go_enter Tryz.func231,Tryz.ntmps231;go_wp2
 go_loopw [4,8] (fun r i' wr=>∃ k:Nat,k≤ns.length∧idxOf pr ns 0=idxOf pr (ns.drop k) k∧Keeps w wr∧i'=.int .i64 k∧r=.int .i64 0) (fun _ i _=>ns.length-(intOf i).toNat)
 case atStart=>exact ⟨0,by omega,by simp,Keeps.refl w,rfl,rfl⟩
 case round=>
  obtain ⟨k,hk,hs,kw,rfl,rfl⟩:=hrel;have Hs:=hid hs;clear hs
  by_cases hlt:k<ns.length
  ·obtain ⟨_,_,e0,-,-,-,hget⟩:=hv0.keeps kw
   obtain ⟨b1,o1,u1,e1,h1,h2,h3,hnd⟩:=hget k hlt
   cases e0
   cases e1
   have hd:=hid (idxOf_drop pr ns k hlt);obtain ⟨q1,c1',rfl,-,-⟩:=hnd.shape;clear hv0 hget
   have hlt':(k:Int)<ns.length:=by omega
   cases hp:pr ns[k]
   all_goals
    have Hp:=hid hp;clear hp
    go_wp2_with ((with_reducible refine (HF.out ns[k] q1 c1' wr (List.getElem_mem hlt) kw hnd).mono ?_);rintro e w2 ⟨rfl,k2⟩;rw [Hp.out])
   ·go_roundw
    case rel=>exact ⟨k+1,by omega,by rw [Hs.out,hd.out,Hp.out];rfl,kw.trans k2,by go_num,rfl⟩
    case measure=>simp [intOf];omega
   ·go_ret
    exact ⟨ret_int (by rw [Hs.out,hd.out,Hp.out];rfl),kw.trans k2⟩
  ·have hlt':¬(k:Int)<ns.length:=by omega
   go_wp2;go_ret;exact ⟨ret_int (by rw [Hs.out,idxOf_end _ _ _ (by omega)]),kw⟩
theorem containsFuncNe (pr:Nee→Bool) (f:FuncId) (cp:Array Value) (ns:List Nee) (v:Value) (w:World) (hv:NeeL w v ns) (hcf:Enters f)
  (hf:∀ (n:Nee) (q:Option Addr) (c:Nat) (w1:World),n∈ns→Keeps w w1→Bools w1 (.slice q n.inn.length c) n.inn→Calls Tryz.prog f (#[.agg #[.int .i64 n.ix,.int .i64 n.kd,.slice q n.inn.length c]]++cp) w1 fun e w2=>e=.returned (.bool (pr n))∧Keeps w1 w2):
  Calls Tryz.prog 206 #[v,.func (.func f) #[] cp] w fun e w'=>e=.returned (.bool (ns.any pr))∧Keeps w w':=by
 have H:=hid (indexFuncNe pr f cp ns v w hv hcf hf);clear hv hf hcf;have he:=hid (idxOf_any pr ns 0);go_enter Tryz.func206,Tryz.ntmps206
 go_wp2_with (go_at_call 231;refine H.out.mono ?_;rintro e w2 ⟨rfl,k2⟩)
 go_ret;exact ⟨ret_bool he.out,k2⟩
def nPas (L:Nat) (f t:Nat) (n:Nee):Bool:=!n.dem f||(if L=3∨L=5 then n.mee t&&n.dem t else if L=4 then n.dem t else n.mee t)
def nPasB (L:Nat) (ns:List Nee) (f t:Nat):Bool:=ns.all (nPas L f t)
def nSee (L:Nat) (ns:List Nee) (f t:Nat):Bool:=
 if L=6 then ns.all fun n=>n.dem f==n.dem t
 else if L=7 then nPasB L ns f t&&nPasB L ns t f
 else if L=5 then nPasB L ns f t&&ns.any fun n=>n.dem t&&!n.dem f
 else nPasB L ns f t
def nAlw (L:Nat) (ns:List Nee) (m:Nat):Bool:=!(decide (L=2∨L=4∨L=6))||ns.all fun n=>!n.dem m||n.mee m
structure TyN (w:World) (r L N:Nat) (ns:List Nee):Prop where
 c0:w.cell? ⟨r,0,none⟩=some (.string (lgS L))
 c2:∃ v,w.cell? ⟨r,2,none⟩=some v∧NeeL w v ns
 hL:L<8
 hi:∀ n∈ns,n.ix≤8
 hl:∀ n∈ns,n.inn.length=N
 hN:N≤256
theorem TyN.keeps {w w':World} {r L N:Nat} {ns:List Nee} (h:TyN w r L N ns) (k:Keeps w w'):TyN w' r L N ns:=by
 obtain ⟨v,h1,h2⟩:=h.c2;exact ⟨k.cell h.c0,⟨v,k.cell h1,h2.keeps k⟩,h.hL,h.hi,h.hl,h.hN⟩
theorem any_not {α:Type} (l:List α) (p:α→Bool):(l.any fun x=>!p x)=!l.all p:=by
 induction l with
 | nil=>rfl
 | cons a l ih=>rw [List.any_cons,List.all_cons,ih,Bool.not_and]
theorem box1 (w:World) (a:Value) (ty:TypeId):(w.alloc (.cells #[a] ty)).cell? ⟨w.heap.size,0,none⟩=some a:=by simp
theorem size1 (w:World) (o:Obj):(w.alloc o).heap.size=w.heap.size+1:=by simp
theorem two (w:World) (a b:Value) (ta tb:TypeId):Keeps w ((w.alloc (.cells #[a] ta)).alloc (.cells #[b] tb))∧((w.alloc (.cells #[a] ta)).alloc (.cells #[b] tb)).cell? ⟨w.heap.size,0,none⟩=some a∧
  ((w.alloc (.cells #[a] ta)).alloc (.cells #[b] tb)).cell? ⟨w.heap.size+1,0,none⟩=some b:=by
 have h2:=box1 (w.alloc (.cells #[a] ta)) b tb;rw [size1] at h2;exact ⟨((Keeps.refl w).alloc _).alloc _,((Keeps.refl _).alloc _).cell (box1 w a ta),h2⟩
theorem three (w:World) (a b c:Value) (ta tb tc:TypeId):Keeps w (((w.alloc (.cells #[a] ta)).alloc (.cells #[b] tb)).alloc (.cells #[c] tc))∧(((w.alloc (.cells #[a] ta)).alloc (.cells #[b] tb)).alloc (.cells #[c] tc)).cell? ⟨w.heap.size,0,none⟩=some a∧
  (((w.alloc (.cells #[a] ta)).alloc (.cells #[b] tb)).alloc (.cells #[c] tc)).cell? ⟨w.heap.size+1,0,none⟩=some b∧(((w.alloc (.cells #[a] ta)).alloc (.cells #[b] tb)).alloc (.cells #[c] tc)).cell? ⟨w.heap.size+2,0,none⟩=some c:=by
 obtain ⟨k,h1,h2⟩:=two w a b ta tb;have h3:=box1 ((w.alloc (.cells #[a] ta)).alloc (.cells #[b] tb)) c tc;rw [size1,size1] at h3;exact ⟨k.alloc _,((Keeps.refl _).alloc _).cell h1,((Keeps.refl _).alloc _).cell h2,h3⟩
theorem isReflexive_any (L:Nat) (hL:L<8) (w:World):Calls Tryz.prog 205 #[.string (lgS L)] w fun e w'=>e=.returned (.bool (decide (L=2∨L=4∨L=6)))∧w=w':=by
 have h8:L=0∨L=1∨L=2∨L=3∨L=4∨L=5∨L=6∨L=7:=by omega
 clear hL
 rcases h8 with rfl | rfl | rfl | rfl | rfl | rfl | rfl | rfl
 all_goals
  simp only [lgS];go_enter Tryz.func205,Tryz.ntmps205;go_wp2;go_ret;exact ⟨ret_bool (by decide),rfl⟩
theorem isAllowed1_any (n:Nee) (hi:n.ix≤8) (m:Nat) (hm:m<n.inn.length) (hN:n.inn.length≤256) (q:Option Addr) (c g:Nat) (w:World) (hq:Bools w (.slice q n.inn.length c) n.inn) (c1:w.cell? ⟨g,0,none⟩=some (.int .i64 m)):
  Calls Tryz.prog 207 #[.agg #[.int .i64 n.ix,.int .i64 n.kd,.slice q n.inn.length c],.pointer (some ⟨g,0,none⟩)] w fun e w'=>e=.returned (.bool (!(!n.dem m||n.mee m)))∧Keeps w w':=by
 have kA:=(Keeps.refl w).alloc (.cells #[.int .i64 n.ix,.int .i64 n.kd,.slice q n.inn.length c] 190);obtain ⟨d0,d1,d2⟩:=box3 w (.int .i64 n.ix) (.int .i64 n.kd) (.slice q n.inn.length c) 190;have c1A:=kA.cell c1;have HD:=hid (fun wz=>demands_any n hi m (by omega) q n.inn.length c wz);have HM:=hid (fun wz (kz:Keeps w wz)=>meets_any n m hm hN (.slice q n.inn.length c) wz (hq.keeps kz));clear hq c1;generalize n.inn.length=l at*;generalize n.kd=k at*;generalize n.ix=i at*;generalize n.dem m=y at*;generalize n.mee m=z at*;go_enter Tryz.func207,Tryz.ntmps207;go_wp2_with fail;refine (HD.out _).mono ?_;rintro e w2 ⟨rfl,k2⟩;have e0:=k2.cell d0;have e1:=k2.cell d1;have e2:=k2.cell d2;have e3:=k2.cell c1A
 cases y
 ·go_wp2_with fail
  go_ret;exact ⟨rfl,kA.trans k2⟩
 ·go_wp2_with fail
  refine (HM.out _ (kA.trans k2)).mono ?_;rintro e w3 ⟨rfl,k3⟩;go_wp2_with fail;go_ret;exact ⟨ret_bool (by cases z<;>rfl),(kA.trans k2).trans k3⟩
theorem enters_isAllowed1:Enters 207:=fun _ _=>by kernel_rfl
theorem isAllowed_any (r L N:Nat) (ns:List Nee) (m:Nat) (hm:m<N) (w:World) (h:TyN w r L N ns):
  Calls Tryz.prog 176 #[.pointer (some ⟨r,0,none⟩),.int .i64 m] w fun e w'=>e=.returned (.bool (nAlw L ns m))∧Keeps w w':=by
 have kA:=(Keeps.refl w).alloc (.cells #[.int .i64 m] 2)
 have cm:(w.alloc (.cells #[.int .i64 m] 2)).cell? ⟨w.heap.size,0,none⟩=some (.int .i64 m):=by simp
 have hA:=h.keeps kA;have d0:=hA.c0;have HR:=hid (fun wz=>isReflexive_any L h.hL wz);obtain ⟨v,d2,hne⟩:=hA.c2
 have HC:=hid (containsFuncNe (fun n=>!(!n.dem m||n.mee m)) 207 #[.pointer (some ⟨w.heap.size,0,none⟩)] ns v _ hne enters_isAllowed1
  (fun n q c w1 hn k1 hb=>isAllowed1_any n (h.hi n hn) m (by rw [h.hl n hn];exact hm) (by rw [h.hl n hn];exact h.hN) q c _ w1 hb (k1.cell cm)))
 rw [any_not] at HC;have hD:nAlw L ns m=(!(decide (L=2∨L=4∨L=6))||ns.all fun n=>!n.dem m||n.mee m):=rfl;obtain ⟨p,c,rfl,-⟩:=hne;clear h hA;generalize lgS L=s at*;generalize nAlw L ns m=y at*;subst hD;generalize decide (L=2∨L=4∨L=6)=z at*;go_enter Tryz.func176,Tryz.ntmps176;go_wp2_with fail;refine (HR.out _).mono ?_;rintro e w' ⟨rfl,rfl⟩;clear HR
 cases z
 ·go_wp2_with fail
  go_ret;exact ⟨rfl,kA⟩
 ·go_wp2_with fail
  refine HC.out.mono ?_;rintro e w2 ⟨rfl,k2⟩;go_wp2_with fail;go_ret;exact ⟨ret_bool (by simp),kA.trans k2⟩
theorem passes1_any (L:Nat) (hL:L<8) (n:Nee) (hi:n.ix≤8) (f t:Nat) (hf:f<256) (ht:t<n.inn.length) (hN:n.inn.length≤256) (q:Option Addr) (c gf gy gt r:Nat) (w:World)
  (hq:Bools w (.slice q n.inn.length c) n.inn) (c1:w.cell? ⟨gf,0,none⟩=some (.int .i64 f)) (c2:w.cell? ⟨gy,0,none⟩=some (.pointer (some ⟨r,0,none⟩))) (c3:w.cell? ⟨gt,0,none⟩=some (.int .i64 t)) (c0:w.cell? ⟨r,0,none⟩=some (.string (lgS L))):
  Calls Tryz.prog 279 #[.agg #[.int .i64 n.ix,.int .i64 n.kd,.slice q n.inn.length c],.pointer (some ⟨gf,0,none⟩),.pointer (some ⟨gy,0,none⟩),.pointer (some ⟨gt,0,none⟩)] w
   fun e w'=>e=.returned (.bool (!nPas L f t n))∧Keeps w w':=by
 have kA:=(Keeps.refl w).alloc (.cells #[.int .i64 n.ix,.int .i64 n.kd,.slice q n.inn.length c] 190);obtain ⟨d0,d1,d2⟩:=box3 w (.int .i64 n.ix) (.int .i64 n.kd) (.slice q n.inn.length c) 190;have HDF:=hid (fun wz=>demands_any n hi f (by omega) q n.inn.length c wz);have HDT:=hid (fun wz=>demands_any n hi t (by omega) q n.inn.length c wz);have HM:=hid (fun wz (kz:Keeps w wz)=>meets_any n t ht hN (.slice q n.inn.length c) wz (hq.keeps kz))
 replace c0:=kA.cell c0
 replace c1:=kA.cell c1
 replace c2:=kA.cell c2
 replace c3:=kA.cell c3
 have hP:nPas L f t n=(!n.dem f||(if L=3∨L=5 then n.mee t&&n.dem t else if L=4 then n.dem t else n.mee t)):=rfl;have HP:=hid hP;clear hq hP hi ht hN;generalize nPas L f t n=P at*;generalize n.inn.length=l at*;generalize n.kd=k at*;generalize n.ix=i at*;generalize n.dem f=x at*;generalize n.dem t=y at*;generalize n.mee t=z at*;go_enter Tryz.func279,Tryz.ntmps279;go_wp2_with fail;refine (HDF.out _).mono ?_;rintro e w2 ⟨rfl,k2⟩
 replace d0:=k2.cell d0
 replace d1:=k2.cell d1
 replace d2:=k2.cell d2
 replace c0:=k2.cell c0
 replace c2:=k2.cell c2
 replace c3:=k2.cell c3
 clear c1;have kk:=kA.trans k2
 cases x
 ·go_wp2_with fail
  go_ret;exact ⟨ret_bool (by rw [HP.out];rfl),kk⟩
 ·have h8:(L=3∨L=5)∨L=4∨(L=0∨L=1∨L=2∨L=6∨L=7):=by omega
  clear hL
  rcases h8 with (rfl | rfl) | rfl | (rfl | rfl | rfl | rfl | rfl)
  iterate 2
   ·simp only [lgS] at c0
    go_wp2_with fail;refine (HM.out _ kk).mono ?_;rintro e w3 ⟨rfl,k3⟩
    replace d0:=k3.cell d0
    replace d1:=k3.cell d1
    replace d2:=k3.cell d2
    replace c3:=k3.cell c3
    cases z
    ·go_wp2_with fail
     go_ret;exact ⟨ret_bool (by rw [HP.out];rfl),kk.trans k3⟩
    ·go_wp2_with fail
     refine (HDT.out _).mono ?_;rintro e w4 ⟨rfl,k4⟩;go_wp2_with fail;go_ret;exact ⟨ret_bool (by rw [HP.out];cases y<;>rfl),(kk.trans k3).trans k4⟩
  ·simp only [lgS] at c0
   go_wp2_with fail;refine (HDT.out _).mono ?_;rintro e w4 ⟨rfl,k4⟩;go_wp2_with fail;go_ret;exact ⟨ret_bool (by rw [HP.out];cases y<;>rfl),kk.trans k4⟩
  all_goals
   simp only [lgS] at c0;go_wp2_with fail;refine (HM.out _ kk).mono ?_;rintro e w3 ⟨rfl,k3⟩;go_wp2_with fail;go_ret;exact ⟨ret_bool (by rw [HP.out];cases z<;>rfl),kk.trans k3⟩
theorem enters_passes1:Enters 279:=fun _ _=>by kernel_rfl
theorem passes_any (r L N:Nat) (ns:List Nee) (f t:Nat) (hf:f<N) (ht:t<N) (w:World) (h:TyN w r L N ns):
  Calls Tryz.prog 269 #[.pointer (some ⟨r,0,none⟩),.int .i64 f,.int .i64 t] w fun e w'=>e=.returned (.bool (nPasB L ns f t))∧Keeps w w':=by
 have hN:=h.hN;obtain ⟨kA,cy,cf,ct⟩:=three w (.pointer (some ⟨r,0,none⟩)) (.int .i64 f) (.int .i64 t) 157 2 2;have hA:=h.keeps kA;have d0:=hA.c0;obtain ⟨v,d2,hne⟩:=hA.c2
 have HC:=hid (containsFuncNe (fun n=>!nPas L f t n) 279 #[.pointer (some ⟨w.heap.size+1,0,none⟩),.pointer (some ⟨w.heap.size,0,none⟩),.pointer (some ⟨w.heap.size+2,0,none⟩)] ns v _ hne enters_passes1
  (fun n q c w1 hn k1 hb=>passes1_any L h.hL n (h.hi n hn) f t (by omega) (by rw [h.hl n hn];exact ht) (by rw [h.hl n hn];exact h.hN) q c _ _ _ r w1 hb (k1.cell cf) (k1.cell cy) (k1.cell ct) (k1.cell d0)))
 rw [any_not] at HC;have hD:nPasB L ns f t=ns.all (nPas L f t):=rfl;rw [←hD] at HC;obtain ⟨p,c,rfl,-⟩:=hne;clear h hA hD;generalize lgS L=s at*;generalize nPasB L ns f t=y at*;go_enter Tryz.func269,Tryz.ntmps269;go_wp2_with fail;refine HC.out.mono ?_;rintro e w2 ⟨rfl,k2⟩;go_wp2_with fail;go_ret;exact ⟨ret_bool (by simp),kA.trans k2⟩
def nWit (L:Nat) (ns:List Nee) (f t:Nat) (n:Nee):Bool:=nSee L ns f t&&!n.mee t&&(!decide (L=5)||n.dem t)
theorem isGL (L:Nat) (hL:L<8):((lgS L).toList==[71,76])=decide (L=5):=by
 have h8:L=0∨L=1∨L=2∨L=3∨L=4∨L=5∨L=6∨L=7:=by omega
 rcases h8 with rfl | rfl | rfl | rfl | rfl | rfl | rfl | rfl<;>simp [go_sem,lgS]
theorem isD (L:Nat) (hL:L<8):((lgS L).toList==[68])=decide (L=1):=by
 have h8:L=0∨L=1∨L=2∨L=3∨L=4∨L=5∨L=6∨L=7:=by omega
 rcases h8 with rfl | rfl | rfl | rfl | rfl | rfl | rfl | rfl<;>simp [go_sem,lgS]
theorem held5 {w w':World} {g gf gt:Nat} {a b c d e:Value} (k:Keeps w w') (h:w.cell? ⟨g,0,none⟩=some a∧w.cell? ⟨g,1,none⟩=some b∧w.cell? ⟨g,2,none⟩=some c∧w.cell? ⟨gf,0,none⟩=some d∧w.cell? ⟨gt,0,none⟩=some e):
  w'.cell? ⟨g,0,none⟩=some a∧w'.cell? ⟨g,1,none⟩=some b∧w'.cell? ⟨g,2,none⟩=some c∧w'.cell? ⟨gf,0,none⟩=some d∧w'.cell? ⟨gt,0,none⟩=some e:=⟨k.cell h.1,k.cell h.2.1,k.cell h.2.2.1,k.cell h.2.2.2.1,k.cell h.2.2.2.2⟩
theorem sees1_any (n:Nee) (hi:n.ix≤8) (f t:Nat) (hf:f<256) (ht:t<256) (q:Option Addr) (l c gf gt:Nat) (w:World) (c1:w.cell? ⟨gf,0,none⟩=some (.int .i64 f)) (c2:w.cell? ⟨gt,0,none⟩=some (.int .i64 t)):
  Calls Tryz.prog 268 #[.agg #[.int .i64 n.ix,.int .i64 n.kd,.slice q l c],.pointer (some ⟨gf,0,none⟩),.pointer (some ⟨gt,0,none⟩)] w fun e w'=>e=.returned (.bool (!(n.dem f==n.dem t)))∧Keeps w w':=by
 have kA:=(Keeps.refl w).alloc (.cells #[.int .i64 n.ix,.int .i64 n.kd,.slice q l c] 190);obtain ⟨d0,d1,d2⟩:=box3 w (.int .i64 n.ix) (.int .i64 n.kd) (.slice q l c) 190;have HH:=hid (⟨d0,d1,d2,kA.cell c1,kA.cell c2⟩:(w.alloc (.cells #[.int .i64 n.ix,.int .i64 n.kd,.slice q l c] 190)).cell? ⟨w.heap.size,0,none⟩=some (.int .i64 n.ix)∧(w.alloc (.cells #[.int .i64 n.ix,.int .i64 n.kd,.slice q l c] 190)).cell? ⟨w.heap.size,1,none⟩=some (.int .i64 n.kd)∧(w.alloc (.cells #[.int .i64 n.ix,.int .i64 n.kd,.slice q l c] 190)).cell? ⟨w.heap.size,2,none⟩=some (.slice q l c)∧(w.alloc (.cells #[.int .i64 n.ix,.int .i64 n.kd,.slice q l c] 190)).cell? ⟨gf,0,none⟩=some (.int .i64 f)∧(w.alloc (.cells #[.int .i64 n.ix,.int .i64 n.kd,.slice q l c] 190)).cell? ⟨gt,0,none⟩=some (.int .i64 t));have HDF:=hid (fun wz=>demands_any n hi f hf q l c wz);have HDT:=hid (fun wz=>demands_any n hi t ht q l c wz);clear c1 c2 d0 d1 d2;generalize n.kd=k at*;generalize n.ix=i at*;generalize n.dem f=x at*;generalize n.dem t=y at*;go_enter Tryz.func268,Tryz.ntmps268;go_wp2_with fail
 go_region_held3 (fun w'=>w'.cell? ⟨w.heap.size,0,none⟩=some (.int .i64 i)∧w'.cell? ⟨w.heap.size,1,none⟩=some (.int .i64 k)∧w'.cell? ⟨w.heap.size,2,none⟩=some (.slice q l c)∧w'.cell? ⟨gf,0,none⟩=some (.int .i64 f)∧w'.cell? ⟨gt,0,none⟩=some (.int .i64 t)) (first | exact HH.out | exact F2 | exact F4) (first
  | (go_at_call 208;first
    | ((with_reducible refine (HDF.out _).mono ?_);rintro e w2 ⟨rfl,k2⟩;have F2:=held5 ((Keeps.refl _).drew.trans k2) HH.out)
    | ((with_reducible refine (HDT.out _).mono ?_);rintro e w4 ⟨rfl,k4⟩;have F4:=held5 k4 F2)))
 go_wp2_with fail;go_ret;exact ⟨ret_bool (by cases x<;>cases y<;>rfl),(kA.drew.trans k2).trans k4⟩
theorem sees2_any (n:Nee) (hi:n.ix≤8) (f t:Nat) (hf:f<256) (ht:t<256) (q:Option Addr) (l c gf gt:Nat) (w:World) (c1:w.cell? ⟨gt,0,none⟩=some (.int .i64 t)) (c2:w.cell? ⟨gf,0,none⟩=some (.int .i64 f)):
  Calls Tryz.prog 270 #[.agg #[.int .i64 n.ix,.int .i64 n.kd,.slice q l c],.pointer (some ⟨gt,0,none⟩),.pointer (some ⟨gf,0,none⟩)] w fun e w'=>e=.returned (.bool (n.dem t&&!n.dem f))∧Keeps w w':=by
 have kA:=(Keeps.refl w).alloc (.cells #[.int .i64 n.ix,.int .i64 n.kd,.slice q l c] 190);obtain ⟨d0,d1,d2⟩:=box3 w (.int .i64 n.ix) (.int .i64 n.kd) (.slice q l c) 190
 replace c1:=kA.cell c1
 replace c2:=kA.cell c2
 have HDF:=hid (fun wz=>demands_any n hi f hf q l c wz);have HDT:=hid (fun wz=>demands_any n hi t ht q l c wz);generalize n.kd=k at*;generalize n.ix=i at*;generalize n.dem f=x at*;generalize n.dem t=y at*;go_enter Tryz.func270,Tryz.ntmps270;go_wp2_with fail;refine (HDT.out _).mono ?_;rintro e w2 ⟨rfl,k2⟩;have e0:=k2.cell d0;have e1:=k2.cell d1;have e2:=k2.cell d2;have e3:=k2.cell c2
 cases y
 ·go_wp2_with fail
  go_ret;exact ⟨rfl,kA.trans k2⟩
 ·go_wp2_with fail
  refine (HDF.out _).mono ?_;rintro e w3 ⟨rfl,k3⟩;go_wp2_with fail;go_ret;exact ⟨ret_bool (by cases x<;>rfl),(kA.trans k2).trans k3⟩
theorem enters_sees1:Enters 268:=fun _ _=>by kernel_rfl
theorem enters_sees2:Enters 270:=fun _ _=>by kernel_rfl
theorem sees_any (r L N:Nat) (ns:List Nee) (f t:Nat) (hf:f<N) (ht:t<N) (w:World) (h:TyN w r L N ns):
  Calls Tryz.prog 257 #[.pointer (some ⟨r,0,none⟩),.int .i64 f,.int .i64 t] w fun e w'=>e=.returned (.bool (nSee L ns f t))∧Keeps w w':=by
 have hN:=h.hN;obtain ⟨kA,cf,ct⟩:=two w (.int .i64 f) (.int .i64 t) 2 2;have hA:=h.keeps kA;have d0:=hA.c0;have hL:=h.hL;obtain ⟨v,d2,hne⟩:=hA.c2
 have H1:=hid (containsFuncNe (fun n=>!(n.dem f==n.dem t)) 268 #[.pointer (some ⟨w.heap.size,0,none⟩),.pointer (some ⟨w.heap.size+1,0,none⟩)] ns v _ hne enters_sees1
  (fun n q c w1 hn k1 hb=>sees1_any n (h.hi n hn) f t (by omega) (by omega) q _ c _ _ w1 (k1.cell cf) (k1.cell ct)))
 rw [any_not] at H1
 have H2:=hid (fun wz (kz:Keeps ((w.alloc (.cells #[.int .i64 f] 2)).alloc (.cells #[.int .i64 t] 2)) wz)=>containsFuncNe (fun n=>n.dem t&&!n.dem f) 270 #[.pointer (some ⟨w.heap.size+1,0,none⟩),.pointer (some ⟨w.heap.size,0,none⟩)] ns v wz (hne.keeps kz) enters_sees2
  (fun n q c w1 hn k1 hb=>sees2_any n (h.hi n hn) f t (by omega) (by omega) q _ c _ _ w1 ((kz.trans k1).cell ct) ((kz.trans k1).cell cf)))
 have HP:=hid (fun wz (kz:Keeps w wz)=>passes_any r L N ns f t hf ht wz (h.keeps kz));have HQ:=hid (fun wz (kz:Keeps w wz)=>passes_any r L N ns t f ht hf wz (h.keeps kz))
 have HS:Hid (nSee L ns f t=if L=6 then ns.all fun n=>n.dem f==n.dem t
 else if L=7 then nPasB L ns f t&&nPasB L ns t f
 else if L=5 then nPasB L ns f t&&ns.any fun n=>n.dem t&&!n.dem f
 else nPasB L ns f t):=hid rfl
 obtain ⟨p,c,rfl,-⟩:=hne;clear h hA hf ht hN;generalize nSee L ns f t=P at*;generalize nPasB L ns f t=x at*;generalize nPasB L ns t f=y at*;generalize (ns.all fun n=>n.dem f==n.dem t)=z at*;generalize (ns.any fun n=>n.dem t&&!n.dem f)=u at*
 have h8:L=6∨L=7∨L=5∨(L=0∨L=1∨L=2∨L=3∨L=4):=by omega
 clear hL
 rcases h8 with rfl | rfl | rfl | (rfl | rfl | rfl | rfl | rfl)
 ·simp only [lgS] at d0
  go_enter Tryz.func257,Tryz.ntmps257;go_wp2_with fail;refine H1.out.mono ?_;rintro e w2 ⟨rfl,k2⟩;go_wp2_with fail;go_ret;exact ⟨ret_bool (by rw [HS.out];simp),kA.trans k2⟩
 ·simp only [lgS] at d0
  go_enter Tryz.func257,Tryz.ntmps257;go_wp2_with fail;refine (HP.out _ kA).mono ?_;rintro e w2 ⟨rfl,k2⟩;have ef:=k2.cell cf;have et:=k2.cell ct
  cases x
  ·go_wp2_with fail
   go_ret;exact ⟨ret_bool (by rw [HS.out];rfl),kA.trans k2⟩
  ·go_wp2_with fail
   refine (HQ.out _ (kA.trans k2)).mono ?_;rintro e w3 ⟨rfl,k3⟩;go_wp2_with fail;go_ret;exact ⟨ret_bool (by rw [HS.out];cases y<;>rfl),(kA.trans k2).trans k3⟩
 ·simp only [lgS] at d0
  go_enter Tryz.func257,Tryz.ntmps257;go_wp2_with fail;refine (HP.out _ kA).mono ?_;rintro e w2 ⟨rfl,k2⟩;have ed:=k2.cell d2
  cases x
  ·go_wp2_with fail
   go_ret;exact ⟨ret_bool (by rw [HS.out];rfl),kA.trans k2⟩
  ·go_wp2_with fail
   refine (H2.out _ k2).mono ?_;rintro e w3 ⟨rfl,k3⟩;go_wp2_with fail;go_ret;exact ⟨ret_bool (by rw [HS.out];cases u<;>rfl),(kA.trans k2).trans k3⟩
 all_goals
  simp only [lgS] at d0;go_enter Tryz.func257,Tryz.ntmps257;go_wp2_with fail;refine (HP.out _ kA).mono ?_;rintro e w2 ⟨rfl,k2⟩;go_wp2_with fail;go_ret;exact ⟨ret_bool (by rw [HS.out];rfl),kA.trans k2⟩
theorem isWitness_any (r L N:Nat) (ns:List Nee) (n:Nee) (hn:n∈ns) (q:Option Addr) (c:Nat) (f t:Nat) (hf:f<N) (ht:t<N) (w:World) (h:TyN w r L N ns) (hq:Bools w (.slice q n.inn.length c) n.inn):
  Calls Tryz.prog 258 #[.pointer (some ⟨r,0,none⟩),.agg #[.int .i64 n.ix,.int .i64 n.kd,.slice q n.inn.length c],.int .i64 f,.int .i64 t] w fun e w'=>e=.returned (.bool (nWit L ns f t n))∧Keeps w w':=by
 have hN:=h.hN;have hl:=h.hl n hn;have kA:=(Keeps.refl w).alloc (.cells #[.int .i64 n.ix,.int .i64 n.kd,.slice q n.inn.length c] 190);obtain ⟨d0,d1,d2⟩:=box3 w (.int .i64 n.ix) (.int .i64 n.kd) (.slice q n.inn.length c) 190;have HS:=hid (sees_any r L N ns f t hf ht _ (h.keeps kA));have HD:=hid (fun wz=>demands_any n (h.hi n hn) t (by omega) q n.inn.length c wz);have HM:=hid (fun wz (kz:Keeps w wz)=>meets_any n t (by omega) (by omega) (.slice q n.inn.length c) wz (hq.keeps kz));have cL:=kA.cell h.c0;have hG:=isGL L h.hL;have HW:Hid (nWit L ns f t n=(nSee L ns f t&&!n.mee t&&(!decide (L=5)||n.dem t))):=hid rfl;clear h hq hl hN hf ht hn;generalize nWit L ns f t n=P at*;generalize nSee L ns f t=x at*;generalize n.inn.length=l at*;generalize n.kd=k at*;generalize n.ix=i at*;generalize n.dem t=y at*;generalize n.mee t=z at*;generalize lgS L=s at*;generalize decide (L=5)=u at*;go_enter Tryz.func258,Tryz.ntmps258;go_wp2_with fail;refine HS.out.mono ?_;rintro e w2 ⟨rfl,k2⟩
 replace d0:=k2.cell d0
 replace d1:=k2.cell d1
 replace d2:=k2.cell d2
 replace cL:=k2.cell cL
 cases x
 ·go_wp2_with fail
  go_ret;exact ⟨ret_bool (by rw [HW.out];rfl),kA.trans k2⟩
 ·go_wp2_with fail
  refine (HM.out _ (kA.trans k2)).mono ?_;rintro e w3 ⟨rfl,k3⟩
  replace d0:=k3.cell d0
  replace d1:=k3.cell d1
  replace d2:=k3.cell d2
  replace cL:=k3.cell cL
  cases z
  ·cases u
   ·go_wp2_with fail
    go_ret;exact ⟨ret_bool (by rw [HW.out];rfl),(kA.trans k2).trans k3⟩
   ·go_wp2_with fail
    refine (HD.out _).mono ?_;rintro e w4 ⟨rfl,k4⟩;go_wp2_with fail;go_ret;exact ⟨ret_bool (by rw [HW.out];cases y<;>rfl),((kA.trans k2).trans k3).trans k4⟩
  ·go_wp2_with fail
   go_ret;exact ⟨ret_bool (by rw [HW.out];rfl),(kA.trans k2).trans k3⟩
end Go.Proofs.YtbccmdfdclomiaaGreatDoor
