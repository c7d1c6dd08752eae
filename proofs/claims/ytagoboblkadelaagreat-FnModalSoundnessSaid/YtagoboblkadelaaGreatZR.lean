import Derived.Test.YtagoboblkadelaaGreatZZA
import Derived.Test.YtagoboblkadelaaGreatZVS
import Derived.Sort.OwnSorted
import Derived.Sort.Grow
import Derived.Lib.OwnBridge
import Derived.Laws.Bits64
import Derived.Test.YtagoboblkadelaaGreatRows
import Derived.ProofKit
import Derived.OpenShut
import Derived.Deep.Slices
import Derived.Deep.Fields
import Derived.ChangeSame
/- own -/
namespace Go.Proofs.YtagoboblkadelaaGreat
set_option maxHeartbeats 1000000
section
open Go.RowKit
def ry (ss:List ByteArray) (G:List Fm):Prop:=ss.map bts=G.map Fm.body
theorem ry.length {ss:List ByteArray} {G:List Fm} (h:ry ss G):ss.length=G.length:=by
 have:=congrArg List.length h
 simpa using this
theorem ry.append {ss tt:List ByteArray} {G H:List Fm} (h:ry ss G) (k:ry tt H):ry (ss++tt) (G++H):=by
 unfold ry at *;rw[List.map_append,List.map_append,h,k]
def AT (w:World) (r:List ByteArray) (e:Ending) (w':World):Prop:=∃ v,e=.returned v∧aA w' w.heap.size v r∧aa w w'
def tA (w:World) (v:Value) (xs:List (List ByteArray)):Prop:=SlC 1 (fun w f x=>au w (f 0) x) w v xs
theorem tA.keeps {w w':World} {v:Value} {xs:List (List ByteArray)} (h:tA w v xs) (k:aa w w'):tA w' v xs:=
 SlC.keeps (R:=fun w f x=>au w (f 0) x) (fun _ _ _ _ k h=>au.keeps h k) h k
theorem tA.get {w:World} {p:Option Addr} {n cap:Nat} {xs:List (List ByteArray)} (h:tA w (.slice p n cap) xs) (i:Nat) (hi:i<xs.length):
  ∃ b off u,p=some ⟨b,off,none⟩∧w.cell? ⟨b,off+i,none⟩=some u∧au w u xs[i]:=by
 obtain⟨p',cap',hv,h1,h2,h3,h4⟩:=h
 cases hv
 obtain⟨b,off,f,hp,hc,hr⟩:=h4 i hi;exact⟨b,off,f 0,hp,by simpa using hc 0 qB,hr⟩
theorem tA.lit2 {w:World} {u u':Value} {x x':List ByteArray} (h:au w u x) (h':au w u' x'):tA (w.alloc (.cells #[u,u'] 27)) (.slice (some ⟨w.heap.size,0,none⟩) 2 2) [x,x']:=
 SlC.lit (R:=fun w f x=>au w (f 0) x) (fun _ _ _ _ k h=>au.keeps h k) w _ [u,u'] [x,x'] rfl qD (fun i h1 h2=>by
  simp at h1
  have hi:i=0∨i=1:=qB
  rcases hi with rfl | rfl
  ·exact h
  ·exact h')
set_option maxRecDepth 20000 in
theorem Cc (n:Nat) (w:World) (hn:n≤2147483648):
  Calls Tryz.prog 202 #[.slice none 0 0,.int .i64 n] w (AT w []):=by
 obtain⟨i0,hi,x6,x7,x8⟩:=info_parts xU
 by_cases h0:0<n
 ·have eE:=Lib.run_append_nil_zeros (P:=Tryz.prog) w 27 3 27 9 i0 _ .i64 .i64 Tryz.underlying27 Tryz.underlying3 hi x6 n h0 (by rw[x7];decide) qB (by rw[x8];omega)
  have H7:=grownCap_ge w n 0 9;have x9:=grownCap_le_maxLen w n 0 9 (by unfold maxLen;omega);unfold maxLen at x9
  have h9:aA (w.drew.alloc (.cells (Builtin.zeroCells (Value.string ⟨#[]⟩).cells n++Builtin.zeroCells (Value.string ⟨#[]⟩).cells (grownCap w n 0 9-n)) 9)) w.heap.size (.slice (some ⟨w.heap.size,0,none⟩) 0 (grownCap w n 0 9)) []:=by
   refine World.ownsRow_made w.drew _ _ (zm _) (by unfold maxLen;omega) ?_;rw[Array.size_append,fC,fC];simp[Value.cells];omega
  have hk:=((aa.refl w).drew).alloc (.cells (Builtin.zeroCells (Value.string ⟨#[]⟩).cells n++Builtin.zeroCells (Value.string ⟨#[]⟩).cells (grownCap w n 0 9-n)) 9);generalize w.drew.alloc (.cells (Builtin.zeroCells (Value.string ⟨#[]⟩).cells n++Builtin.zeroCells (Value.string ⟨#[]⟩).cells (grownCap w n 0 9-n)) 9)=w1 at eE h9 hk;generalize grownCap w n 0 9=c1 at*;have HR:=hid eE;clear eE;clear x6 x7 x8 hi;go_enter Tryz.func202,Tryz.ntmps202
  go_wp2_with (at_builtin;refine Lib.wpList_append_run _ rfl _ _ _ _ rfl _ _ rfl rfl _ _ HR.out ?_)
  go_ret;exact⟨_,rfl,h9,hk⟩
 ·obtain rfl:n=0:=qB
  go_enter Tryz.func202,Tryz.ntmps202;go_wp2;go_ret;exact⟨_,rfl,aA.nil _ _,aa.refl _⟩
theorem pD (l:List (List ByteArray)) (v:Value) (w:World) (hv:tA w v l) (hl:(fl l l.length).length≤2147483648):
  Calls Tryz.prog 165 #[v] w (AT w (fl l l.length)):=by
 have x9:=hv;obtain⟨p,cap,rfl,KY,KP,H9,_⟩:=hv;unfold maxLen at KP;go_enter Tryz.func165,Tryz.ntmps165;go_wp2
 go_loop [3,11] (fun s i'=>∃ k:Nat,k≤l.length∧i'=.int .i64 k∧s=.int .i64 (fl l k).length) (fun _ i=>l.length-(intOf i).toNat)
 case atStart=>exact⟨0,qB,rfl,rfl⟩
 case round=>
  obtain⟨k,hk,rfl,rfl⟩:=hrel;have hf:=uw l k
  by_cases x6:k<l.length
  ·obtain⟨b,off,u,rfl,h1,KT⟩:=x9.get k x6
   obtain⟨pu,capu,rfl,g1,g2,g3,g4⟩:=KT.at;have h9:=qS l k x6;have H7:=uw l (k+1)
   have eE:(fl l (k+1)).length=(fl l k).length+l[k].length:=by rw[h9];simp
   have x8:(fl l k).length+l[k].length≤2147483648:=qB;have HL:=hid eE;clear eE h9 H7;clear x9;go_wp2
   go_round
   case rel=>exact⟨k+1,qB,by go_num,by rw[HL.out];go_num⟩
   case measure=>simp[intOf];omega
  ·obtain rfl:k=l.length:=qB
   clear hf hk x6
   go_wp2_with (go_at_call 202;refine(Cc _ _ hl).mono ?_;rintro e w1 ⟨v1,rfl,KU,k1⟩)
   go_loopw [6,27] (fun s i' wr=>∃ k:Nat,k≤l.length∧i'=.int .i64 k∧aA wr w.heap.size s (fl l k)∧aa w wr) (fun _ i _=>l.length-(intOf i).toNat)
   case atStart=>exact⟨0,qB,rfl,KU,k1⟩
   case round=>
    obtain⟨k,hk,rfl,x7,kw⟩:=hrel
    by_cases x6:k<l.length
    ·obtain⟨b,off,u,rfl,h1,hu⟩:=(x9.keeps kw).get k x6
     have h9:=qS l k x6;have H7:=uw l (k+1)
     have x8:(fl l k).length+l[k].length≤2147483648:=by
      have:(fl l (k+1)).length=(fl l k).length+l[k].length:=by rw[h9];simp
      omega
     have HF:=hid h9;clear h9 H7;clear x9;have KS:=kw.size
     go_wp2_with (at_builtin;refine iE rfl _ _ rfl w.heap.size _ _ rfl x7 _ _ rfl hu KS x8 ?_;intro v2 w2 KV H8 KR;have k2:aa w w2:=kw.grown H8 KR)
     go_roundw
     case rel=>exact⟨k+1,qB,by go_num,by rw[HF.out];exact KV,k2⟩
     case measure=>simp[intOf];omega
    ·obtain rfl:k=l.length:=qB
     go_wp2;go_ret;exact⟨_,rfl,x7,kw⟩
end
section
open Go.RowKit Go.Sort
def mkS (b:List UInt8):ByteArray:=⟨b.toArray⟩
theorem gU (b:List UInt8):bts (mkS b)=b:=by simp[bts,mkS]
theorem FY (s:ByteArray):encStr (bts s)=.string s:=by simp[encStr,bts]
theorem uY (b:List UInt8):Value.string (mkS b)=encStr b:=by simp[encStr,mkS]
theorem BY (ss:List ByteArray):aq ss=(ss.map bts).map encStr:=by
 simp[aq,Function.comp_def,FY]
def du (bs:List (List UInt8)):List (List UInt8):=Lib.compact (bs.mergeSort fun x y=>decide (x≤y))
def fW (ss tt:List ByteArray):List ByteArray:=(du ((ss++tt).map bts)).map mkS
theorem Au (ss tt:List ByteArray):aq (fW ss tt)=(du ((ss++tt).map bts)).map encStr:=by
 simp[fW,aq,Function.comp_def,uY]
theorem sX {w w1:World} {g cap n nn q:Nat} {os:Array Obj} {bs:List (List UInt8)} (x7:w1.ownsRow w.heap.size 9 1 (.slice (some ⟨g,0,none⟩) n cap) n (bs.map encStr)) (h9:aa w w1) (x8:w.heap.size≤g) (x6:bs.length=n):
  let w2:=putRow encStr (Sort.ahead (grow (putRow encStr (Sort.ahead w1 nn) g 0 (bs.mergeSort fun x y=>decide (x≤y)).toArray) os) q) g 0 (du bs++List.replicate (n-(du bs).length) []).toArray
  w2.ownsRow w.heap.size 9 1 (.slice (some ⟨g,0,none⟩) (du bs).length cap) (du bs).length ((du bs).map encStr)∧aa w w2:=by
 have x9:(bs.mergeSort fun x y=>decide (x≤y)).length=bs.length:=List.length_mergeSort bs;have H7:(du bs).length≤_:=Lib.compact_length_le (bs.mergeSort fun x y=>decide (x≤y));subst x6
 rcases x7.2 with ⟨h0,_⟩ | ⟨g',cap',cur,hv,eE,hb,h1,h2,h3,h4⟩
 ·cases h0
 cases hv
 have hs:=ownsRow_sorted (n:=nn) (os:=os) (ts:=bs.mergeSort fun x y=>decide (x≤y)) x9 eE hb h1 h2 h3;have hc:=Lib.ownsRow_putRow (q:=q) (k:=(du bs).length) (ys:=du bs++List.replicate (bs.length-(du bs).length) []) hs (by simp;omega) qB;rw[List.take_left] at hc;exact⟨hc,Lib.below_putRow (Below.grown h9 (grownBy_sorted _) h9.size (fun j hj=>by cases hj;exact eE)) x8⟩
theorem nF {w1:World} {B g cap n nn:Nat} {os:Array Obj} {bs:List (List UInt8)} (h9:w1.ownsRow B 9 1 (.slice (some ⟨g,0,none⟩) n cap) n (bs.map encStr)) (eE:bs.length=n):
  Holds encStr (grow (putRow encStr (Sort.ahead w1 nn) g 0 (bs.mergeSort fun x y=>decide (x≤y)).toArray) os) g 0 (bs.mergeSort fun x y=>decide (x≤y)).toArray:=by
 have x6:(bs.mergeSort fun x y=>decide (x≤y)).length=bs.length:=List.length_mergeSort bs;subst eE
 rcases h9.2 with ⟨h0,_⟩ | ⟨g',cap',cur,hv,hbase,hb,h1,h2,h3,h4⟩
 ·cases h0
 cases hv
 have hs:=ownsRow_sorted (n:=nn) (os:=os) (ts:=bs.mergeSort fun x y=>decide (x≤y)) x6 hbase hb h1 h2 h3;obtain⟨g2,c2,e,_,_,_,_,_,hH⟩:=Lib.holds_of_ownsRow hs qD
 cases e
 exact hH
def C4 (w:World) (bs:List (List UInt8)) (v1:Value) (w2:World):Prop:=
 Calls Tryz.prog 164 #[v1] w2 fun e w3=>∃ v',e=.returned v'∧aA w3 w.heap.size v' ((du bs).map mkS)∧aa w w3
theorem CO (bs:List (List UInt8)) (v1:Value) (w w1:World) (x8:aA w1 w.heap.size v1 (bs.map mkS)) (kw:aa w w1) (KS:bs.length≤1000000000):
  Calls Tryz.prog 163 #[v1] w1 fun e w2=>e=.returned (.tuple #[])∧C4 w bs v1 w2:=by
 by_cases hn:v1=.slice none 0 0
 ·subst hn
  have h0:bs=[]:=by
   obtain⟨p,c,e,_⟩:=At.of_own x8;injection e with _ e2 _;have:=List.eq_nil_of_length_eq_zero e2.symm
   simpa using this
  subst h0;refine(Tryz.slices_Sort_string_none none 0 w1).mono ?_;rintro e w' ⟨rfl,rfl⟩;refine⟨rfl,(Tryz.slices_Compact_string_empty none 0 _).mono ?_⟩;rintro e w' ⟨rfl,rfl⟩;exact⟨_,rfl,(by simpa [du,Lib.compact,Lib.compactUpTo] using aA.nil _ _),kw⟩
 ·have H8:aq (bs.map mkS)=bs.map encStr:=by simp[aq,Function.comp_def,uY]
  have h9:w1.ownsRow w.heap.size 9 1 v1 bs.length (bs.map encStr):=by
   have:=x8;unfold aA at this;rwa[H8,List.length_map] at this
  obtain⟨g,cap,rfl,H7,H9,x7,KT,KP,hH⟩:=Lib.holds_of_ownsRow h9 hn;have x6:=Tryz.slices_Sort_string g 0 cap bs w1 hH H9 qB;refine x6.mono ?_;rintro e w2 ⟨rfl,nn,os,rfl⟩;refine⟨rfl,?_⟩;have x9:=nF (nn:=nn) (os:=os) h9 rfl;have KR:(bs.mergeSort fun x y=>decide (x≤y)).length=bs.length:=List.length_mergeSort bs;have eE:=Tryz.slices_Compact_string g 0 cap (bs.mergeSort fun x y=>decide (x≤y)) _ x9 qB qB;rw[KR] at eE;refine eE.mono ?_;rintro e w3 ⟨rfl,q,rfl⟩;obtain⟨ho,hk⟩:=sX (w:=w) (nn:=nn) (q:=q) (os:=os) h9 kw H7 rfl;refine⟨_,rfl,?_,hk⟩;unfold aA;rw[List.length_map,show aq ((du bs).map mkS)=(du bs).map encStr by simp[aq,Function.comp_def,uY]];exact ho
end
section
open Fm
theorem B7:∀ (a b:Fm) (r s:List Nd),a.enc++r=b.enc++s→a=b∧r=s:=by
 intro a
 induction a with
 | var v=>
  intro b r s h;cases b<;>simp[enc] at h
  obtain⟨h1,h2⟩:=h;have h3:=Int.ofNat.inj h1;exact⟨by rw[h3],h2⟩
 | fls=>intro b r s h;cases b<;>simp[enc] at h<;>simp_all
 | and x y ihx ihy=>
  intro b r s h;cases b<;>simp[enc] at h
  obtain⟨h1,h⟩:=ihx _ _ _ h;obtain⟨h2,h⟩:=ihy _ _ _ h;exact⟨by rw[h1,h2],h⟩
 | or x y ihx ihy=>
  intro b r s h;cases b<;>simp[enc] at h
  obtain⟨h1,h⟩:=ihx _ _ _ h;obtain⟨h2,h⟩:=ihy _ _ _ h;exact⟨by rw[h1,h2],h⟩
 | imp x y ihx ihy=>
  intro b r s h;cases b<;>simp[enc] at h
  obtain⟨h1,h⟩:=ihx _ _ _ h;obtain⟨h2,h⟩:=ihy _ _ _ h;exact⟨by rw[h1,h2],h⟩
 | box x ihx=>
  intro b r s h;cases b<;>simp[enc] at h
  obtain⟨h1,h⟩:=ihx _ _ _ h;exact⟨by rw[h1],h⟩
 | dia x ihx=>
  intro b r s h;cases b<;>simp[enc] at h
  obtain⟨h1,h⟩:=ihx _ _ _ h;exact⟨by rw[h1],h⟩
theorem qR {a b:Fm} (h:a.enc=b.enc):a=b:=(B7 a b [] [] (by simpa using h)).1
end
section
open Go.RowKit
theorem tv:∀ k:Nat,k≤62→wrap64 (2^k)=2^k:=by
 intro k hk
 have:∀ j:Fin 63,wrap64 (2^(j:Nat))=2^(j:Nat):=by decide +kernel
 exact this ⟨k,qB⟩
theorem mf (i:Int) (w:World) (h0:0≤i) (h1:i≤62):Calls Tryz.prog 131 #[.int .i64 i] w fun e w'=>e=.returned (.int .i64 (2^i.toNat))∧w=w':=by
 go_enter Tryz.func131,Tryz.ntmps131;go_wp2;go_ret;refine⟨aK ?_,rfl⟩;exact tv _ qB
theorem xZ (i:Int) (w:World) (h0:0≤i) (h1:i≤62):Calls Tryz.prog 132 #[.int .i64 i] w fun e w'=>e=.returned (.int .i64 (2^i.toNat-1))∧w=w':=by
 have hp:(1:Int)≤2^i.toNat:=by
  have:∀ j:Fin 63,(1:Int)≤(2:Int)^(j:Nat):=by decide +kernel
  exact this ⟨i.toNat,qB⟩
 have hm:(2:Int)^i.toNat≤4611686018427387904:=by
  have:∀ j:Fin 63,(2:Int)^(j:Nat)≤4611686018427387904:=by decide +kernel
  exact this ⟨i.toNat,qB⟩
 generalize hP:(2:Int)^i.toNat=P at*;have HP:=hid hP;clear hP;go_enter Tryz.func132,Tryz.ntmps132;go_wp2_with fail;refine(mf i _ h0 h1).mono ?_;rintro e w' ⟨rfl,rfl⟩;rw[HP.out];go_wp2_with fail;go_ret;exact⟨rfl,rfl⟩
def BR (w:World) (a:List Int) (e:Ending) (w':World):Prop:=∃ v,e=.returned v∧aI w' w.heap.size v a∧aa w w'
theorem fK (a:List Int) (v:Value) (w:World) (hv:aV w v a):Calls Tryz.prog 56 #[v] w (BR w a):=by
 have eE:a.length≤2147483648:=by obtain⟨_,_,_,_,_,_,h⟩:=hv;exact h
 have h1:=aI.empty w;have k1:=(aa.refl w).alloc (.cells #[] 2);have h9:=hv.keeps k1;go_enter Tryz.func56,Tryz.ntmps56
 go_wp2_with (at_builtin;refine mw rfl _ _ rfl w.heap.size _ [] rfl h1 _ a rfl h9 qD (by simpa using eE) ?_;intro v1 w1 h9 x6 x7;have k2:aa w w1:=k1.grown x6 x7)
 go_ret;exact⟨_,rfl,by simpa using h9,k2⟩
theorem AP (a b:Int) (w:World):Calls Tryz.prog 113 #[.int .i64 a,.int .i64 b] w fun e w'=>e=.returned (.bool (bits .andNot .i64 a b==0))∧w=w':=by
 go_enter Tryz.func113,Tryz.ntmps113;go_wp2;go_ret;exact⟨rfl,rfl⟩
theorem um {P:Program} {w:World} {o:Oper} {a:Act} {K:Act→World→Prop} {Q:Exit→Act→World→Prop} (s x:Operand) (t:TypeId)
  (ho:o.op=.call { callee:=.builtin .append,args:=#[s,x],argTypes:=#[t,t] })
  (e:TypeId) (i:TypeInfo) (z:Value) (size bytes:Nat) (ht:P.underlying t=some (.slice e)) (hi:P.info? e=some i) (hz:i.zero=some z)
  (x7:i.size=size) (KP:i.bytes=bytes) (KS:z.cells.size=size) (H8:0<size) (base:Nat)
  (v:Value) (n:Nat) (xs:List Value) (hs:a.eval s=v) (eE:w.ownsRow base e size v n xs)
  (p:Option Addr) (m c:Nat) (news:List Value) (hx:a.eval x=.slice p m c) (hl:news.length=m*size) (x9:At w p news) (h1:∀ u∈news,u.oneCell'=true)
  (H9:n+m≤maxLen) (h9:(n+m)*bytes≤140737488355328) (x6:base≤w.heap.size)
  (h:∀ v' w',w'.ownsRow base e size v' (n+m) (xs++news)→w.grownBy w' v.ownBlock→(∀ k,v.ownBlock=some k→base≤k)→(v'=.slice none 0 0→v=.slice none 0 0)→K (a.put o.dst v') w'):o.wp P a w K Q:=by
 have H7:=fun k hk=>(eE.lt k hk).1
 cases p with
 | some ad=>
  refine wp_append_own w s x t ho base e i z size bytes ht hi hz x7 KP KS H8 v n xs hs eE ad m c news hx hl ?_ h1 H9 h9 x6 (fun v' w' h1 h2 h3=>h v' w' h1 h2 H7 (fun e=>(h3.1 e).1));intro j u hu;obtain⟨hj,rfl⟩:=List.getElem?_eq_some_iff.1 hu;obtain⟨b,off,hp,hc⟩:=x9 j hj
  cases hp
  have x8:(⟨b,off,none⟩:Addr).add j=⟨b,off+j,none⟩:=by unfold Addr.add;split<;>simp_all
  rw[x8];exact hc
 | none=>
  have hn:news=[]:=by
   cases news with
   | nil=>rfl
   | cons u r=>obtain⟨b,off,hp,_⟩:=x9 0 qD;cases hp
  subst hn
  have hm:m=0:=by
   rcases Nat.eq_zero_or_pos m with h | h
   ·exact h
   ·have:=Nat.mul_pos h H8;simp at hl;omega
  subst hm;obtain⟨p',cap,hv,KR,_,_⟩:=At.of_own eE;have hr:=jP (P:=P) w t o.type e i ht hi p' n cap KR c;unfold Oper.wp execOp;simp only[ho,resolve,invoke,builtin,Sem.run_bind,Sem.run_pure,Result.andThen_ok,List.map_toArray,List.map_cons,List.map_nil,hs,hx,hv,hr];refine h _ _ ?_ ⟨rfl,rfl,rfl,zm _,fun _ _ _=>rfl⟩ H7 (fun e=>hv.trans e);rw[←hv]
  simpa using eE
theorem Iv {w:World} {o:Oper} {a:Act} {K:Act→World→Prop} {Q:Exit→Act→World→Prop} (s x:Operand)
  (ho:o.op=.call { callee:=.builtin .append,args:=#[s,x],argTypes:=#[27,27] }) (base:Nat) (v:Value) (xs:List ByteArray) (hs:a.eval s=v) (h9:aA w base v xs)
  (u:Value) (ys:List ByteArray) (hx:a.eval x=u) (hu:au w u ys) (eE:base≤w.heap.size) (x7:xs.length+ys.length≤2147483648)
  (h:∀ v' w',aA w' base v' (xs++ys)→w.grownBy w' v.ownBlock→(∀ k,v.ownBlock=some k→base≤k)→(v'=.slice none 0 0→v=.slice none 0 0)→K (a.put o.dst v') w'):o.wp Tryz.prog a w K Q:=by
 obtain⟨i0,hi,x8,x9,H7⟩:=info_parts xU;obtain⟨p,cap,rfl,_,_,x6,_⟩:=hu.at;refine um s x _ ho _ i0 _ 1 16 Tryz.underlying27 hi x8 x9 H7 rfl qC base v _ _ hs h9 p _ cap _ hx (by simp[aq]) x6 (nN _) (by unfold maxLen;omega) qB eE ?_;intro v' w' h1 h2 h3 h4;refine h v' w' ?_ h2 h3 h4;unfold aA;rw[ze,show aq (xs++ys)=aq xs++aq ys by simp[aq]];exact h1
theorem JC {w:World} {ops:Array Oper} {rest:List Oper} {o:Oper} {a:Act} {Q:Exit→Act→World→Prop} (x7:o.guard=none) (s x:Operand)
  (ho:o.op=.call { callee:=.builtin .append,args:=#[s,x],argTypes:=#[27,27] }) (base:Nat) (v:Value) (xs:List ByteArray) (hs:a.eval s=v) (x6:aA w base v xs)
  (u:Value) (ys:List ByteArray) (hx:a.eval x=u) (hu:au w u ys) (eE:base≤w.heap.size) (h9:xs.length+ys.length≤2147483648)
  (h:∀ v' w',aA w' base v' (xs++ys)→w.grownBy w' v.ownBlock→(∀ k,v.ownBlock=some k→base≤k)→(v'=.slice none 0 0→v=.slice none 0 0)→wpList Tryz.prog ops Q rest (a.put o.dst v') w'):wpList Tryz.prog ops Q (o::rest) a w:=
 wpList_plain x7 fun _ hK=>Iv s x ho base v xs hs x6 u ys hx hu eE h9 fun v' w' h1 h2 h3 h4=>hK _ _ (h v' w' h1 h2 h3 h4)
theorem aA.blk {w:World} {B:Nat} {v:Value} {a:List ByteArray} (h:aA w B v a) (hn:v≠.slice none 0 0):∃ g cap,v=.slice (some ⟨g,0,none⟩) a.length cap:=by
 obtain⟨_,⟨e,_⟩ | ⟨g,cap,cur,rfl,_⟩⟩:=h
 ·exact absurd e hn
 ·exact⟨g,cap,rfl⟩
theorem GH (w:World):(sizeOf 9).run Tryz.prog w=.ok 1 w:=by
 obtain⟨i0,hi,h9,eE,x6⟩:=info_parts xU;simp[sizeOf,typeInfo,hi,eE]
theorem Ic (b off m cap l:Nat) (i:Int) (hi:i=l) (hl:l≤m) (hc:m≤cap):
  ∃ q,(∀ (w:World) (vs:List Value),At w (some ⟨b,off,none⟩) vs→vs.length=m→At w q (vs.drop l))∧
   ∀ wx,(Instr.slice 27 (.slice (some ⟨b,off,none⟩) m cap) (some (.int .i64 i)) none none).run Tryz.prog wx=.ok (.slice q (m-l) (cap-l)) wx:=by
 subst hi;have hT:Tryz.prog.underlying 27=some (.slice (Tryz.prog.elem 27)):=qA;have hE:Tryz.prog.elem 27=9:=qA;refine⟨if cap=l then some ⟨b,off,none⟩ else some ⟨b,off+l,none⟩,fun w vs h h9=>?_,fun wx=>?_⟩
 ·split
  ·rename_i e
   have:vs.drop l=[]:=List.drop_eq_nil_of_le qB;rw[this];exact At.nil _ _
  ·exact h.drop l rfl
 ·rw[run_slice_l (P:=Tryz.prog) wx 27 (some ⟨b,off,none⟩) m cap hT .i64 (l:Int) qB qB,hE,GH]
  simp only[Result.andThen_ok,sliced,Int.toNat_natCast,Nat.mul_one,Option.map_some]
  have eE:(⟨b,off,none⟩:Addr).add l=⟨b,off+l,none⟩:=by unfold Addr.add;split<;>simp_all
  rw[eE]
theorem At.takeN {w:World} {p:Option Addr} {vs:List Value} (h:At w p vs) (k:Nat):At w p (vs.take k):=fun j hj=>by
 simp at hj
 obtain⟨b,off,hp,hc⟩:=h j qB;exact⟨b,off,hp,by simpa using hc⟩
theorem ic {w:World} {p:Option Addr} {k cap:Nat} {a:List ByteArray} (h1:k=a.length) (h2:cap≤maxLen) (h:At w p (aq a)) (h3:a.length≤2147483648∧a.length≤cap):au w (.slice p k cap) a:=by
 subst h1;exact au.ofAt h3.2 h2 h h3.1
theorem qO {w:World} {p:Option Addr} {a:List ByteArray} (h:At w p (aq a)) (k:Nat):At w p (aq (a.take k)):=by
 have:=At.takeN h k;rwa[show(aq a).take k=aq (a.take k) by simp[aq,List.map_take]] at this
theorem qN {w:World} {p:Option Addr} {a:List ByteArray} {k:Nat} (h:At w p ((aq a).drop k)):At w p (aq (a.drop k)):=by
 rwa[show(aq a).drop k=aq (a.drop k) by simp[aq,List.map_drop]] at h
theorem mZ {w:World} {B:Nat} {v:Value} {a:List ByteArray} (h:aA w B v a) (hp:0<a.length):∃ g cap,v=.slice (some ⟨g,0,none⟩) a.length cap:=by
 rcases h.2 with ⟨_,e⟩ | ⟨g,c,_,e,_⟩
 ·omega
 ·exact⟨g,c,e⟩
theorem Fy (n:Nat) (h:n<4611686018427387904):IntKind.i64.wrap (n:Int)=n:=by
 simp[IntKind.wrap,IntKind.bits,IntKind.signed]
 try (split<;>omega)
theorem oI (a:Nat) (ha:a<4611686018427387904):(BitVec.ofInt 64 (a:Int)).toNat=a:=by
 rw[BitVec.ofInt_natCast,BitVec.toNat_ofNat];exact Nat.mod_eq_of_lt qB
theorem orN (a b:Nat) (ha:a<4611686018427387904) (hb:b<4611686018427387904):bits .or .i64 (a:Int) (b:Int)=((a ||| b:Nat):Int):=by
 have hx:a ||| b<2^62:=Nat.or_lt_two_pow qB qB
 show IntKind.i64.wrap ((BitVec.ofInt 64 (a:Int) ||| BitVec.ofInt 64 (b:Int)).toNat:Int)=_
 rw[BitVec.toNat_or,oI a ha,oI b hb];exact Fy _ qB
theorem Jp (a b:Nat) (ha:a<4611686018427387904) (hb:b<4611686018427387904):bits .and .i64 (a:Int) (b:Int)=((a &&& b:Nat):Int):=by
 have hx:a &&& b<2^62:=Nat.and_lt_two_pow _ qB
 show IntKind.i64.wrap ((BitVec.ofInt 64 (a:Int) &&& BitVec.ofInt 64 (b:Int)).toNat:Int)=_
 rw[BitVec.toNat_and,oI a ha,oI b hb];exact Fy _ qB
theorem AW (a b:Nat) (ha:a<4611686018427387904) (hb:b<4611686018427387904):bits .andNot .i64 (a:Int) (b:Int)=((a ^^^ (a &&& b):Nat):Int):=by
 have h1:a &&& b<2^62:=Nat.and_lt_two_pow _ qB;have hx:a ^^^ (a &&& b)<2^62:=Nat.xor_lt_two_pow qB h1
 show IntKind.i64.wrap ((BitVec.ofInt 64 (a:Int) &&& ~~~BitVec.ofInt 64 (b:Int)).toNat:Int)=_
 have h2:∀ x y:BitVec 64,x &&& ~~~y=x ^^^ (x &&& y):=by
  intro x y;apply BitVec.eq_of_getLsbD_eq;intro i hi;simp only[BitVec.getLsbD_and,BitVec.getLsbD_not,BitVec.getLsbD_xor,hi,decide_true,Bool.true_and]
  cases x.getLsbD i<;>cases y.getLsbD i<;>rfl
 rw[h2,BitVec.toNat_xor,BitVec.toNat_and,oI a ha,oI b hb];exact Fy _ qB
theorem JE (m i:Nat) (hm:m<4611686018427387904):(bits BinOp.and IntKind.i64 ((m:Int)/2^i) 1==1)=m.testBit i:=by
 have h1:((m:Int)/2^i)=((m/2^i:Nat):Int):=by push_cast;rfl
 have h2:m/2^i<4611686018427387904:=Nat.lt_of_le_of_lt (Nat.div_le_self _ _) hm;rw[h1,show(1:Int)=((1:Nat):Int) from rfl,Jp _ _ h2 qB,Nat.and_one_is_mod,Nat.testBit_eq_decide_div_mod_eq,Bool.eq_iff_iff,beq_iff_eq,decide_eq_true_eq];omega
theorem mi {f:FuncId} {args:Array Value} {w:World} {n:Nat} {v:Value} (h:Calls Tryz.prog f args (w.drewN n) fun e w'=>e=.returned v∧w.drewN n=w'):
  Calls Tryz.prog f args (w.drewN n) fun e w''=>e=.returned v∧∃ m,w''=w.drewN m:=h.mono fun _ _ ⟨he,hm⟩=>⟨he,n,hm.symm⟩
def inB (a b:Nat):Bool:=a ^^^ (a &&& b)==0
theorem Bh (a b:Nat):inB a b=true↔∀ i,a.testBit i=true→b.testBit i=true:=by
 unfold inB;rw[beq_iff_eq];constructor
 ·intro h i hi
  have:=congrArg (fun n=>n.testBit i) h;simp only[Nat.testBit_xor,Nat.testBit_and,Nat.zero_testBit,hi] at this
  simpa using this
 ·intro h
  apply Nat.eq_of_testBit_eq;intro i;simp only[Nat.testBit_xor,Nat.testBit_and,Nat.zero_testBit]
  cases hi:a.testBit i
  ·simp
  ·simp[h i hi]
theorem xe (a b:Nat) (ha:a<4611686018427387904) (hb:b<4611686018427387904):(bits .andNot .i64 (a:Int) (b:Int)==0)=inB a b:=by
 rw[AW a b ha hb];unfold inB;rw[Bool.eq_iff_iff,beq_iff_eq,beq_iff_eq];omega
def tZ (m i:Nat):List Nat:=(List.range i).filter (fun j=>m.testBit j)
def zs (l:List Nat):List Int:=l.map Int.ofNat
theorem af (l:List Nat):(zs l).length=l.length:=by simp[zs]
theorem gu (l:List Nat) (i:Nat) (h:i<(zs l).length):(zs l)[i]=((l[i]'(by simpa [zs] using h):Nat):Int):=by simp[zs]
theorem fD (l:List Nat) (x:Nat):zs (l++[x])=zs l++[(x:Int)]:=by simp[zs]
theorem Cu (m i:Nat):tZ m (i+1)=if m.testBit i then tZ m i++[i] else tZ m i:=by
 unfold tZ;rw[List.range_succ,List.filter_append]
 by_cases h:m.testBit i<;>simp[h]
def KE (m:Nat):List Nat:=tZ m 8
theorem bJ {b:List Nat} {i:Nat} (h:i<b.length):b.getD i 0=b[i]:=by simp[List.getD_eq_getElem?_getD,h]
theorem aV.zs_cell {w:World} {p:Option Addr} {n cap:Nat} {l:List Nat} (h:aV w (.slice p n cap) (zs l)) (i:Nat) (hi:i<l.length):
  ∃ b o,p=some ⟨b,o,none⟩∧w.cell? ⟨b,o+i,none⟩=some (.int .i64 ((l.getD i 0:Nat):Int)):=by
 obtain⟨_,_,e,_,_,eE,_⟩:=h
 cases e
 obtain⟨b,o,e,h1⟩:=eE.int i (by rw[af];exact hi);rw[gu,←bJ] at h1;exact⟨b,o,e,h1⟩
theorem qJ {n:Nat} (hn:n≤8):2^n≤256:=Nat.pow_le_pow_right qB hn
theorem xR (m i:Nat) (w:World) (hm:m<256) (hi:i≤8):Calls Tryz.prog 167 #[.int .i64 m,.int .i64 i] w fun e w'=>e=.returned (.bool (m.testBit i))∧w=w':=by
 go_enter Tryz.func167,Tryz.ntmps167;go_wp2;go_ret;exact⟨ab (JE m i qB),rfl⟩
theorem de (m i:Nat) (w:World) (hm:m<256) (hi:i≤8):Calls Tryz.prog 242 #[.int .i64 m,.int .i64 i] w fun e w'=>e=.returned (.bool (m.testBit i))∧w=w':=by
 go_enter Tryz.func242,Tryz.ntmps242;go_wp2;go_ret;exact⟨ab (JE m i qB),rfl⟩
theorem zB (a b:Nat) (w:World) (ha:a<256) (hb:b<256):Calls Tryz.prog 113 #[.int .i64 a,.int .i64 b] w fun e w'=>e=.returned (.bool (inB a b))∧w=w':=
 (AP a b w).mono (by rintro e w' ⟨rfl,rfl⟩;exact⟨ab (xe a b qB qB),rfl⟩)
def rR (b:List Nat) (m:Nat):Nat→Nat
 | 0=>0
 | k+1=>if m.testBit k then rR b m k ||| b.getD k 0 else rR b m k
def xN (b:List Nat) (l:List Nat):Nat:=l.foldl (fun acc i=>acc ||| b.getD i 0) 0
theorem zR (b l:List Nat) (x:Nat):xN b (l++[x])=xN b l ||| b.getD x 0:=by simp[xN,List.foldl_append]
theorem oe (b:List Nat) (m:Nat):∀ k,xN b (tZ m k)=rR b m k
 | 0=>rfl
 | k+1=>by
  rw[Cu,rR]
  split
  ·rw[zR,oe b m k]
  ·exact oe b m k
def img (b:List Nat) (m:Nat):Nat:=rR b m b.length
theorem vA {b:List Nat} {n:Nat} (h:∀ x∈b,x<2^n) (i:Nat):b.getD i 0<2^n:=by
 rw[zi]
 by_cases hi:i<b.length
 ·simp only[zn hi,Option.getD_some];exact h _ (zo hi)
 ·simp only[List.getElem?_eq_none (Nat.le_of_not_lt hi),Option.getD_none];exact Nat.two_pow_pos n
theorem DA {b:List Nat} {n:Nat} (h:∀ x∈b,x<2^n) (l:List Nat):xN b l<2^n:=by
 have:∀ (l:List Nat) (acc:Nat),acc<2^n→l.foldl (fun acc i=>acc ||| b.getD i 0) acc<2^n:=by
  intro l
  induction l with
  | nil=>intro acc h;exact h
  | cons x l ih=>intro acc eE;exact ih _ (Nat.or_lt_two_pow eE (vA h x))
 exact this l 0 (Nat.two_pow_pos n)
theorem Bg {b:List Nat} {n:Nat} (h:∀ x∈b,x<2^n) (m k:Nat):rR b m k<2^n:=by rw[←oe];exact DA h _
theorem ID {b:List Nat} {n:Nat} (h:∀ x∈b,x<2^n) (m:Nat):img b m<2^n:=Bg h m _
theorem vN (b:List Nat) (m:Nat) (v:Value) (w:World) (hv:aV w v (zs b)) (hb:b.length≤8) (x6:∀ x∈b,x<2^b.length) (hm:m<2^b.length):
  Calls Tryz.prog 243 #[v,.int .i64 m] w fun e w'=>e=.returned (.int .i64 (img b m))∧w=w':=by
 obtain⟨p,cap,rfl,KP,H9,H7,_⟩:=hv;unfold maxLen at H9;rw[af] at*;have h9:=qJ hb;have eE:=zv hm h9;have HB:=hid (fun i w2 (hi:i≤8)=>de m i w2 eE hi);have HL:=hid (fun k=>Bg (b:=b) x6 m k);have HG:=hid (vA (b:=b) x6);clear hm x6;go_enter Tryz.func243,Tryz.ntmps243;go_wp2
 go_loop [5,6] (fun o i'=>∃ i:Nat,i≤b.length∧i'=.int .i64 i∧o=.int .i64 (rR b m i)) (fun _ i=>b.length-(intOf i).toNat)
 case atStart=>exact⟨0,qB,rfl,rfl⟩
 case round=>
  obtain⟨i,hi,rfl,rfl⟩:=hrel
  by_cases x7:i<b.length
  ·obtain⟨b2,o2,rfl,h2⟩:=H7.int i (by rw[af];exact x7)
   rw[gu] at h2
   have x9:rR b m (i+1)=if m.testBit i then rR b m i ||| b.getD i 0 else rR b m i:=rfl
   rw[bJ x7] at x9;have H8:=orN (rR b m i) b[i] (zv (HL.out _) qB) (by rw[←bJ x7];exact zv (HG.out _) qB);have x8:(i:Int)<b.length:=qB;have HH:=hid (HB.out i w qB);have HO:=hid H8;clear H8;have HS:=hid x9;clear x9;clear H7;generalize b[i]=y at*
   cases hbit:m.testBit i
   ·rw[hbit] at HH HS
    clear hbit;go_wp2_with fail;refine HH.out.mono ?_;rintro e w' ⟨rfl,rfl⟩;go_wp2_with fail
    go_round
    case rel=>exact⟨i+1,qB,by go_num,by have h:=HS.out;simp only[Bool.false_eq_true,if_false] at h;rw[h]⟩
    case measure=>simp[intOf];omega
   ·rw[hbit] at HH HS
    clear hbit;go_wp2_with fail;refine HH.out.mono ?_;rintro e w' ⟨rfl,rfl⟩;go_wp2_with fail
    go_round
    case rel=>exact⟨i+1,qB,by go_num,by have h:=HS.out;simp only[if_true] at h;rw[h,HO.out]⟩
    case measure=>simp[intOf];omega
  ·have x8:¬(i:Int)<b.length:=qB
   obtain rfl:i=b.length:=qB;go_wp2;go_ret;exact⟨rfl,rfl⟩
theorem aI.cutI {w:World} {B g cap:Nat} {a:List Int} (h:aI w B (.slice (some ⟨g,0,none⟩) a.length cap) a) (k:Nat) (hk:k≤a.length):aI w B (.slice (some ⟨g,0,none⟩) k cap) (a.take k):=by
 rcases h with ⟨hl,⟨e,_⟩ | ⟨g',cap',cur,e,hb,hg,hn,hm,hs,ht⟩⟩
 ·cases e
 ·cases e
  refine⟨by simp[aO],.inr ⟨g,cap,cur,?_,hb,hg,?_,hm,hs,?_⟩⟩
  ·rw[List.length_take,Nat.min_eq_left hk]
  ·rw[List.length_take,Nat.min_eq_left hk];exact zx hk hn
  ·rw[List.length_take,Nat.min_eq_left hk,show aO (a.take k)=(aO a).take k by simp[aO,List.map_take],←ht,List.take_take,Nat.mul_one,Nat.mul_one,Nat.min_eq_left hk]
def zH:List Fm→Fm
 | []=>.imp .fls .fls
 | a::l=>l.foldl Fm.and a
def zL:List Fm→Fm
 | []=>.fls
 | a::l=>l.foldl Fm.or a
def sqF (A B:List Fm):Fm:=.imp (zH A) (zL B)
end
section
open Go.ChangeShapes Go.WideShapes Go.ChangeAt Go.RowKit Go.Deep
theorem own:ownKnob Tryz.prog.godebug=none:=qA
theorem Ge:laidOutB Tryz.prog=true:=qA
section
variable {H:Type} {enc:TypeId×Value→H}
theorem uk {W W':World} (hk:aa W W'):∀ (ts:List TypeId) (vs:List Value) (ds:List (DataW H)) (ps:List MemPlace),
  (∀ t∈ts,Tryz.prog.readableRec t=true∧t<Tryz.prog.types.size)→(∀ x∈ps,x.block<W.heap.size)→
  DataW.TrodAll enc Tryz.prog W 0 (fun _=>true) true ts vs ds ps→DataW.TrodAll enc Tryz.prog W' 0 (fun b=>decide (b<W.heap.size)) true ts vs ds ps:=by
 intro ts
 induction ts with
 | nil=>
  intro vs ds ps _ _ h
  cases vs<;>cases ds<;>simp[DataW.TrodAll] at h ⊢
  exact h
 | cons t ts ih=>
  intro vs ds ps hr eE h;obtain⟨v,vs',d,ds',p,q,rfl,rfl,rfl,h1,h2⟩:=trodAll_cons h;obtain⟨h9,x6⟩:=hr t (List.mem_cons_self ..);have g1:=Below.trod Ge h9 x6 h1 hk (fun x hx=>eE x (List.mem_append.2 (.inl hx)));have g2:=ih _ _ _ (fun t ht=>hr t (zw _ ht)) (fun x hx=>eE x (List.mem_append.2 (.inr hx))) h2;exact trodAll_cons_mk g1 g2
theorem Gf {f:Func} {s:ChangeSpec} {W W':World} {args:Array Value} {ds gs:List (DataW H)} {before:List MemPlace}
  (hW:DataW.Whole enc Tryz.prog f.params.toList s.vars false W args.toList ds gs before) (eE:s.vars=[])
  (h9:s.fn H (ds++gs)={ results:=[.lit (.bool true)],args:=ds }) (x6:f.resultTypes=#[4])
  (hr:∀ t∈f.params.toList,Tryz.prog.readableRec t=true∧t<Tryz.prog.types.size) (hk:aa W W'):
  s.post enc Tryz.prog f false true false false W args (.bool true) W':=by
 have hW':=hW;obtain⟨p,q,hA,hV,rfl,_,_⟩:=hW
 have x7:∀ x∈p,x.block<W.heap.size:=fun x hx=>hW'.lt x (List.mem_append.2 (.inl hx))
 refine⟨ds,gs,_,[],p,[],hW',?_,?_,?_,Below.frame hk _,fun h=>by cases h⟩
 ·rw[h9,x6]
  exact trodAll_cons_mk (shut_bool Tryz.underlying4 _) trodAll_mk0
 ·rw[h9]
  exact uk hk _ _ _ _ hr x7 hA
 ·rw[h9,eE]
  rfl
end
end
end Go.Proofs.YtagoboblkadelaaGreat
