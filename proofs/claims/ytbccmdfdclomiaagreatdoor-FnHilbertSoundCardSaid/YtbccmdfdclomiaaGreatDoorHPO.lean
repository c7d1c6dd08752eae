import Derived.Test.YtbccmdfdclomiaaGreatDoorHAX
import Derived.Sort.OwnSorted
import Derived.Sort.Grow
import Derived.Lib.OwnBridge
import Derived.Sort.Walk0
/- own -/
namespace Go.Proofs.YtbccmdfdclomiaaGreatDoor
set_option maxRecDepth 20000
set_option maxHeartbeats 2000000
section
open Go.RowKit
theorem tot_small {M:Nat}:∀ l:List Fm,(∀ t∈l,t.enc.length≤M)→tot (l.map Fm.enc)≤M*l.length:=by
 intro l
 induction l with
 | nil=>intro _;simp [tot]
 | cons a l ih=>
  intro h;have h1:=h a (by simp);have h2:=ih (fun t ht=>h t (by simp [ht]));simp only [List.map_cons,tot,List.length_cons,Nat.mul_succ];omega
def DrawUH (w:World) (e:Ending) (w':World):Prop:=∃ (L:Nat) (hv lv:Value) (G:List Fm) (ls:List Ln),e=.returned (.tuple #[.string (syS L),hv,lv])∧L≤12∧NdsL w' hv (G.map Fm.enc)∧G.length≤3∧LnL w' lv ls∧ls.length≤20∧(∀ x∈ls,x.a.length≤300)∧Keeps w w'
theorem drawUsedHypotheses_any (v:Value) (n:Nat) (w:World) (hv:Bts w v n) (hn:n≤4096):Calls Tryz.prog 6 #[v] w (DrawUH w):=by
 have HF:=hid (l01From_any v n w hv hn);obtain ⟨p,cap,rfl,_⟩:=hv;go_enter Tryz.func6,Tryz.ntmps6;go_wp2_with fail;refine HF.out.mono ?_;rintro e w1 ⟨B,rfl,hB,hs,k1⟩;clear HF;have hz:=hid k1.size;have HK:=hid k1;have HBB:=hid hB;clear k1 hB;go_wp2_with fail;refine (l13Drawn_any B w1 hs).mono ?_;rintro e w2 ⟨L,hv2,lv2,G,ls,rfl,hL,hy,hg2,hg3,hgl,hln,hll,hla,hd⟩
 have hk:Keeps w w2:=HK.out.touch hd.1 (fun i hi=>by
  rcases hi with rfl | hi
  ·exact HBB.out
  ·exact Nat.le_trans hz.out hi)
 have ht:=tot_small G hgl;have h1:NdsL w2 hv2 (G.map Fm.enc):=hy.ndsL (by simp;omega) (by omega);have h2:LnL w2 lv2 ls:=hln.lnl (by omega) (fun x hx=>Nat.le_trans (hla x hx) (by omega));have HR:=hid (show DrawUH w (.returned (.tuple #[.string (syS L),hv2,lv2])) w2 from ⟨L,hv2,lv2,G,ls,rfl,hL,h1,hg3,h2,hll,hla,hk⟩);obtain ⟨p2,n2,c2,rfl⟩:=NdsL.shapeL h1;obtain ⟨q2,d2,rfl,_⟩:=h2.shape;clear hy hln hd hk h1 h2 hla hgl hs ht;go_wp2_with fail
 go_ret3
 exact HR.out
def RetSt (w:World) (r:List ByteArray) (e:Ending) (w':World):Prop:=∃ v,e=.returned v∧OwnS w' w.heap.size v r∧Keeps w w'
def StrL (w:World) (v:Value) (xs:List (List ByteArray)):Prop:=SlC 1 (fun w f x=>Strs w (f 0) x) w v xs
theorem StrL.keeps {w w':World} {v:Value} {xs:List (List ByteArray)} (h:StrL w v xs) (k:Keeps w w'):StrL w' v xs:=
 SlC.keeps (R:=fun w f x=>Strs w (f 0) x) (fun _ _ _ _ k h=>Strs.keeps h k) h k
theorem StrL.get {w:World} {p:Option Addr} {n cap:Nat} {xs:List (List ByteArray)} (h:StrL w (.slice p n cap) xs) (i:Nat) (hi:i<xs.length):
  ∃ b off u,p=some ⟨b,off,none⟩∧w.cell? ⟨b,off+i,none⟩=some u∧Strs w u xs[i]:=by
 obtain ⟨p',cap',hv,h1,h2,h3,h4⟩:=h
 cases hv
 obtain ⟨b,off,f,hp,hc,hr⟩:=h4 i hi;exact ⟨b,off,f 0,hp,by simpa using hc 0 (by omega),hr⟩
theorem StrL.lit2 {w:World} {u u':Value} {x x':List ByteArray} (h:Strs w u x) (h':Strs w u' x'):StrL (w.alloc (.cells #[u,u'] 82)) (.slice (some ⟨w.heap.size,0,none⟩) 2 2) [x,x']:=
 SlC.lit (R:=fun w f x=>Strs w (f 0) x) (fun _ _ _ _ k h=>Strs.keeps h k) w _ [u,u'] [x,x'] rfl (by simp) (fun i h1 h2=>by
  simp at h1
  have hi:i=0∨i=1:=by omega
  rcases hi with rfl | rfl
  ·exact h
  ·exact h')
theorem growS_any (n:Nat) (w:World) (hn:n≤2147483648):
  Calls Tryz.prog 229 #[.slice none 0 0,.int .i64 n] w (RetSt w []):=by
 obtain ⟨i0,hi,hz0,hz1,hz2⟩:=info_parts infoS
 by_cases h0:0<n
 ·have hrun:=Lib.run_append_nil_zeros (P:=Tryz.prog) w 82 3 82 9 i0 _ .i64 .i64 Tryz.underlying82 Tryz.underlying3 hi hz0 n h0 (by rw [hz1];decide) (by omega) (by rw [hz2];omega)
  have hge:=grownCap_ge w n 0 9;have hle:=grownCap_le_maxLen w n 0 9 (by unfold maxLen;omega);unfold maxLen at hle
  have hown:OwnS (w.drew.alloc (.cells (Builtin.zeroCells (Value.string ⟨#[]⟩).cells n++Builtin.zeroCells (Value.string ⟨#[]⟩).cells (grownCap w n 0 9-n)) 9)) w.heap.size (.slice (some ⟨w.heap.size,0,none⟩) 0 (grownCap w n 0 9)) []:=by
   refine World.ownsRow_made w.drew _ _ (Nat.le_refl _) (by unfold maxLen;omega) ?_;rw [Array.size_append,zeroCells_size,zeroCells_size];simp [Value.cells];omega
  have hk:=((Keeps.refl w).drew).alloc (.cells (Builtin.zeroCells (Value.string ⟨#[]⟩).cells n++Builtin.zeroCells (Value.string ⟨#[]⟩).cells (grownCap w n 0 9-n)) 9);generalize w.drew.alloc (.cells (Builtin.zeroCells (Value.string ⟨#[]⟩).cells n++Builtin.zeroCells (Value.string ⟨#[]⟩).cells (grownCap w n 0 9-n)) 9)=w1 at hrun hown hk;generalize grownCap w n 0 9=c1 at*;have HR:=hid hrun;clear hrun;clear hz0 hz1 hz2 hi;go_enter Tryz.func229,Tryz.ntmps229
  go_wp2_with (at_builtin;refine Lib.wpList_append_run _ rfl _ _ _ _ rfl _ _ rfl rfl _ _ HR.out ?_)
  go_ret;exact ⟨_,rfl,hown,hk⟩
 ·obtain rfl:n=0:=by omega
  go_enter Tryz.func229,Tryz.ntmps229;go_wp2;go_ret;exact ⟨_,rfl,OwnS.nil _ _,Keeps.refl _⟩
theorem concatS_any (l:List (List ByteArray)) (v:Value) (w:World) (hv:StrL w v l) (hl:(fl l l.length).length≤2147483648):
  Calls Tryz.prog 198 #[v] w (RetSt w (fl l l.length)):=by
 have hv0:=hv;obtain ⟨p,cap,rfl,hle,hmx,hlen,_⟩:=hv;unfold maxLen at hmx;go_enter Tryz.func198,Tryz.ntmps198;go_wp2
 go_loop [3,11] (fun s i'=>∃ k:Nat,k≤l.length∧i'=.int .i64 k∧s=.int .i64 (fl l k).length) (fun _ i=>l.length-(intOf i).toNat)
 case atStart=>exact ⟨0,by omega,rfl,rfl⟩
 case round=>
  obtain ⟨k,hk,rfl,rfl⟩:=hrel;have hf:=fl_le l k
  by_cases hlt:k<l.length
  ·obtain ⟨b,off,u,rfl,h1,hu0⟩:=hv0.get k hlt
   obtain ⟨pu,capu,rfl,g1,g2,g3,g4⟩:=hu0.at;have hft:=fl_succ l k hlt;have hf2:=fl_le l (k+1)
   have hlen2:(fl l (k+1)).length=(fl l k).length+l[k].length:=by rw [hft];simp
   have hsum:(fl l k).length+l[k].length≤2147483648:=by omega
   have HL:=hid hlen2;clear hlen2 hft hf2;clear hv0;go_wp2
   go_round
   case rel=>exact ⟨k+1,by omega,by go_num,by rw [HL.out];go_num⟩
   case measure=>simp [intOf];omega
  ·obtain rfl:k=l.length:=by omega
   clear hf hk hlt
   go_wp2_with (go_at_call 229;refine (growS_any _ _ hl).mono ?_;rintro e w1 ⟨v1,rfl,hv1,k1⟩)
   go_loopw [6,27] (fun s i' wr=>∃ k:Nat,k≤l.length∧i'=.int .i64 k∧OwnS wr w.heap.size s (fl l k)∧Keeps w wr) (fun _ i _=>l.length-(intOf i).toNat)
   case atStart=>exact ⟨0,by omega,rfl,hv1,k1⟩
   case round=>
    obtain ⟨k,hk,rfl,hown,kw⟩:=hrel
    by_cases hlt:k<l.length
    ·obtain ⟨b,off,u,rfl,h1,hu⟩:=(hv0.keeps kw).get k hlt
     have hft:=fl_succ l k hlt;have hf2:=fl_le l (k+1)
     have hsum:(fl l k).length+l[k].length≤2147483648:=by
      have:(fl l (k+1)).length=(fl l k).length+l[k].length:=by rw [hft];simp
      omega
     have HF:=hid hft;clear hft hf2;clear hv0;have hsz:=kw.size
     go_wp2_with (at_builtin;refine appS rfl _ _ rfl w.heap.size _ _ rfl hown _ _ rfl hu hsz hsum ?_;intro v2 w2 hv2 hg2 hr2;have k2:Keeps w w2:=kw.grown hg2 hr2)
     go_roundw
     case rel=>exact ⟨k+1,by omega,by go_num,by rw [HF.out];exact hv2,k2⟩
     case measure=>simp [intOf];omega
    ·obtain rfl:k=l.length:=by omega
     go_wp2;go_ret;exact ⟨_,rfl,hown,kw⟩
end
section
open Go.RowKit Go.Sort
def mkS (b:List UInt8):ByteArray:=⟨b.toArray⟩
theorem bts_mkS (b:List UInt8):bts (mkS b)=b:=by simp [bts,mkS]
theorem enc_bts (s:ByteArray):encStr (bts s)=.string s:=by simp [encStr,bts]
theorem enc_mkS (b:List UInt8):Value.string (mkS b)=encStr b:=by simp [encStr,mkS]
theorem cells_enc (ss:List ByteArray):strCells ss=(ss.map bts).map encStr:=by
 simp [strCells,Function.comp_def,enc_bts]
def sortB (bs:List (List UInt8)):List (List UInt8):=Lib.compact (bs.mergeSort fun x y=>decide (x≤y))
def putL (ss tt:List ByteArray):List ByteArray:=(sortB ((ss++tt).map bts)).map mkS
theorem putL_cells (ss tt:List ByteArray):strCells (putL ss tt)=(sortB ((ss++tt).map bts)).map encStr:=by
 simp [putL,strCells,Function.comp_def,enc_mkS]
theorem sorted_own {w w1:World} {g cap n nn q:Nat} {os:Array Obj} {bs:List (List UInt8)} (hown:w1.ownsRow w.heap.size 9 1 (.slice (some ⟨g,0,none⟩) n cap) n (bs.map encStr)) (hbel:Keeps w w1) (hbg:w.heap.size≤g) (hlen:bs.length=n):
  let w2:=putRow encStr (Sort.ahead (grow (putRow encStr (Sort.ahead w1 nn) g 0 (bs.mergeSort fun x y=>decide (x≤y)).toArray) os) q) g 0 (sortB bs++List.replicate (n-(sortB bs).length) []).toArray
  w2.ownsRow w.heap.size 9 1 (.slice (some ⟨g,0,none⟩) (sortB bs).length cap) (sortB bs).length ((sortB bs).map encStr)∧Keeps w w2:=by
 have hl2:(bs.mergeSort fun x y=>decide (x≤y)).length=bs.length:=List.length_mergeSort bs;have hle:(sortB bs).length≤_:=Lib.compact_length_le (bs.mergeSort fun x y=>decide (x≤y));subst hlen
 rcases hown.2 with ⟨h0,_⟩ | ⟨g',cap',cur,hv,hbase,hb,h1,h2,h3,h4⟩
 ·cases h0
 cases hv
 have hs:=ownsRow_sorted (n:=nn) (os:=os) (ts:=bs.mergeSort fun x y=>decide (x≤y)) hl2 hbase hb h1 h2 h3;have hc:=Lib.ownsRow_putRow (q:=q) (k:=(sortB bs).length) (ys:=sortB bs++List.replicate (bs.length-(sortB bs).length) []) hs (by simp;omega) (by omega);rw [List.take_left] at hc;exact ⟨hc,Lib.below_putRow (Below.grown hbel (grownBy_sorted _) hbel.size (fun j hj=>by cases hj;exact hbase)) hbg⟩
theorem sorted_holds {w1:World} {B g cap n nn:Nat} {os:Array Obj} {bs:List (List UInt8)} (hown:w1.ownsRow B 9 1 (.slice (some ⟨g,0,none⟩) n cap) n (bs.map encStr)) (hlen:bs.length=n):
  Holds encStr (grow (putRow encStr (Sort.ahead w1 nn) g 0 (bs.mergeSort fun x y=>decide (x≤y)).toArray) os) g 0 (bs.mergeSort fun x y=>decide (x≤y)).toArray:=by
 have hl2:(bs.mergeSort fun x y=>decide (x≤y)).length=bs.length:=List.length_mergeSort bs;subst hlen
 rcases hown.2 with ⟨h0,_⟩ | ⟨g',cap',cur,hv,hbase,hb,h1,h2,h3,h4⟩
 ·cases h0
 cases hv
 have hs:=ownsRow_sorted (n:=nn) (os:=os) (ts:=bs.mergeSort fun x y=>decide (x≤y)) hl2 hbase hb h1 h2 h3;obtain ⟨g2,c2,e,_,_,_,_,_,hH⟩:=Lib.holds_of_ownsRow hs (by simp)
 cases e
 exact hH
def CompR (w:World) (bs:List (List UInt8)) (v1:Value) (w2:World):Prop:=
 Calls Tryz.prog 200 #[v1] w2 fun e w3=>∃ v',e=.returned v'∧OwnS w3 w.heap.size v' ((sortB bs).map mkS)∧Keeps w w3
theorem sortS_any (bs:List (List UInt8)) (v1:Value) (w w1:World) (hv1:OwnS w1 w.heap.size v1 (bs.map mkS)) (kw:Keeps w w1) (hbs:bs.length≤1000000000):
  Calls Tryz.prog 199 #[v1] w1 fun e w2=>e=.returned (.tuple #[])∧CompR w bs v1 w2:=by
 by_cases hn:v1=.slice none 0 0
 ·subst hn
  have h0:bs=[]:=by
   obtain ⟨p,c,e,_⟩:=At.of_own hv1;injection e with _ e2 _;have:=List.eq_nil_of_length_eq_zero e2.symm
   simpa using this
  subst h0;refine (Tryz.slices_Sort_string_none none 0 w1).mono ?_;rintro e w' ⟨rfl,rfl⟩;refine ⟨rfl,(Tryz.slices_Compact_string_empty none 0 _).mono ?_⟩;rintro e w' ⟨rfl,rfl⟩;exact ⟨_,rfl,(by simpa [sortB,Lib.compact,Lib.compactUpTo] using OwnS.nil _ _),kw⟩
 ·have hce:strCells (bs.map mkS)=bs.map encStr:=by simp [strCells,Function.comp_def,enc_mkS]
  have hown:w1.ownsRow w.heap.size 9 1 v1 bs.length (bs.map encStr):=by
   have:=hv1;unfold OwnS at this;rwa [hce,List.length_map] at this
  obtain ⟨g,cap,rfl,hbg,hgl,hncap,hcm,hlen,hH⟩:=Lib.holds_of_ownsRow hown hn;have hsort:=Tryz.slices_Sort_string g 0 cap bs w1 hH hgl (by omega);refine hsort.mono ?_;rintro e w2 ⟨rfl,nn,os,rfl⟩;refine ⟨rfl,?_⟩;have hH2:=sorted_holds (nn:=nn) (os:=os) hown rfl;have hlm:(bs.mergeSort fun x y=>decide (x≤y)).length=bs.length:=List.length_mergeSort bs;have hcomp:=Tryz.slices_Compact_string g 0 cap (bs.mergeSort fun x y=>decide (x≤y)) _ hH2 (by omega) (by omega);rw [hlm] at hcomp;refine hcomp.mono ?_;rintro e w3 ⟨rfl,q,rfl⟩;obtain ⟨ho,hk⟩:=sorted_own (w:=w) (nn:=nn) (q:=q) (os:=os) hown kw hbg rfl;refine ⟨_,rfl,?_,hk⟩;unfold OwnS;rw [List.length_map,show strCells ((sortB bs).map mkS)=(sortB bs).map encStr by simp [strCells,Function.comp_def,enc_mkS]];exact ho
end
section
open Go.RowKit
theorem range_getV (zs:List (List UInt8)):(List.range zs.length).map (zs.toArray[·]!)=zs:=by
 apply List.ext_getElem
 ·simp
 ·intro i h1 h2
  simp at h1
  simp [h1]
theorem compact_sub (zs:List (List UInt8)):(Lib.compact zs).Sublist zs:=by
 have h:((List.range zs.length).filter (Lib.keeps zs.toArray)).Sublist (List.range zs.length):=List.filter_sublist;have h2:=h.map (zs.toArray[·]!);rw [range_getV] at h2;exact h2
theorem mem_compact (zs:List (List UInt8)) (j:Nat) (hj:j<zs.length):zs.toArray[j]! ∈ Lib.compact zs:=by
 induction j with
 | zero=>exact List.mem_map.2 ⟨0,List.mem_filter.2 ⟨List.mem_range.2 hj,by simp [Lib.keeps]⟩,rfl⟩
 | succ j ih=>
  cases hk:Lib.keeps zs.toArray (j+1)
  ·have:zs.toArray[j+1]! = zs.toArray[j]! := by simpa [Lib.keeps] using hk
   rw [this];exact ih (by omega)
  ·exact List.mem_map.2 ⟨j+1,List.mem_filter.2 ⟨List.mem_range.2 hj,hk⟩,rfl⟩
theorem compact_iff (zs:List (List UInt8)) (x:List UInt8):x∈Lib.compact zs↔x∈zs:=by
 constructor
 ·exact fun h=>(compact_sub zs).subset h
 ·intro h
  obtain ⟨j,hj,rfl⟩:=List.getElem_of_mem h;have:=mem_compact zs j hj;rwa [getElem!_pos _ _ (by simpa using hj),List.getElem_toArray] at this
theorem sortB_iff (zs:List (List UInt8)) (x:List UInt8):x∈sortB zs↔x∈zs:=by
 rw [sortB,compact_iff];exact (List.mergeSort_perm zs _).mem_iff
theorem perm_pre {α β:Type} (f:α→β) {l m:List β} (h:l.Perm m):∀ K:List α,m=K.map f→∃ K':List α,K'.Perm K∧l=K'.map f:=by
 induction h with
 | nil=>intro K hK;exact ⟨[],by rw [List.map_eq_nil_iff.1 hK.symm],rfl⟩
 | cons x _ ih=>
  intro K hK
  cases K with
  | nil=>cases hK
  | cons a K=>
   injection hK with h1 h2;obtain ⟨K',hp,e⟩:=ih K h2;exact ⟨a::K',hp.cons a,by rw [List.map_cons,e,h1]⟩
 | swap x y l=>
  intro K hK
  match K,hK with
  | a::b::K,hK=>
   injection hK with h1 h2;injection h2 with h2 h3;exact ⟨b::a::K,List.Perm.swap a b K,by simp [h1,h2,h3]⟩
 | trans _ _ ih1 ih2=>
  intro K hK;obtain ⟨K1,hp1,e1⟩:=ih2 K hK;obtain ⟨K2,hp2,e2⟩:=ih1 K1 e1;exact ⟨K2,hp2.trans hp1,e2⟩
theorem put_txts {ss tt:List ByteArray} {G H:List Fm} (h:Txts ss G) (k:Txts tt H) (hG:∀ a∈G,a.wf) (hH:∀ a∈H,a.wf):
  ∃ R,Txts (putL ss tt) R∧(∀ a,a∈R↔a∈G∨a∈H)∧wts R≤wts G+wts H∧R.length≤G.length+H.length:=by
 have hb:(ss++tt).map bts=(G++H).map Fm.body:=h.append k;obtain ⟨K,hp,e⟩:=perm_pre Fm.body (List.mergeSort_perm ((ss++tt).map bts) fun x y=>decide (x≤y)) (G++H) hb;have hs:=compact_sub (((ss++tt).map bts).mergeSort fun x y=>decide (x≤y));rw [e] at hs;obtain ⟨R,hR,e2⟩:=List.sublist_map_iff.1 hs
 have hR0:(putL ss tt).map bts=R.map Fm.body:=by
  rw [←e2,←e];simp [putL,Function.comp_def,bts_mkS,sortB]
 refine ⟨R,hR0,fun a=>?_,?_,?_⟩
 ·constructor
  ·intro ha
   have:=hp.mem_iff.1 (hR.subset ha);exact List.mem_append.1 this
  ·intro ha
   have h1:a.body∈(G++H).map Fm.body:=List.mem_map.2 ⟨a,List.mem_append.2 ha,rfl⟩;rw [←hb,←sortB_iff,sortB,e,e2] at h1;obtain ⟨c,hc,e3⟩:=List.mem_map.1 h1;have hcw:c.wf:=(List.mem_append.1 (hp.mem_iff.1 (hR.subset hc))).elim (hG c) (hH c);have haw:a.wf:=ha.elim (hG a) (hH a);rwa [←body_inj hcw haw e3]
 ·have:=wts_sub hR
  rw [wts_perm hp,wts_append] at this;exact this
 ·have:=hR.length_le
  rw [hp.length_eq,List.length_append] at this;exact this
end
def Asc (l:List (List UInt8)):Prop:=l.Pairwise (· < ·)
theorem txt_irrefl (a:List UInt8):¬a<a:=List.lt_irrefl a
theorem txt_trans {a b c:List UInt8} (h:a<b) (k:b<c):a<c:=List.lt_trans h k
theorem txt_tri {a b:List UInt8} (h:¬a<b) (k:a≠b):b<a:=by
 rcases Std.lt_trichotomy (α:=List UInt8) a b with h1 | h1 | h1
 ·exact absurd h1 h
 ·exact absurd h1 k
 ·exact h1
theorem txt_le {a b:List UInt8}:a≤b↔¬b<a:=Iff.rfl
theorem sorted_le (bs:List (List UInt8)):(bs.mergeSort fun x y=>decide (x≤y)).Pairwise (· ≤ ·):=by
 have h:=List.pairwise_mergeSort (le:=fun x y:List UInt8=>decide (x≤y)) (fun a b c h1 h2=>by
  simp only [decide_eq_true_eq] at*
  exact Std.le_trans h1 h2) (fun a b=>by
  simp only [Bool.or_eq_true,decide_eq_true_eq]
  exact Std.le_total) bs
 exact h.imp (fun h=>by simpa using h)
theorem compact_asc {zs:List (List UInt8)} (h:zs.Pairwise (· ≤ ·)):Asc (Lib.compact zs):=by
 unfold Lib.compact Lib.compactUpTo Asc;rw [List.pairwise_map,List.pairwise_filter,List.pairwise_iff_getElem];intro i j hi hj hij;simp only [List.length_range] at hi hj;simp only [List.getElem_range];intro _ hk
 have hle:∀ p q,p≤q→q<zs.length→zs.toArray[p]! ≤ zs.toArray[q]! := fun p q hpq hq=>by
  rcases Nat.eq_or_lt_of_le hpq with e | e
  ·subst e;exact Std.le_refl _
  ·have:=List.pairwise_iff_getElem.1 h p q (by omega) hq e
   simpa [hq,show p<zs.length by omega] using this
 have h1:=hle i (j-1) (by omega) (by omega);have h3:=hle (j-1) j (by omega) hj
 have hne:zs.toArray[j]! ≠ zs.toArray[j-1]! := by
  unfold Lib.keeps at hk
  rcases of_decide_eq_true hk with e | e
  ·omega
  ·exact e
 have h4:=txt_tri (txt_le.1 h3) hne
 by_cases e:zs.toArray[i]! = zs.toArray[j-1]!
 ·rw [e];exact h4
 ·exact txt_trans (txt_tri (txt_le.1 h1) (Ne.symm e)) h4
theorem sortB_asc (bs:List (List UInt8)):Asc (sortB bs):=compact_asc (sorted_le bs)
def subs:Fm→List Fm
 | .var v=>[.var v]
 | .fls=>[.fls]
 | .and a b=>.and a b::(subs a++subs b)
 | .or a b=>.or a b::(subs a++subs b)
 | .imp a b=>.imp a b::(subs a++subs b)
 | .box a=>.box a::subs a
 | .dia a=>.dia a::subs a
theorem subs_len (t:Fm):(subs t).length=t.enc.length:=by
 induction t<;>simp [subs,Fm.enc, *]
theorem subs_self (t:Fm):t∈subs t:=by cases t<;>simp [subs]
theorem subs_wf {t:Fm} (h:t.wf):∀ x∈subs t,x.wf:=by
 induction t with
 | var v=>intro x hx;simp [subs] at hx;subst hx;exact h
 | fls=>intro x hx;simp [subs] at hx;subst hx;exact h
 | and a b ha hb=>intro x hx;simp [subs] at hx;rcases hx with rfl | hx | hx;exact h;exact ha h.1 x hx;exact hb h.2 x hx
 | or a b ha hb=>intro x hx;simp [subs] at hx;rcases hx with rfl | hx | hx;exact h;exact ha h.1 x hx;exact hb h.2 x hx
 | imp a b ha hb=>intro x hx;simp [subs] at hx;rcases hx with rfl | hx | hx;exact h;exact ha h.1 x hx;exact hb h.2 x hx
 | box a ha=>intro x hx;simp [subs] at hx;rcases hx with rfl | hx;exact h;exact ha h x hx
 | dia a ha=>intro x hx;simp [subs] at hx;rcases hx with rfl | hx;exact h;exact ha h x hx
theorem subs_le {t:Fm}:∀ x∈subs t,x.enc.length≤t.enc.length:=by
 induction t with
 | var v=>intro x hx;simp [subs] at hx;subst hx;exact Nat.le_refl _
 | fls=>intro x hx;simp [subs] at hx;subst hx;exact Nat.le_refl _
 | and a b ha hb=>intro x hx;simp [subs] at hx;simp only [Fm.enc,List.length_cons,List.length_append];rcases hx with rfl | hx | hx;simp only [Fm.enc,List.length_cons,List.length_append];omega;have:=ha x hx;omega;have:=hb x hx;omega
 | or a b ha hb=>intro x hx;simp [subs] at hx;simp only [Fm.enc,List.length_cons,List.length_append];rcases hx with rfl | hx | hx;simp only [Fm.enc,List.length_cons,List.length_append];omega;have:=ha x hx;omega;have:=hb x hx;omega
 | imp a b ha hb=>intro x hx;simp [subs] at hx;simp only [Fm.enc,List.length_cons,List.length_append];rcases hx with rfl | hx | hx;simp only [Fm.enc,List.length_cons,List.length_append];omega;have:=ha x hx;omega;have:=hb x hx;omega
 | box a ha=>intro x hx;simp [subs] at hx;simp only [Fm.enc,List.length_cons];rcases hx with rfl | hx;simp only [Fm.enc,List.length_cons];omega;have:=ha x hx;omega
 | dia a ha=>intro x hx;simp [subs] at hx;simp only [Fm.enc,List.length_cons];rcases hx with rfl | hx;simp only [Fm.enc,List.length_cons];omega;have:=ha x hx;omega
theorem subs_trans {t x:Fm} (h:x∈subs t):∀ y∈subs x,y∈subs t:=by
 induction t with
 | var v=>simp [subs] at h;subst h;exact fun y hy=>hy
 | fls=>simp [subs] at h;subst h;exact fun y hy=>hy
 | and a b ha hb=>
  simp [subs] at h
  rcases h with rfl | h | h
  ·exact fun y hy=>hy
  ·exact fun y hy=>(by simp [subs,ha h y hy])
  ·exact fun y hy=>(by simp [subs,hb h y hy])
 | or a b ha hb=>
  simp [subs] at h
  rcases h with rfl | h | h
  ·exact fun y hy=>hy
  ·exact fun y hy=>(by simp [subs,ha h y hy])
  ·exact fun y hy=>(by simp [subs,hb h y hy])
 | imp a b ha hb=>
  simp [subs] at h
  rcases h with rfl | h | h
  ·exact fun y hy=>hy
  ·exact fun y hy=>(by simp [subs,ha h y hy])
  ·exact fun y hy=>(by simp [subs,hb h y hy])
 | box a ha=>simp [subs] at h;rcases h with rfl | h;exact fun y hy=>hy;exact fun y hy=>by simp [subs,ha h y hy]
 | dia a ha=>simp [subs] at h;rcases h with rfl | h;exact fun y hy=>hy;exact fun y hy=>by simp [subs,ha h y hy]
theorem subs_at (t:Fm):∀ (i:Nat) (h:i<(subs t).length),∃ l r:List Nd,t.enc=l++((subs t)[i].enc++r)∧l.length=i:=by
 have two:∀ (n:Nd) (c a b:Fm),c.enc=n::(a.enc++b.enc)→subs c=c::(subs a++subs b)→
   (∀ (i:Nat) (h:i<(subs a).length),∃ l r:List Nd,a.enc=l++((subs a)[i].enc++r)∧l.length=i)→
   (∀ (i:Nat) (h:i<(subs b).length),∃ l r:List Nd,b.enc=l++((subs b)[i].enc++r)∧l.length=i)→
   ∀ (i:Nat) (h:i<(subs c).length),∃ l r:List Nd,c.enc=l++((subs c)[i].enc++r)∧l.length=i:=by
  intro n c a b hc hs ha hb i h
  cases i with
  | zero=>exact ⟨[],[],by simp [hs],rfl⟩
  | succ i=>
   have hg:(subs c)[i+1]=(subs a++subs b)[i]'(by rw [hs] at h;simpa using h):=by simp [hs]
   rw [hg]
   by_cases hi:i<(subs a).length
   ·obtain ⟨l,r,h1,h2⟩:=ha i hi
    refine ⟨n::l,r++b.enc,?_,by simp [h2]⟩;rw [hc,List.getElem_append_left hi]
    conv=>lhs;rw [h1]
    simp
   ·have hib:i-(subs a).length<(subs b).length:=by rw [hs] at h;simp at h;omega
    obtain ⟨l,r,h1,h2⟩:=hb (i-(subs a).length) hib;refine ⟨n::(a.enc++l),r,?_,by simp [h2,←subs_len a];omega⟩;rw [hc,List.getElem_append_right (by omega)]
    conv=>lhs;rw [h1]
    simp
 have one:∀ (n:Nd) (c a:Fm),c.enc=n::a.enc→subs c=c::subs a→
   (∀ (i:Nat) (h:i<(subs a).length),∃ l r:List Nd,a.enc=l++((subs a)[i].enc++r)∧l.length=i)→
   ∀ (i:Nat) (h:i<(subs c).length),∃ l r:List Nd,c.enc=l++((subs c)[i].enc++r)∧l.length=i:=by
  intro n c a hc hs ha i h
  cases i with
  | zero=>exact ⟨[],[],by simp [hs],rfl⟩
  | succ i=>
   have hg:(subs c)[i+1]=(subs a)[i]'(by rw [hs] at h;simpa using h):=by simp [hs]
   rw [hg];obtain ⟨l,r,h1,h2⟩:=ha i (by rw [hs] at h;simpa using h);refine ⟨n::l,r,?_,by simp [h2]⟩;rw [hc]
   conv=>lhs;rw [h1]
   simp
 induction t with
 | var v=>
  intro i h;obtain rfl:i=0:=by simpa [subs] using h
  exact ⟨[],[],by simp [subs],rfl⟩
 | fls=>
  intro i h;obtain rfl:i=0:=by simpa [subs] using h
  exact ⟨[],[],by simp [subs],rfl⟩
 | and a b ha hb=>exact two _ _ a b rfl rfl ha hb
 | or a b ha hb=>exact two _ _ a b rfl rfl ha hb
 | imp a b ha hb=>exact two _ _ a b rfl rfl ha hb
 | box a ha=>exact one _ _ a rfl rfl ha
 | dia a ha=>exact one _ _ a rfl rfl ha
def isEl:Fm→Bool
 | .var _=>true
 | .box _=>true
 | .dia _=>true
 | _=>false
def isMo:Fm→Bool
 | .box _=>true
 | .dia _=>true
 | _=>false
def isBx:Fm→Bool
 | .box _=>true
 | _=>false
def below:Fm→Fm
 | .box a=>a
 | .dia a=>a
 | t=>t
def valB (E:List Fm) (m:Nat):Fm→Bool
 | .fls=>false
 | .and a b=>valB E m a&&valB E m b
 | .or a b=>valB E m a||valB E m b
 | .imp a b=>!valB E m a||valB E m b
 | t=>m.testBit (E.idxOf t)
def mods (E:List Fm):List Nat:=(List.range E.length).filter fun i=>isMo (E.getD i .fls)
def bxB (E:List Fm) (i:Nat):Bool:=isBx (E.getD i .fls)
def innB (E:List Fm) (i m:Nat):Bool:=valB E m (below (E.getD i .fls))
def demB (E:List Fm) (i m:Nat):Bool:=m.testBit i==bxB E i
def meeB (E:List Fm) (i m:Nat):Bool:=innB E i m==bxB E i
def pasQ (L:Nat) (E:List Fm) (f t i:Nat):Bool:=
 !demB E i f||(if L=3∨L=5 then meeB E i t&&demB E i t else if L=4 then demB E i t else meeB E i t)
def pasB (L:Nat) (E:List Fm) (f t:Nat):Bool:=(mods E).all (pasQ L E f t)
def seeB (L:Nat) (E:List Fm) (f t:Nat):Bool:=
 if L=6 then (mods E).all fun i=>demB E i f==demB E i t
 else if L=7 then pasB L E f t&&pasB L E t f
 else if L=5 then pasB L E f t&&(mods E).any fun i=>demB E i t&&!demB E i f
 else pasB L E f t
def witB (L:Nat) (E:List Fm) (i f t:Nat):Bool:=seeB L E f t&&!meeB E i t&&(decide (L≠5)||demB E i t)
def alwB (L:Nat) (E:List Fm) (m:Nat):Bool:=!(decide (L=2∨L=4∨L=6))||(mods E).all fun i=>!demB E i m||meeB E i m
def surB (L:Nat) (E:List Fm) (N:Nat) (S:Nat→Bool) (m:Nat):Bool:=
 (decide (L≠1)||(List.range N).any fun t=>S t&&seeB L E m t)&&(mods E).all fun i=>demB E i m||(List.range N).any fun t=>S t&&witB L E i m t
theorem surB_mono {L:Nat} {E:List Fm} {N:Nat} {S T:Nat→Bool} (h:∀ t,t<N→S t=true→T t=true) {m:Nat} (hs:surB L E N S m=true):surB L E N T m=true:=by
 unfold surB at*
 have up:∀ Q:Nat→Bool,(List.range N).any (fun t=>S t&&Q t)=true→(List.range N).any (fun t=>T t&&Q t)=true:=by
  intro Q hq;rw [List.any_eq_true] at*;obtain ⟨t,ht,hb⟩:=hq;rw [Bool.and_eq_true] at hb;exact ⟨t,ht,by rw [Bool.and_eq_true];exact ⟨h t (List.mem_range.1 ht) hb.1,hb.2⟩⟩
 rw [Bool.and_eq_true] at*;obtain ⟨h1,h2⟩:=hs;refine ⟨?_,?_⟩
 ·rw [Bool.or_eq_true] at*
  exact h1.imp id (up _)
 ·rw [List.all_eq_true] at*
  intro i hi;have:=h2 i hi;rw [Bool.or_eq_true] at*;exact this.imp id (up _)
def SelfB (L:Nat) (E:List Fm) (N:Nat) (S:Nat→Bool):Prop:=∀ m,m<N→S m=true→alwB L E m=true∧surB L E N S m=true
noncomputable def liveB (L:Nat) (E:List Fm) (N m:Nat):Bool:=@decide (m<N∧∃ S,SelfB L E N S∧S m=true) (Classical.propDecidable _)
theorem live_iff {L:Nat} {E:List Fm} {N m:Nat}:liveB L E N m=true↔m<N∧∃ S,SelfB L E N S∧S m=true:=by unfold liveB;exact @decide_eq_true_iff _ (Classical.propDecidable _)
theorem live_self (L:Nat) (E:List Fm) (N:Nat):SelfB L E N (liveB L E N):=by
 intro m hm h;obtain ⟨_,S,hS,hs⟩:=live_iff.1 h;obtain ⟨h1,h2⟩:=hS m hm hs;exact ⟨h1,surB_mono (fun t ht hst=>live_iff.2 ⟨ht,S,hS,hst⟩) h2⟩
theorem live_max {L:Nat} {E:List Fm} {N:Nat} {S:Nat→Bool} (h:SelfB L E N S) {m:Nat} (hm:m<N) (hs:S m=true):liveB L E N m=true:=live_iff.2 ⟨hm,S,h,hs⟩
theorem live_stays {L:Nat} {E:List Fm} {N:Nat} {S:Nat→Bool} (h:∀ t,t<N→liveB L E N t=true→S t=true) {m:Nat} (hm:m<N) (hl:liveB L E N m=true):surB L E N S m=true:=
 surB_mono h (live_self L E N m hm hl).2
theorem live_alw {L:Nat} {E:List Fm} {N m:Nat} (hm:m<N) (hl:liveB L E N m=true):alwB L E m=true:=(live_self L E N m hm hl).1
theorem live_eq {L:Nat} {E:List Fm} {N:Nat} {S:Nat→Bool} (h:∀ t,t<N→liveB L E N t=true→S t=true) (hS:SelfB L E N S) {m:Nat} (hm:m<N):S m=liveB L E N m:=by
 rw [Bool.eq_iff_iff];exact ⟨live_max hS hm,h m hm⟩
def Fine (G:List Fm):Prop:=∀ a∈G,a.wf∧a.enc.length≤40
def subG (G:List Fm):List Fm:=G.flatMap subs
theorem subG_fine {G:List Fm} (h:Fine G):Fine (subG G):=by
 intro x hx;obtain ⟨a,ha,hx⟩:=List.mem_flatMap.1 hx;exact ⟨subs_wf (h a ha).1 x hx,Nat.le_trans (subs_le x hx) (h a ha).2⟩
def subT (G:List Fm):List ByteArray:=(sortB ((subG G).map Fm.body)).map mkS
theorem subT_bts (G:List Fm):(subT G).map bts=sortB ((subG G).map Fm.body):=by
 unfold subT;rw [List.map_map]
 conv=>rhs;rw [←List.map_id (sortB _)]
 apply List.map_congr_left;intro b _;exact bts_mkS b
theorem subT_asc (G:List Fm):Asc ((subT G).map bts):=by rw [subT_bts];exact sortB_asc _
theorem subT_body {G:List Fm} {z:List UInt8}:z∈(subT G).map bts↔∃ x∈subG G,z=x.body:=by
 rw [subT_bts,sortB_iff,List.mem_map];exact ⟨fun ⟨x,h1,h2⟩=>⟨x,h1,h2.symm⟩,fun ⟨x,h1,h2⟩=>⟨x,h1,h2.symm⟩⟩
theorem subT_tx {G:List Fm} (hG:Fine G) {s:ByteArray} (h:s∈subT G):∃ t,t∈subG G∧IsTx s t:=by
 obtain ⟨x,hx,he⟩:=subT_body.1 (List.mem_map_of_mem (f:=bts) h);exact ⟨x,hx,(subG_fine hG x hx).1,he,(subG_fine hG x hx).2⟩
noncomputable def txF (s:ByteArray):Fm:=@dite _ (∃ t,IsTx s t) (Classical.propDecidable _) (fun h=>Classical.choose h) (fun _=>.fls)
theorem txF_eq {s:ByteArray} {t:Fm} (h:IsTx s t):txF s=t:=by
 unfold txF;rw [dif_pos ⟨t,h⟩];exact (Classical.choose_spec (⟨t,h⟩:∃ t,IsTx s t)).inj h
theorem txF_tx {s:ByteArray} (h:∃ t,IsTx s t):IsTx s (txF s):=by
 obtain ⟨t,ht⟩:=h;rw [txF_eq ht];exact ht
noncomputable def elT (G:List Fm):List ByteArray:=(subT G).filter fun s=>isEl (txF s)
noncomputable def elF (G:List Fm):List Fm:=(elT G).map txF
theorem elT_tx {G:List Fm} (hG:Fine G) {s:ByteArray} (h:s∈elT G):IsTx s (txF s):=by
 obtain ⟨t,_,ht⟩:=subT_tx hG (List.mem_filter.1 h).1;exact txF_tx ⟨t,ht⟩
theorem elF_len (G:List Fm):(elF G).length=(elT G).length:=by simp [elF]
theorem elF_get {G:List Fm} {i:Nat} (h:i<(elF G).length):(elF G)[i]=txF ((elT G)[i]'(by rw [elF_len] at h;exact h)):=by simp [elF]
theorem elF_fine {G:List Fm} (hG:Fine G):Fine (elF G):=by
 intro x hx;obtain ⟨s,hs,rfl⟩:=List.mem_map.1 hx;exact ⟨(elT_tx hG hs).1,(elT_tx hG hs).2.2⟩
theorem elF_mem {G:List Fm} (hG:Fine G) {x:Fm}:x∈elF G↔x∈subG G∧isEl x=true:=by
 constructor
 ·intro h
  obtain ⟨s,hs,rfl⟩:=List.mem_map.1 h;have h1:=List.mem_filter.1 hs;obtain ⟨t,ht,htx⟩:=subT_tx hG h1.1;have h2:=h1.2;rw [txF_eq htx] at h2 ⊢;exact ⟨ht,h2⟩
 ·rintro ⟨h1,h2⟩
  have h3:=(subT_body (G:=G)).2 ⟨x,h1,rfl⟩;obtain ⟨s,hs,he⟩:=List.mem_map.1 h3;have htx:IsTx s x:=⟨(subG_fine hG x h1).1,he,(subG_fine hG x h1).2⟩;refine List.mem_map.2 ⟨s,List.mem_filter.2 ⟨hs,?_⟩,txF_eq htx⟩;rw [txF_eq htx];exact h2
noncomputable def okAt (ss:List ByteArray) (i:Nat):Bool:=isTx (ss.getD i ⟨#[]⟩)&&(i==0||decide (bts (ss.getD (i-1) ⟨#[]⟩)<bts (ss.getD i ⟨#[]⟩)))
noncomputable def sideB (ss:List ByteArray):Bool:=(List.range ss.length).all (okAt ss)
def Side (ss:List ByteArray):Prop:=(∀ s∈ss,∃ t,IsTx s t)∧Asc (ss.map bts)
theorem side_of {ss:List ByteArray} (h:sideB ss=true):Side ss:=by
 unfold sideB at h;rw [List.all_eq_true] at h
 have h1:∀ i,i<ss.length→okAt ss i=true:=fun i hi=>h i (List.mem_range.2 hi)
 have hg:∀ i (hi:i<ss.length),ss.getD i ⟨#[]⟩=ss[i]:=fun i hi=>by rw [List.getD_eq_getElem?_getD,List.getElem?_eq_getElem hi];rfl
 refine ⟨fun s hs=>?_,?_⟩
 ·obtain ⟨i,hi,rfl⟩:=List.getElem_of_mem hs
  have:=h1 i hi;unfold okAt at this;rw [Bool.and_eq_true,hg i hi] at this;exact isTx_iff.1 this.1
 ·have step:∀ i,i+1<ss.length→bts (ss.getD i ⟨#[]⟩)<bts (ss.getD (i+1) ⟨#[]⟩):=fun i hi=>by
   have:=h1 (i+1) hi;unfold okAt at this;rw [Bool.and_eq_true,Bool.or_eq_true] at this
   rcases this.2 with e | e
   ·simp at e
   ·simpa using of_decide_eq_true e
  have far:∀ d i,i+d+1<ss.length→bts (ss.getD i ⟨#[]⟩)<bts (ss.getD (i+d+1) ⟨#[]⟩):=by
   intro d
   induction d with
   | zero=>intro i hi;exact step i hi
   | succ d ih=>intro i hi;exact txt_trans (ih i (by omega)) (step (i+d+1) hi)
  unfold Asc;rw [List.pairwise_iff_getElem];intro i j hi hj hij;simp only [List.length_map] at hi hj;have:=far (j-i-1) i (by omega);rw [show i+(j-i-1)+1=j by omega,hg i hi,hg j hj] at this
  simpa using this
noncomputable def isQ (ss tt:List ByteArray):Bool:=decide (ss.length≤16)&&decide (tt.length≤16)&&sideB ss&&sideB tt
theorem isQ_iff {ss tt:List ByteArray} (h:isQ ss tt=true):ss.length≤16∧tt.length≤16∧Side ss∧Side tt:=by
 unfold isQ at h;rw [Bool.and_eq_true,Bool.and_eq_true,Bool.and_eq_true,decide_eq_true_eq,decide_eq_true_eq] at h;exact ⟨h.1.1.1,h.1.1.2,side_of h.1.2,side_of h.2⟩
noncomputable def fmL (ss:List ByteArray):List Fm:=ss.map txF
theorem fmL_len (ss:List ByteArray):(fmL ss).length=ss.length:=by simp [fmL]
theorem fmL_fine {ss:List ByteArray} (h:Side ss):Fine (fmL ss):=by
 intro x hx;obtain ⟨s,hs,rfl⟩:=List.mem_map.1 hx;have:=txF_tx (h.1 s hs);exact ⟨this.1,this.2.2⟩
theorem fmL_append (ss tt:List ByteArray):fmL (ss++tt)=fmL ss++fmL tt:=by simp [fmL]
theorem Fine.append {G H:List Fm} (h:Fine G) (k:Fine H):Fine (G++H):=fun a ha=>(List.mem_append.1 ha).elim (h a) (k a)
end Go.Proofs.YtbccmdfdclomiaaGreatDoor
