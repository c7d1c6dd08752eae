import Derived.Test.YtbccmdfdclomiaaGreatDoorHW4
import Derived.Lib.AppendZeros
/- own -/
namespace Go.Proofs.YtbccmdfdclomiaaGreatDoor
set_option maxRecDepth 20000
set_option maxHeartbeats 1000000
open Go.RowKit
theorem zeroCells_size (n:Nat) (z:Array Value):(Builtin.zeroCells z n).size=n*z.size:=by simp [Builtin.zeroCells]
theorem growN_any (n:Nat) (w:World) (hn:n≤2147483648):
  Calls Tryz.prog 157 #[.slice none 0 0,.int .i64 n] w (RetN w []):=by
 obtain ⟨i0,hi,hz0,hz1,hz2⟩:=info_parts infoN
 by_cases h0:0<n
 ·have hrun:=Lib.run_append_nil_zeros (P:=Tryz.prog) w 34 3 34 74 i0 _ .i64 .i64 Tryz.underlying34 Tryz.underlying3 hi hz0 n h0 (by rw [hz1];decide) (by omega) (by rw [hz2];omega)
  have hge:=grownCap_ge w n 0 74;have hle:=grownCap_le_maxLen w n 0 74 (by unfold maxLen;omega);unfold maxLen at hle
  have hown:OwnN (w.drew.alloc (.cells (Builtin.zeroCells (Value.agg #[.int .i64 0,.int .i64 0]).cells n++Builtin.zeroCells (Value.agg #[.int .i64 0,.int .i64 0]).cells (grownCap w n 0 74-n)) 74)) w.heap.size (.slice (some ⟨w.heap.size,0,none⟩) 0 (grownCap w n 0 74)) []:=by
   refine World.ownsRow_made w.drew _ _ (Nat.le_refl _) (by unfold maxLen;omega) ?_;rw [Array.size_append,zeroCells_size,zeroCells_size];simp [Value.cells];omega
  have hk:=((Keeps.refl w).drew).alloc (.cells (Builtin.zeroCells (Value.agg #[.int .i64 0,.int .i64 0]).cells n++Builtin.zeroCells (Value.agg #[.int .i64 0,.int .i64 0]).cells (grownCap w n 0 74-n)) 74);generalize w.drew.alloc (.cells (Builtin.zeroCells (Value.agg #[.int .i64 0,.int .i64 0]).cells n++Builtin.zeroCells (Value.agg #[.int .i64 0,.int .i64 0]).cells (grownCap w n 0 74-n)) 74)=w1 at hrun hown hk;generalize grownCap w n 0 74=c1 at*;have HR:=hid hrun;clear hrun;clear hz0 hz1 hz2 hi;go_enter Tryz.func157,Tryz.ntmps157
  go_wp2_with (at_builtin;refine Lib.wpList_append_run _ rfl _ _ _ _ rfl _ _ rfl rfl _ _ HR.out ?_)
  go_ret;exact ⟨_,rfl,hown,hk⟩
 ·obtain rfl:n=0:=by omega
  go_enter Tryz.func157,Tryz.ntmps157;go_wp2;go_ret;exact ⟨_,rfl,OwnN.nil _ _,Keeps.refl _⟩
def fl {α:Type} (l:List (List α)) (k:Nat):List α:=(l.take k).flatten
theorem fl_succ {α:Type} (l:List (List α)) (k:Nat) (h:k<l.length):fl l (k+1)=fl l k++l[k]:=by
 unfold fl;rw [List.take_succ_eq_append_getElem h,List.flatten_append];simp
theorem fl_le {α:Type} (l:List (List α)) (k:Nat):(fl l k).length≤(fl l l.length).length:=by
 unfold fl;rw [List.take_length]
 conv=>rhs;rw [←List.take_append_drop k l]
 simp only [List.flatten_append,List.length_append];omega
theorem fl_all {α:Type} (l:List (List α)):fl l l.length=l.flatten:=by unfold fl;rw [List.take_length]
theorem concatN_any (l:List (List Nd)) (v:Value) (w:World) (hv:NdsL w v l) (hl:(fl l l.length).length≤2147483648):
  Calls Tryz.prog 124 #[v] w (RetN w (fl l l.length)):=by
 have hv0:=hv;obtain ⟨p,cap,rfl,hle,hmx,hlen,_⟩:=hv;unfold maxLen at hmx;go_enter Tryz.func124,Tryz.ntmps124;go_wp2
 go_loop [3,11] (fun s i'=>∃ k:Nat,k≤l.length∧i'=.int .i64 k∧s=.int .i64 (fl l k).length) (fun _ i=>l.length-(intOf i).toNat)
 case atStart=>exact ⟨0,by omega,rfl,rfl⟩
 case round=>
  obtain ⟨k,hk,rfl,rfl⟩:=hrel;have hf:=fl_le l k
  by_cases hlt:k<l.length
  ·obtain ⟨b,off,u,rfl,h1,pu,capu,rfl,g1,g2,g3,g4⟩:=hv0.get k hlt
   have hft:=fl_succ l k hlt;have hf2:=fl_le l (k+1)
   have hlen2:(fl l (k+1)).length=(fl l k).length+l[k].length:=by rw [hft];simp
   have hsum:(fl l k).length+l[k].length≤2147483648:=by omega
   have HL:=hid hlen2;clear hlen2 hft hf2;clear hv0;go_wp2
   go_round
   case rel=>exact ⟨k+1,by omega,by go_num,by rw [HL.out];go_num⟩
   case measure=>simp [intOf];omega
  ·obtain rfl:k=l.length:=by omega
   clear hf hk hlt
   go_wp2_with (go_at_call 157;refine (growN_any _ _ hl).mono ?_;rintro e w1 ⟨v1,rfl,hv1,k1⟩)
   go_loopw [6,27] (fun s i' wr=>∃ k:Nat,k≤l.length∧i'=.int .i64 k∧OwnN wr w.heap.size s (fl l k)∧Keeps w wr) (fun _ i _=>l.length-(intOf i).toNat)
   case atStart=>exact ⟨0,by omega,rfl,hv1,k1⟩
   case round=>
    obtain ⟨k,hk,rfl,hown,kw⟩:=hrel
    by_cases hlt:k<l.length
    ·obtain ⟨b,off,u,rfl,h1,hu⟩:=(hv0.keeps kw).get k hlt
     have hft:=fl_succ l k hlt;have hf2:=fl_le l (k+1)
     have hsum:(fl l k).length+l[k].length≤2147483648:=by
      have:(fl l (k+1)).length=(fl l k).length+l[k].length:=by rw [hft];simp
      omega
     have HF:=hid hft;clear hft hf2;clear hv0;have hsz:=kw.size
     go_wp2_with (at_builtin;refine appN rfl _ _ rfl w.heap.size _ _ rfl hown _ _ rfl hu hsz hsum ?_;intro v2 w2 hv2 hg2 hr2;have k2:Keeps w w2:=kw.grown hg2 hr2)
     go_roundw
     case rel=>exact ⟨k+1,by omega,by go_num,by rw [HF.out];exact hv2,k2⟩
     case measure=>simp [intOf];omega
    ·obtain rfl:k=l.length:=by omega
     go_wp2;go_ret;exact ⟨_,rfl,hown,kw⟩
theorem falsum_any (w:World):Calls Tryz.prog 280 #[] w (RetN w Fm.fls.enc):=by
 go_enter Tryz.func280,Tryz.ntmps280;go_wp2;go_ret;exact ⟨_,rfl,OwnN.lit1 w ⟨1,0⟩,(Keeps.refl w).alloc _⟩
theorem join_any (k:Int) (a b:List Nd) (va vb:Value) (w:World) (hva:Nds w va a) (hvb:Nds w vb b) (hl:1+a.length+b.length≤2147483648):
  Calls Tryz.prog 119 #[.int .i64 k,va,vb] w (RetN w (⟨k,0⟩::(a++b))):=by
 obtain ⟨pa,na,ca,rfl⟩:=hva.shape;obtain ⟨pb,nb,cb,rfl⟩:=hvb.shape;have k1:=(Keeps.refl w).alloc (.cells #[.int .i64 k,.int .i64 0] 74);have h1:=(OwnN.lit1 w ⟨k,0⟩).nds (by simp);have h2:=NdsL.lit3N (N:=w.heap.size+1) (by simp) h1 (hva.keeps k1) (hvb.keeps k1);have k2:=k1.alloc (.cells #[.slice (some ⟨w.heap.size,0,none⟩) 1 1,.slice pa na ca,.slice pb nb cb] 34)
 have hfl:fl [[⟨k,0⟩],a,b] [[⟨k,0⟩],a,b].length=⟨k,0⟩::(a++b):=by simp [fl]
 have hfl2:(fl [[⟨k,0⟩],a,b] [[(⟨k,0⟩:Nd)],a,b].length).length≤2147483648:=by rw [hfl];simp;omega
 have hc:=concatN_any _ _ _ h2 hfl2;rw [hfl] at hc;have HC:=hid hc;clear hfl2 h1 h2 hfl hc;go_enter Tryz.func119,Tryz.ntmps119
 go_wp2_with (go_at_call 124;go_must (refine HC.out.mono ?_);rintro e w3 ⟨v3,rfl,hv3,k3⟩)
 go_ret;exact ⟨_,rfl,hv3.mono k2.size,k2.trans k3⟩
theorem negation_any (t:Fm) (v:Value) (w:World) (hv:Nds w v t.enc) (hl:t.enc.length≤1073741824):
  Calls Tryz.prog 271 #[v] w (RetN w (Fm.not t).enc):=by
 go_enter Tryz.func271,Tryz.ntmps271
 go_wp2_with (first | (go_at_call 280;refine (falsum_any _).mono ?_;rintro e w1 ⟨v1,rfl,hv1,k1⟩) | (go_at_call 119;refine (join_any _ _ _ _ _ _ (hv.keeps k1) (hv1.nds (by simp [Fm.enc])) (by simp [Fm.enc];omega)).mono ?_;rintro e w2 ⟨v2,rfl,hv2,k2⟩))
 go_ret;exact ⟨_,rfl,hv2.mono k1.size,k1.trans k2⟩
theorem indexFuncL (pr:List Nd→Bool) (f:FuncId) (cp:Array Value) (a:List (List Nd)) (v:Value) (w:World) (hv:NdsL w v a) (hcf:Enters f)
  (hf:∀ x u w1,x∈a→Keeps w w1→Nds w1 u x→Calls Tryz.prog f (#[u]++cp) w1 fun e w2=>e=.returned (.bool (pr x))∧Keeps w1 w2):
  Calls Tryz.prog 147 #[v,.func (.func f) #[] cp] w fun e w'=>e=.returned (.int .i64 (idxOf pr a 0))∧Keeps w w':=by
 have hv0:=hv;obtain ⟨p,cap,rfl,hle,hmx,hlen,_⟩:=hv;unfold maxLen at hmx;have HF:=hid hf;clear hf
 have hcf':∀ args w,(callFunc f args).run Tryz.prog w=.ok (.enter f args) w:=hcf
 clear hcf;go_enter Tryz.func147,Tryz.ntmps147;go_wp2
 go_loopw [4,8] (fun r i' wr=>∃ k:Nat,k≤a.length∧idxOf pr a 0=idxOf pr (a.drop k) k∧Keeps w wr∧i'=.int .i64 k∧r=.int .i64 0) (fun _ i _=>a.length-(intOf i).toNat)
 case atStart=>exact ⟨0,by omega,by simp,Keeps.refl w,rfl,rfl⟩
 case round=>
  obtain ⟨k,hk,hs,kw,rfl,rfl⟩:=hrel;have Hs:=hid hs;clear hs
  by_cases hlt:k<a.length
  ·obtain ⟨b,off,u,rfl,h1,hu⟩:=(hv0.keeps kw).get k hlt
   have hd:=hid (idxOf_drop pr a k hlt);clear hv0
   cases hp:pr a[k]
   all_goals
    have Hp:=hid hp;clear hp
    go_wp2_with ((with_reducible refine (HF.out a[k] u wr (List.getElem_mem hlt) kw hu).mono ?_);rintro e w2 ⟨rfl,k2⟩;rw [Hp.out])
   ·go_roundw
    case rel=>exact ⟨k+1,by omega,by rw [Hs.out,hd.out,Hp.out];rfl,kw.trans k2,by go_num,rfl⟩
    case measure=>simp [intOf];omega
   ·go_ret
    exact ⟨ret_int (by rw [Hs.out,hd.out,Hp.out];rfl),kw.trans k2⟩
  ·go_wp2
   go_ret;exact ⟨ret_int (by rw [Hs.out,idxOf_end _ _ _ (by omega)]),kw⟩
theorem containsFuncL (pr:List Nd→Bool) (f:FuncId) (cp:Array Value) (a:List (List Nd)) (v:Value) (w:World) (hv:NdsL w v a) (hcf:Enters f)
  (hf:∀ x u w1,x∈a→Keeps w w1→Nds w1 u x→Calls Tryz.prog f (#[u]++cp) w1 fun e w2=>e=.returned (.bool (pr x))∧Keeps w1 w2):
  Calls Tryz.prog 114 #[v,.func (.func f) #[] cp] w fun e w'=>e=.returned (.bool (a.any pr))∧Keeps w w':=by
 have H:=hid (indexFuncL pr f cp a v w hv hcf hf);clear hv hf hcf;have he:=hid (idxOf_any pr a 0);go_enter Tryz.func114,Tryz.ntmps114
 go_wp2_with (go_at_call 147;refine H.out.mono ?_;rintro e w2 ⟨rfl,k2⟩)
 go_ret;exact ⟨ret_bool he.out,k2⟩
theorem areFormulas_1_any (x:List Nd) (u:Value) (w:World) (hu:Nds w u x):Calls Tryz.prog 115 #[u] w fun e w'=>e=.returned (.bool (!isFm x))∧Keeps w w':=by
 go_enter Tryz.func115,Tryz.ntmps115
 go_wp2_with (go_at_call 116;refine (isFormula_any x _ _ hu).mono ?_;rintro e w' ⟨rfl,k1⟩)
 go_ret;exact ⟨rfl,k1⟩
theorem enters_areFormulas_1:Enters 115:=fun _ _=>by kernel_rfl
def allFm (l:List (List Nd)):Bool:=!(l.any fun x=>!isFm x)
theorem areFormulas_any (l:List (List Nd)) (v:Value) (w:World) (hv:NdsL w v l):
  Calls Tryz.prog 86 #[v] w fun e w'=>e=.returned (.bool (allFm l))∧Keeps w w':=by
 go_enter Tryz.func86,Tryz.ntmps86
 go_wp2_with (go_at_call 114;refine (containsFuncL (fun x=>!isFm x) _ #[] l _ _ hv enters_areFormulas_1 (fun x u w1 _ _ hu=>areFormulas_1_any x u w1 hu)).mono ?_;rintro e w1 ⟨rfl,k1⟩)
 go_ret;exact ⟨rfl,k1⟩
theorem plainCode_1_any (x:List Nd) (u:Value) (w:World) (hu:Nds w u x):Calls Tryz.prog 128 #[u] w fun e w'=>e=.returned (.bool (!plainL x))∧Keeps w w':=by
 go_enter Tryz.func128,Tryz.ntmps128
 go_wp2_with (go_at_call 129;refine (isPlain_any x _ _ hu).mono ?_;rintro e w' ⟨rfl,k1⟩)
 go_ret;exact ⟨rfl,k1⟩
theorem enters_plainCode_1:Enters 128:=fun _ _=>by kernel_rfl
def allPlainL (l:List (List Nd)):Bool:=l.any fun x=>!plainL x
def plainErrs (l:List (List Nd)):Int:=if allFm l then (if allPlainL l then 5 else 0) else 1
theorem plainCode_any (l:List (List Nd)) (v:Value) (w:World) (hv:NdsL w v l):
  Calls Tryz.prog 95 #[v] w fun e w'=>e=.returned (.int .i64 (plainErrs l))∧Keeps w w':=by
 have h1:=areFormulas_any l v w hv
 have h2:=fun w1 (k:Keeps w w1)=>containsFuncL (fun x=>!plainL x) _ #[] l v w1 (hv.keeps k) enters_plainCode_1 (fun x u w1 _ _ hu=>plainCode_1_any x u w1 hu)
 have h2':∀ w1 (k:Keeps w w1),Calls Tryz.prog 114 #[v,.func (.func 128) #[] #[]] w1 fun e w'=>e=.returned (.bool (allPlainL l))∧Keeps w1 w':=h2
 clear h2
 cases hf:allFm l<;>cases hp:allPlainL l<;>rw [hf] at h1<;>rw [hp] at h2'
 all_goals
  have Hf:=hid hf;clear hf;have Hp:=hid hp;clear hp;have H1:=hid h1;clear h1;have H2:=hid h2';clear h2';go_enter Tryz.func95,Tryz.ntmps95
  go_wp2_with (first | (go_at_call 86;refine H1.out.mono ?_;rintro e w1 ⟨rfl,k1⟩) | (go_at_call 114;refine (H2.out _ k1).mono ?_;rintro e w2 ⟨rfl,k2⟩))
  go_ret;refine ⟨ret_int (by simp [plainErrs,Hf.out,Hp.out]),?_⟩
  first | exact k1.trans k2 | exact k1
theorem l02Pre_any (k:Int) (a:List Nd) (va:Value) (w:World) (hva:Nds w va a) (hl:1+a.length≤2147483648):
  Calls Tryz.prog 83 #[.int .i64 k,va] w (RetN w (⟨k,0⟩::a)):=by
 go_enter Tryz.func83,Tryz.ntmps83;have h1:=OwnN.lit1 w ⟨k,0⟩;have k1:=(Keeps.refl w).alloc (.cells #[.int .i64 k,.int .i64 0] 74);have ha1:=hva.keeps k1
 go_wp2_with (at_builtin;refine appN rfl _ _ rfl w.heap.size _ [⟨k,0⟩] rfl h1 _ a rfl ha1 (by simp) (by simp;omega) ?_;intro v1 w1 hv1 hg1 hr1;have k2:Keeps w w1:=k1.grown hg1 hr1)
 go_ret;exact ⟨_,rfl,by simpa using hv1,k2⟩
theorem prefix_any (k:Int) (a:List Nd) (va:Value) (w:World) (hva:Nds w va a) (hl:1+a.length≤2147483648):
  Calls Tryz.prog 120 #[.int .i64 k,va] w (RetN w (⟨k,0⟩::a)):=by
 obtain ⟨pa,na,ca,rfl⟩:=hva.shape;have k1:=(Keeps.refl w).alloc (.cells #[.int .i64 k,.int .i64 0] 74);have h1:=(OwnN.lit1 w ⟨k,0⟩).nds (by simp);have h2:=NdsL.lit2N (N:=w.heap.size+1) (by simp) h1 (hva.keeps k1);have k2:=k1.alloc (.cells #[.slice (some ⟨w.heap.size,0,none⟩) 1 1,.slice pa na ca] 34)
 have hfl:fl [[⟨k,0⟩],a] [[⟨k,0⟩],a].length=⟨k,0⟩::a:=by simp [fl]
 have hfl2:(fl [[⟨k,0⟩],a] [[(⟨k,0⟩:Nd)],a].length).length≤2147483648:=by rw [hfl];simp;omega
 have hc:=concatN_any _ _ _ h2 hfl2;rw [hfl] at hc;have HC:=hid hc;clear hfl2 h1 h2 hfl hc;go_enter Tryz.func120,Tryz.ntmps120
 go_wp2_with (go_at_call 124;go_must (refine HC.out.mono ?_);rintro e w3 ⟨v3,rfl,hv3,k3⟩)
 go_ret;exact ⟨_,rfl,hv3.mono k2.size,k2.trans k3⟩
def RetI (w:World) (a:List Int) (e:Ending) (w':World):Prop:=∃ v,e=.returned v∧OwnI w' w.heap.size v a∧Keeps w w'
theorem l01Own_any (a:List Int) (v:Value) (w:World) (hv:Ints w v a):Calls Tryz.prog 85 #[v] w (RetI w a):=by
 have hlen:a.length≤2147483648:=by obtain ⟨_,_,_,_,_,_,h⟩:=hv;exact h
 have h1:=OwnI.empty w;have k1:=(Keeps.refl w).alloc (.cells #[] 2);have hv1:=hv.keeps k1;go_enter Tryz.func85,Tryz.ntmps85
 go_wp2_with (at_builtin;refine appI rfl _ _ rfl w.heap.size _ [] rfl h1 _ a rfl hv1 (by simp) (by simpa using hlen) ?_;intro v1 w1 hv1 hg1 hr1;have k2:Keeps w w1:=k1.grown hg1 hr1)
 go_ret;exact ⟨_,rfl,by simpa using hv1,k2⟩
theorem bit_table:∀ (m:Fin 64) (i:Fin 7),(bits BinOp.and IntKind.i64 (((m:Nat):Int)/2^(i:Nat)) 1==1)=(m:Nat).testBit i:=by decide +kernel
theorem ok_sym {a:List Nd} (h:a.all okNd=true) (k:Nat) (hk:k<a.length) (h0:a[k].k=0):∃ s:Nat,s<6∧a[k].s=s:=by
 have:=List.all_eq_true.1 h a[k] (List.getElem_mem hk);simp [okNd,h0] at this;exact ⟨a[k].s.toNat,by omega,by omega⟩
theorem has_any (m i:Nat) (w:World) (hm:m<64) (hi:i≤6):Calls Tryz.prog 165 #[.int .i64 m,.int .i64 i] w fun e w'=>e=.returned (.bool (m.testBit i))∧w=w':=by
 go_enter Tryz.func165,Tryz.ntmps165;go_wp2;go_ret;exact ⟨ret_bool (bit_table ⟨m,hm⟩ ⟨i,by omega⟩),rfl⟩
end Go.Proofs.YtbccmdfdclomiaaGreatDoor
