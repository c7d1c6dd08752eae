import Derived.Test.YtbccmdfdclomiaaGreatDoorHAZ0
import Derived.MapFrom
import Derived.Maps.OwnIn
/- own -/
namespace Go.Proofs.YtbccmdfdclomiaaGreatDoor
set_option maxRecDepth 100000
set_option maxHeartbeats 2000000
section
open Go.RowKit
theorem wrapU (n:Nat) (h:n<18446744073709551616):IntKind.u64.wrap (n:Int)=n:=by
 simp [IntKind.wrap,IntKind.bits,IntKind.signed];omega
theorem ofIntU (a:Nat) (ha:a<18446744073709551616):(BitVec.ofInt 64 (a:Int)).toNat=a:=by
 rw [BitVec.ofInt_natCast,BitVec.toNat_ofNat];exact Nat.mod_eq_of_lt (by omega)
theorem orU (a b:Nat) (ha:a<18446744073709551616) (hb:b<18446744073709551616):bits .or .u64 (a:Int) (b:Int)=((a ||| b:Nat):Int):=by
 have hx:a ||| b<2^64:=Nat.or_lt_two_pow (by omega) (by omega)
 show IntKind.u64.wrap ((BitVec.ofInt 64 (a:Int) ||| BitVec.ofInt 64 (b:Int)).toNat:Int)=_
 rw [BitVec.toNat_or,ofIntU a ha,ofIntU b hb];exact wrapU _ (by omega)
theorem andU (a b:Nat) (ha:a<18446744073709551616) (hb:b<18446744073709551616):bits .and .u64 (a:Int) (b:Int)=((a &&& b:Nat):Int):=by
 have hx:a &&& b<2^64:=Nat.and_lt_two_pow _ (by omega)
 show IntKind.u64.wrap ((BitVec.ofInt 64 (a:Int) &&& BitVec.ofInt 64 (b:Int)).toNat:Int)=_
 rw [BitVec.toNat_and,ofIntU a ha,ofIntU b hb];exact wrapU _ (by omega)
theorem vrow_lt (v n:Nat) (h:n≤64):mskB (fun r=>r.testBit v) n<18446744073709551616:=Nat.lt_of_lt_of_le (msk_lt _ n) (Nat.pow_le_pow_right (by decide) h)
theorem mskB_next (p:Nat→Bool) (n:Nat):mskB p (n+1)=if p n then mskB p n ||| 2^n else mskB p n:=rfl
theorem xorU (a:Nat) (ha:a<18446744073709551616):bits .xor .u64 IntKind.u64.max (a:Int)=(((2^64-1) ^^^ a:Nat):Int):=
 bits_xor_u64_nat 18446744073709551615 a (by decide) ha
theorem xorU_lt (a:Nat) (ha:a<18446744073709551616):(2^64-1) ^^^ a<18446744073709551616:=Nat.xor_lt_two_pow (n:=64) (by decide) ha
theorem variableRows_any (v:Nat) (hv:v<6) (w:World):Calls Tryz.prog 130 #[.int .i64 v] w fun e w'=>e=.returned (.int .u64 (mskB (fun r=>r.testBit v) 64))∧w=w':=by
 have HH:=hid (fun m (hm:m<64)=>has_any m v w hm (by omega));go_enter Tryz.func130,Tryz.ntmps130;go_wp2_with fail
 go_loop [3,5] (fun o i'=>∃ k:Nat,k≤64∧i'=.int .i64 k∧o=.int .u64 (mskB (fun r=>r.testBit v) k)) (fun _ i=>64-(intOf i).toNat)
 case atStart=>exact ⟨0,by omega,rfl,rfl⟩
 case round=>
  obtain ⟨k,hk,rfl,rfl⟩:=hrel
  by_cases hlt:k<64
  ·have hlt':(k:Int)<64:=by omega
   have hb:=vrow_lt v k hk;have hs:=mskB_next (fun r=>r.testBit v) k;have HK:=hid (HH.out k hlt);have h2:(2:Nat)^k<18446744073709551616:=Nat.pow_lt_pow_right (by decide) (show k<64 by omega)
   have hsh:IntKind.u64.wrap ((2:Int)^k)=((2^k:Nat):Int):=by
    rw [show ((2:Int)^k)=((2^k:Nat):Int) by push_cast;rfl];exact wrapU _ h2
   have hor:=orU _ _ hb h2
   cases hbit:k.testBit v with
   | true=>
    rw [hbit] at HK;simp only [hbit,if_true] at hs;have HS:=hid hs;clear hs hbit;generalize mskB (fun r=>r.testBit v) k=x at*;go_wp2_with fail;refine HK.out.mono ?_;rintro e w' ⟨rfl,rfl⟩;go_wp2_with fail
    go_round
    case rel=>exact ⟨k+1,by omega,by go_num,by rw [HS.out,show ((2:Int)^k)=((2^k:Nat):Int) by push_cast;rfl,orU _ _ hb h2]⟩
    case measure=>simp [intOf];omega
   | false=>
    rw [hbit] at HK;simp only [hbit] at hs;have HS:=hid hs;clear hs hbit hor hsh;generalize mskB (fun r=>r.testBit v) k=x at*;go_wp2_with fail;refine HK.out.mono ?_;rintro e w' ⟨rfl,rfl⟩;go_wp2_with fail
    go_round
    case rel=>exact ⟨k+1,by omega,by go_num,by rw [HS.out];rfl⟩
    case measure=>simp [intOf];omega
  ·obtain rfl:k=64:=by omega
   go_wp2_with fail;go_ret;exact ⟨rfl,rfl⟩
theorem rowsN_var (v:Nat):rowsN (.var v)=mskB (fun r=>r.testBit v) 64:=rfl
theorem plain_imp {x y:Fm} (h:(Fm.imp x y).plain=true):x.plain=true∧y.plain=true:=by simpa [Fm.plain] using h
theorem plain_and {x y:Fm} (h:(Fm.and x y).plain=true):x.plain=true∧y.plain=true:=by simpa [Fm.plain] using h
theorem plain_or {x y:Fm} (h:(Fm.or x y).plain=true):x.plain=true∧y.plain=true:=by simpa [Fm.plain] using h
theorem modelsOf_any (t:Fm):∀ (v:Value) (w:World),Nds w v t.enc→t.wf→t.plain=true→
  Calls Tryz.prog 96 #[v] w fun e w'=>e=.returned (.int .u64 (rowsN t))∧w=w':=by
 induction t with
 | var k=>
  intro v w hv hw _;have hk:k<6:=hw;have HVR:=hid (variableRows_any k hk w);rw [←rowsN_var] at HVR;obtain ⟨b,off,n,cap,rfl,h0,h1,h2,h3,hc,hd⟩:=hv.head;clear hv hw hk;go_enter Tryz.func96,Tryz.ntmps96;go_wp2_with fail;refine HVR.out.mono ?_;rintro e w' ⟨rfl,rfl⟩;go_wp2_with fail;go_ret;exact ⟨rfl,rfl⟩
 | fls=>
  intro v w hv _ _;obtain ⟨b,off,n,cap,rfl,h0,h1,h2,h3,hc,hd⟩:=hv.head;clear hv;go_enter Tryz.func96,Tryz.ntmps96;go_wp2_with fail;go_ret;exact ⟨ret_int (by rw [rowsN_fls];rfl),rfl⟩
 | and x y ihx ihy=>
  intro v w hv hw hp;have HX:=hid (fun v1 w1 (h:Nds w1 v1 x.enc)=>ihx v1 w1 h hw.1 (plain_and hp).1);have HY:=hid (fun v1 w1 (h:Nds w1 v1 y.enc)=>ihy v1 w1 h hw.2 (plain_and hp).2);clear ihx ihy;have hv0:=hv;obtain ⟨b,off,n,cap,rfl,h0,h1,h2,h3,hc,_⟩:=hv.head;clear hv hw hp;go_enter Tryz.func96,Tryz.ntmps96
  go_wp2_with (first
   | (go_at_call 67;refine (first_any _ _ x y.enc _ _ hv0 rfl).mono ?_;rintro e w' ⟨v1,rfl,hv1,rfl⟩)
   | (go_at_call 70;refine (second_any _ _ x y _ _ hv0 rfl).mono ?_;rintro e w' ⟨v2,rfl,hv2,rfl⟩)
   | (go_at_call 96;first | ((with_reducible refine (HX.out v1 _ hv1).mono ?_);rintro e w' ⟨rfl,rfl⟩) | ((with_reducible refine (HY.out v2 _ hv2).mono ?_);rintro e w' ⟨rfl,rfl⟩)))
  go_ret;exact ⟨ret_int (by rw [rowsN_and];exact andU _ _ (rowsN_lt x) (rowsN_lt y)),rfl⟩
 | or x y ihx ihy=>
  intro v w hv hw hp;have HX:=hid (fun v1 w1 (h:Nds w1 v1 x.enc)=>ihx v1 w1 h hw.1 (plain_or hp).1);have HY:=hid (fun v1 w1 (h:Nds w1 v1 y.enc)=>ihy v1 w1 h hw.2 (plain_or hp).2);clear ihx ihy;have hv0:=hv;obtain ⟨b,off,n,cap,rfl,h0,h1,h2,h3,hc,_⟩:=hv.head;clear hv hw hp;go_enter Tryz.func96,Tryz.ntmps96
  go_wp2_with (first
   | (go_at_call 67;refine (first_any _ _ x y.enc _ _ hv0 rfl).mono ?_;rintro e w' ⟨v1,rfl,hv1,rfl⟩)
   | (go_at_call 70;refine (second_any _ _ x y _ _ hv0 rfl).mono ?_;rintro e w' ⟨v2,rfl,hv2,rfl⟩)
   | (go_at_call 96;first | ((with_reducible refine (HX.out v1 _ hv1).mono ?_);rintro e w' ⟨rfl,rfl⟩) | ((with_reducible refine (HY.out v2 _ hv2).mono ?_);rintro e w' ⟨rfl,rfl⟩)))
  go_ret;exact ⟨ret_int (by rw [rowsN_or];exact orU _ _ (rowsN_lt x) (rowsN_lt y)),rfl⟩
 | imp x y ihx ihy=>
  intro v w hv hw hp;have HX:=hid (fun v1 w1 (h:Nds w1 v1 x.enc)=>ihx v1 w1 h hw.1 (plain_imp hp).1);have HY:=hid (fun v1 w1 (h:Nds w1 v1 y.enc)=>ihy v1 w1 h hw.2 (plain_imp hp).2);clear ihx ihy;have hv0:=hv;obtain ⟨b,off,n,cap,rfl,h0,h1,h2,h3,hc,_⟩:=hv.head;clear hv hw hp;go_enter Tryz.func96,Tryz.ntmps96
  go_wp2_with (first
   | (go_at_call 67;refine (first_any _ _ x y.enc _ _ hv0 rfl).mono ?_;rintro e w' ⟨v1,rfl,hv1,rfl⟩)
   | (go_at_call 70;refine (second_any _ _ x y _ _ hv0 rfl).mono ?_;rintro e w' ⟨v2,rfl,hv2,rfl⟩)
   | (go_at_call 96;first | ((with_reducible refine (HX.out v1 _ hv1).mono ?_);rintro e w' ⟨rfl,rfl⟩) | ((with_reducible refine (HY.out v2 _ hv2).mono ?_);rintro e w' ⟨rfl,rfl⟩)))
  go_ret;exact ⟨ret_int (by rw [xorU _ (rowsN_lt x),rowsN_imp];exact orU _ _ (xorU_lt _ (rowsN_lt x)) (rowsN_lt y)),rfl⟩
 | box x ih=>intro v w _ _ hp;cases hp
 | dia x ih=>intro v w _ _ hp;cases hp
theorem isTautology_full (t:Fm) (hw:t.wf) (_hl:t.enc.length≤1000) (ht:Fol 9 [] t) (v:Value) (w:World) (hv:Nds w v t.enc):
  Calls Tryz.prog 49 #[v] w fun e w'=>(∃ (b:Bool) (c:Int),e=.returned (.tuple #[.bool b,.int .i64 c])∧(c=0→b=true))∧Keeps w w':=by
 obtain ⟨p,n,cap,rfl⟩:=hv.shape;have H1:=hid (plainCode_any [t.enc] _ _ (NdsL.lit1 hv));rw [plainErrs_one] at H1;have k1:=(Keeps.refl w).alloc (.cells #[.slice p n cap] 34)
 by_cases hc:plainErr t.enc=0
 ·rw [hc] at H1
  obtain ⟨u,hw2,he,hp,_⟩:=plain_tree hc;obtain rfl:=enc_inj he;have HM:=hid (fun w1 (k:Keeps w w1)=>modelsOf_any t _ w1 (hv.keeps k) hw hp);rw [taut_all ht] at HM;clear hv hw _hl hc ht he hw2 hp;go_enter Tryz.func49,Tryz.ntmps49;go_wp2_with fail;refine H1.out.mono ?_;rintro e w2 ⟨rfl,k2⟩;go_wp2_with fail;refine (HM.out _ (k1.trans k2)).mono ?_;rintro e w3 ⟨rfl,rfl⟩;go_wp2_with fail
  go_ret2
  exact ⟨⟨_,_,rfl,fun _=>rfl⟩,k1.trans k2⟩
 ·have hc':(plainErr t.enc != 0)=true:=by simpa using hc
  clear hv hw _hl hc ht;generalize plainErr t.enc=c at*;go_enter Tryz.func49,Tryz.ntmps49;go_wp2_with fail;refine H1.out.mono ?_;rintro e w2 ⟨rfl,k2⟩;go_wp2_with fail
  go_ret2
  refine ⟨⟨_,_,rfl,fun h=>?_⟩,k1.trans k2⟩;rw [h] at hc'
  cases hc'
open Classical in
theorem containsS_any (ss:List ByteArray) (x:ByteArray) (v:Value) (w:World) (hv:Strs w v ss):
  Calls Tryz.prog 166 #[v,.string x] w fun e w'=>e=.returned (.bool (decide (x∈ss)))∧w=w':=by
 obtain ⟨p,cap,rfl,h1,h2,hat,h3⟩:=hv.at
 have hd:decide (x∈ss)=Lib.containsS (ss.take ss.length) x:=by
  rw [List.take_length,Bool.eq_iff_iff,Lib.containsS_iff];exact decide_eq_true_iff
 by_cases h0:ss.length=0
 ·obtain rfl:ss=[]:=List.eq_nil_of_length_eq_zero h0
  refine (Tryz.slices_Contains_string_empty p cap x w).mono ?_;rintro e w' ⟨rfl,rfl⟩;exact ⟨by simp,rfl⟩
 ·obtain ⟨b,off,rfl,_⟩:=hat 0 (by simp [strCells];omega)
  have hc:∀ j,j<ss.length→w.cell? ⟨b,off+j,none⟩=some (.string (ss.getD j ByteArray.empty)):=by
   intro j hj;obtain ⟨b',off',hp,hc⟩:=hat j (by simpa [strCells] using hj)
   cases hp
   rw [hc];simp [strCells,List.getD_eq_getElem?_getD,hj]
  refine (Tryz.slices_Contains_string b off ss.length cap ss x w (Nat.le_refl _) (by omega) hc).mono ?_;rintro e w' ⟨rfl,rfl⟩;exact ⟨by rw [hd],rfl⟩
theorem txt_mem {ss:List ByteArray} {G:List Fm} {x:ByteArray} {t:Fm} (h:Txts ss G) (hx:bts x=t.body) (hw:t.wf) (hG:∀ a∈G,a.wf):x∈ss↔t∈G:=by
 constructor
 ·intro hm
  have h1:bts x∈ss.map bts:=List.mem_map.2 ⟨x,hm,rfl⟩;rw [h,List.mem_map] at h1;obtain ⟨a,ha,e⟩:=h1;rw [hx] at e;rwa [←body_inj (hG a ha) hw e]
 ·intro hm
  have h1:t.body∈G.map Fm.body:=List.mem_map.2 ⟨t,hm,rfl⟩;rw [←h,List.mem_map] at h1;obtain ⟨y,hy,e⟩:=h1;rwa [←bts_inj (e.trans hx.symm)]
open Classical in
theorem containsF_any (ss:List ByteArray) (G:List Fm) (h:Txts ss G) (hG:∀ a∈G,a.wf) (x:ByteArray) (t:Fm) (hx:bts x=t.body) (hw:t.wf) (v:Value) (w:World) (hv:Strs w v ss):
  Calls Tryz.prog 166 #[v,.string x] w fun e w'=>e=.returned (.bool (decide (t∈G)))∧w=w':=by
 refine (containsS_any ss x v w hv).mono ?_;rintro e w' ⟨rfl,rfl⟩;exact ⟨ret_bool (by rw [Bool.eq_iff_iff,decide_eq_true_iff,decide_eq_true_iff];exact txt_mem h hx hw hG),rfl⟩
end
section
open Go.RowKit Go.Sort
theorem put_any (ss tt:List ByteArray) (v u:Value) (w:World) (hv:Strs w v ss) (hu:Strs w u tt) (hl:ss.length+tt.length≤1000000000):
  Calls Tryz.prog 159 #[v,u] w fun e w'=>∃ v',e=.returned v'∧OwnS w' w.heap.size v' (putL ss tt)∧Keeps w w':=by
 obtain ⟨p1,n1,c1,rfl⟩:∃ p n c,v=.slice p n c:=by obtain ⟨p,c,e,_⟩:=hv.at;exact ⟨p,_,c,e⟩
 obtain ⟨p2,n2,c2,rfl⟩:∃ p n c,u=.slice p n c:=by obtain ⟨p,c,e,_⟩:=hu.at;exact ⟨p,_,c,e⟩
 have kl:=(Keeps.refl w).alloc (.cells #[.slice p1 n1 c1,.slice p2 n2 c2] 82);have hC:=concatS_any [ss,tt] _ _ (StrL.lit2 hv hu) (by simp [fl];omega);rw [show fl [ss,tt] [ss,tt].length=ss++tt from by simp [fl]] at hC
 have hbs:((ss++tt).map bts).length≤1000000000:=by simp;omega
 have HC:=hid hC;clear hC;go_enter Tryz.func159,Tryz.ntmps159;go_wp2_with fail;refine HC.out.mono ?_;rintro e w1 ⟨v1,rfl,hv1,k1⟩
 replace hv1:=hv1.mono kl.size
 have kw:=kl.trans k1
 by_cases hn:v1=.slice none 0 0
 ·subst hn
  have h0:ss++tt=[]:=by
   obtain ⟨p,c,e,_⟩:=At.of_own hv1;injection e with _ e2 _;exact List.eq_nil_of_length_eq_zero e2.symm
  have hp:putL ss tt=[]:=by simp [putL,h0,sortB,Lib.compact,Lib.compactUpTo]
  have HP:=hid hp;clear hp h0;go_wp2_with fail;refine (Tryz.slices_Sort_string_none none 0 w1).mono ?_;rintro e w' ⟨rfl,rfl⟩;go_wp2_with fail;refine (Tryz.slices_Compact_string_empty none 0 _).mono ?_;rintro e w' ⟨rfl,rfl⟩;go_wp2_with fail;go_ret;exact ⟨_,rfl,by rw [HP.out];exact OwnS.nil _ _,kw⟩
 ·have hown:w1.ownsRow w.heap.size 9 1 v1 (ss++tt).length (((ss++tt).map bts).map encStr):=by rw [←cells_enc];exact hv1
  obtain ⟨g,cap,rfl,hbg,hgl,hncap,hcm,hlen,hH⟩:=Lib.holds_of_ownsRow hown hn;have hcells:=putL_cells ss tt
  have hlp:(putL ss tt).length=(sortB ((ss++tt).map bts)).length:=by simp [putL]
  have HCE:=hid hcells;clear hcells;have HLP:=hid hlp;clear hlp;generalize hb:(ss++tt).map bts=bs at*;generalize hnn:(ss++tt).length=n at*;have hsort:=Tryz.slices_Sort_string g 0 cap bs w1 hH hgl (by omega);rw [hlen] at hsort;have HS:=hid hsort;clear hsort;have HO:=hid hown;clear hown;clear hH hv1 hb hnn hn;have hncap2:n≤cap:=hncap;go_wp2_with fail;refine HS.out.mono ?_;rintro e w2 ⟨rfl,nn,os,rfl⟩;have hH2:=sorted_holds (nn:=nn) (os:=os) HO.out hlen
  have hlm:(bs.mergeSort fun x y=>decide (x≤y)).length=n:=by rw [List.length_mergeSort];exact hlen
  have hcomp:=Tryz.slices_Compact_string g 0 cap (bs.mergeSort fun x y=>decide (x≤y)) _ hH2 (by omega) (by omega);rw [hlm] at hcomp;have HK:=hid hcomp;clear hcomp hH2;have HE:=hid (fun q=>sorted_own (w:=w) (nn:=nn) (q:=q) (os:=os) HO.out kw hbg hlen);generalize hw2:grow (putRow encStr (Sort.ahead w1 nn) g 0 (bs.mergeSort fun x y=>decide (x≤y)).toArray) os=w2 at*;go_wp2_with fail;refine HK.out.mono ?_;rintro e w3 ⟨rfl,q,rfl⟩;obtain ⟨ho,hk⟩:=HE.out q;go_wp2_with fail;go_ret;refine ⟨_,rfl,?_,hk⟩;unfold OwnS;rw [HCE.out,HLP.out];exact ho
end
section
open Go.RowKit
def keyL (bs:List (List UInt8)):List UInt8:=bs.flatMap fun b=>b++[47]
def keyOf (bs cs:List (List UInt8)):List UInt8:=keyL bs++(59::keyL cs)
theorem keyL_take (ss:List ByteArray) (k:Nat) (h:k<ss.length):keyL ((ss.take (k+1)).map bts)=keyL ((ss.take k).map bts)++(bts ss[k]++[47]):=by
 rw [List.take_succ_eq_append_getElem h,List.map_append];simp [keyL]
theorem keyL_le (ss:List ByteArray) (k:Nat):(keyL ((ss.take k).map bts)).length≤(keyL (ss.map bts)).length:=by
 have h:ss.map bts=(ss.take k).map bts++(ss.drop k).map bts:=by rw [←List.map_append,List.take_append_drop]
 have h2:=congrArg (fun l=>(keyL l).length) h;simp only [keyL,List.flatMap_append,List.length_append] at h2 ⊢;omega
theorem seqKey_any (ss rr:List ByteArray) (v u:Value) (w:World) (hv:Strs w v ss) (hu:Strs w u rr) (hl:(keyL (ss.map bts)).length+(keyL (rr.map bts)).length≤1000000000):
  Calls Tryz.prog 196 #[.agg #[v,u]] w fun e w'=>∃ s,e=.returned (.string s)∧bts s=keyOf (ss.map bts) (rr.map bts)∧Keeps w w':=by
 obtain ⟨p1,c1,rfl,_,_,_,hs1⟩:=hv.at;obtain ⟨p2,c2,rfl,_,_,_,hs2⟩:=hu.at;have k0:=(Keeps.refl w).alloc (.cells #[.slice p1 ss.length c1,.slice p2 rr.length c2] 85);have hv1:=hv.keeps k0;have hu1:=hu.keeps k0;have HV:=hid hv1;clear hv1 hv;have HU:=hid hu1;clear hu1 hu;have hle1:=hid (keyL_le ss);have hle2:=hid (keyL_le rr);have ht1:=hid (keyL_take ss);have ht2:=hid (keyL_take rr);have HL:=hid hl;go_enter Tryz.func196,Tryz.ntmps196;go_wp2
 go_loop [3,11] (fun o i'=>∃ (k:Nat) (x:ByteArray),k≤ss.length∧i'=.int .i64 k∧o=.string x∧bts x=keyL ((ss.take k).map bts)) (fun _ i=>ss.length-(intOf i).toNat)
 case atStart=>exact ⟨0,_,by omega,rfl,rfl,rfl⟩
 case round=>
  obtain ⟨k,x,hk,rfl,rfl,hx⟩:=hrel
  have hx1:x.size≤1000000000:=by
   rw [←bts_len,hx];have:=hle1.out k;have:=HL.out;omega
  have HX:=hid hx;clear hx
  by_cases hlt:k<ss.length
  ·have hlt':(k:Int)<ss.length:=by omega
   obtain ⟨b,off,rfl,h1⟩:=HV.out.get k hlt
   have hy1:ss[k].size+1≤1000000000:=by
    have e:=congrArg List.length (ht1.out k hlt);have:=hle1.out (k+1);have:=HL.out;simp only [List.length_append,bts_len,List.length_cons,List.length_nil] at e;omega
   have hq:=hid (ht1.out k hlt);generalize ss[k]=y at*;go_wp2
   go_round
   case rel=>exact ⟨k+1,_,by omega,by go_num,rfl,by rw [hq.out,←HX.out];simp only [bts_append];rfl⟩
   case measure=>simp [intOf];omega
  ·obtain rfl:k=ss.length:=by omega
   have hx3:bts x=keyL (ss.map bts):=by rw [HX.out,List.take_length]
   have HX3:=hid hx3;clear hx3
   have hlt':¬((ss.length:Int)<ss.length):=by omega
   go_wp2
   go_loop [3,25] (fun o i'=>∃ (k:Nat) (z:ByteArray),k≤rr.length∧i'=.int .i64 k∧o=.string z∧bts z=keyL (ss.map bts)++(59::keyL ((rr.take k).map bts))) (fun _ i=>rr.length-(intOf i).toNat)
   case atStart=>exact ⟨0,_,by omega,rfl,rfl,by rw [bts_append,HX3.out];rfl⟩
   case round=>
    obtain ⟨j,z,hj,rfl,rfl,hz⟩:=hrel
    have hz1:z.size≤1000000001:=by
     rw [←bts_len,hz,List.length_append,List.length_cons];have:=hle2.out j;have:=HL.out;omega
    have HZ:=hid hz;clear hz
    by_cases hlt:j<rr.length
    ·have hlt':(j:Int)<rr.length:=by omega
     obtain ⟨b,off,rfl,h1⟩:=HU.out.get j hlt
     have hy1:rr[j].size+1≤1000000000:=by
      have e:=congrArg List.length (ht2.out j hlt);have:=hle2.out (j+1);have:=HL.out;simp only [List.length_append,bts_len,List.length_cons,List.length_nil] at e;omega
     have hq:=hid (ht2.out j hlt);generalize rr[j]=y at*;go_wp2
     go_round
     case rel=>exact ⟨j+1,_,by omega,by go_num,rfl,by rw [hq.out];simp only [bts_append,HZ.out,List.append_assoc,List.cons_append];rfl⟩
     case measure=>simp [intOf];omega
    ·obtain rfl:j=rr.length:=by omega
     have hlt':¬((rr.length:Int)<rr.length):=by omega
     go_wp2;go_ret;exact ⟨_,rfl,by rw [HZ.out,List.take_length];rfl,k0⟩
theorem split_one (z:UInt8):∀ (xs ys X Y:List UInt8),z∉xs→z∉ys→xs++z::X=ys++z::Y→xs=ys∧X=Y
 | [],[],X,Y,_,_,h=>by simpa using h
 | [],y::ys,X,Y,_,hy,h=>by injection h with h1 _;exact absurd (by simp [h1]) hy
 | x::xs,[],X,Y,hx,_,h=>by injection h with h1 _;exact absurd (by simp [h1]) hx
 | x::xs,y::ys,X,Y,hx,hy,h=>by
  injection h with h1 h2;obtain ⟨h3,h4⟩:=split_one z xs ys X Y (fun h=>hx (by simp [h])) (fun h=>hy (by simp [h])) h2;exact ⟨by rw [h1,h3],h4⟩
def Clean (bs:List (List UInt8)):Prop:=∀ b∈bs,(47:UInt8)∉b∧(59:UInt8)∉b∧b≠[]
theorem key_split:∀ (bs cs:List (List UInt8)) (X Y:List UInt8),Clean bs→Clean cs→keyL bs++(59::X)=keyL cs++(59::Y)→bs=cs∧X=Y
 | [],[],X,Y,_,_,h=>by simpa [keyL] using h
 | [],c::cs,X,Y,_,hc,h=>by
  obtain ⟨_,h2,h3⟩:=hc c (by simp)
  cases c with
  | nil=>exact absurd rfl h3
  | cons x c=>simp [keyL] at h;exact absurd (by simp [h.1]) h2
 | b::bs,[],X,Y,hb,_,h=>by
  obtain ⟨_,h2,h3⟩:=hb b (by simp)
  cases b with
  | nil=>exact absurd rfl h3
  | cons x c=>simp [keyL] at h;exact absurd (by simp [h.1]) h2
 | b::bs,c::cs,X,Y,hb,hc,h=>by
  have e1:keyL (b::bs)++(59::X)=b++47::(keyL bs++(59::X)):=by simp [keyL]
  have e2:keyL (c::cs)++(59::Y)=c++47::(keyL cs++(59::Y)):=by simp [keyL]
  rw [e1,e2] at h;obtain ⟨h1,h2⟩:=split_one 47 _ _ _ _ (hb b (by simp)).1 (hc c (by simp)).1 h;obtain ⟨h3,h4⟩:=key_split bs cs X Y (fun x hx=>hb x (by simp [hx])) (fun x hx=>hc x (by simp [hx])) h2;exact ⟨by rw [h1,h3],h4⟩
def OkF (t:Fm):Prop:=t.wf∧t.plain=true
def OkL (G:List Fm):Prop:=∀ a∈G,OkF a
theorem OkF.clean {t:Fm} (h:t.wf):(47:UInt8)∉t.body∧(59:UInt8)∉t.body∧t.body≠[]:=
 ⟨fun hm=>(body_bytes t h _ hm).1 rfl,fun hm=>(body_bytes t h _ hm).2.1 rfl,fun e=>by have:=body_pos t;rw [e] at this;simp at this⟩
theorem OkL.clean {G:List Fm} (h:OkL G):Clean (G.map Fm.body):=by
 intro b hb;obtain ⟨a,ha,rfl⟩:=List.mem_map.1 hb;exact OkF.clean (h a ha).1
theorem bodies_inj:∀ {G H:List Fm},OkL G→OkL H→G.map Fm.body=H.map Fm.body→G=H
 | [],[],_,_,_=>rfl
 | [],b::H,_,_,h=>by simp at h
 | a::G,[],_,_,h=>by simp at h
 | a::G,b::H,hG,hH,h=>by
  simp only [List.map_cons] at h;injection h with h1 h2;rw [body_inj (hG a (by simp)).1 (hH b (by simp)).1 h1,bodies_inj (fun x hx=>hG x (by simp [hx])) (fun x hx=>hH x (by simp [hx])) h2]
def keyF (G:List Fm) (c:Fm):List UInt8:=keyOf (G.map Fm.body) [c.body]
theorem keyF_inj {G H:List Fm} {c d:Fm} (hG:OkL G) (hH:OkL H) (hc:OkF c) (hd:OkF d) (h:keyF G c=keyF H d):G=H∧c=d:=by
 obtain ⟨h1,h2⟩:=key_split _ _ _ _ hG.clean hH.clean h;refine ⟨bodies_inj hG hH h1,body_inj hc.1 hd.1 ?_⟩
 have e1:keyL [c.body]=c.body++47::[]:=by simp [keyL]
 have e2:keyL [d.body]=d.body++47::[]:=by simp [keyL]
 rw [e1,e2] at h2;exact (split_one 47 _ _ _ _ (OkF.clean hc.1).1 (OkF.clean hd.1).1 h2).1
theorem drop_txts {x:ByteArray} {t:Fm} (hx:bts x=t.body) (ht:t.wf):∀ {ss:List ByteArray} {G:List Fm},Txts ss G→(∀ a∈G,a.wf)→Txts (ss.filter fun s=>!(s.toList==x.toList)) (G.filter fun a=>!decide (a=t))
 | [],[],_,_=>rfl
 | [],b::G,h,_=>by simp [Txts] at h
 | s::ss,[],h,_=>by simp [Txts] at h
 | s::ss,b::G,h,hG=>by
  unfold Txts at h;simp only [List.map_cons] at h;injection h with h1 h2;have ih:=drop_txts hx ht (ss:=ss) (G:=G) h2 (fun a ha=>hG a (by simp [ha]));have hb:b.wf:=hG b (by simp)
  have e:(s.toList==x.toList)=decide (b=t):=by
   rw [beq_bts,h1,hx,Bool.eq_iff_iff,decide_eq_true_iff,decide_eq_true_iff];exact ⟨body_inj hb ht,fun h=>by rw [h]⟩
  by_cases hbt:b=t
  ·simp [hbt,e];simpa using ih
  ·unfold Txts at ih ⊢
   simp [hbt,e,h1];simpa using ih
theorem mem_without {G:List Fm} {t a:Fm}:a∈G.filter (fun a=>!decide (a=t))↔a∈G∧a≠t:=by simp
theorem wts_without {G:List Fm} {t:Fm} (h:t∈G):wts (G.filter fun a=>!decide (a=t))+wt t≤wts G:=by
 induction G with
 | nil=>cases h
 | cons b G ih=>
  by_cases hb:b=t
  ·subst hb
   have h1:=wts_sub (List.filter_sublist (l:=G) (p:=fun a=>!decide (a=b)));simp [wts];omega
  ·rcases List.mem_cons.1 h with rfl | h
   ·exact absurd rfl hb
   ·have:=ih h
    simp [hb,wts];omega
theorem instead_mem {G T R:List Fm} {t:Fm} (h:t∈G) (hR:∀ a,a∈R↔a∈G.filter (fun a=>!decide (a=t))∨a∈T):
  (∀ a,a∈G↔a=t∨a∈G.filter (fun a=>!decide (a=t)))∧(∀ a,a∈R↔a∈T∨a∈G.filter (fun a=>!decide (a=t))):=by
 refine ⟨fun a=>?_,fun a=>(hR a).trans or_comm⟩;rw [mem_without];constructor
 ·intro ha
  by_cases e:a=t
  ·exact .inl e
  ·exact .inr ⟨ha,e⟩
 ·rintro (rfl | ⟨ha,_⟩)
  ·exact h
  ·exact ha
end
section
open Go.RowKit Go.MapKept
def Turns (m:Nat) (w w':World):Prop:=w.grownBy w' (some m)∧(∀ p v,w.cell? p=some v→w'.cell? p=some v)
theorem Turns.trans {m:Nat} {a b c:World} (h:Turns m a b) (k:Turns m b c):Turns m a c:=⟨grown_trans h.1 k.1,fun p v hc=>k.2 p v (h.2 p v hc)⟩
theorem Turns.ofKeeps {m:Nat} {a b:World} (h:Keeps a b):Turns m a b:=⟨⟨h.os,h.tape,h.output,h.size,fun _k hk _=>h.block hk⟩,fun _ _ hc=>h.cell hc⟩
theorem Turns.refl (m:Nat) (w:World):Turns m w w:=Turns.ofKeeps (Keeps.refl w)
theorem Turns.keeps {m:Nat} {a b:World} (h:Turns m a b) {c:World} (hm:c.heap.size≤m) (k:Keeps c a):Keeps c b:=k.grown h.1 (by rintro _ ⟨⟩;exact hm)
theorem At.turns {m:Nat} {w w':World} {p:Option Addr} {vs:List Value} (h:At w p vs) (k:Turns m w w'):At w' p vs:=fun j hj=>by
 obtain ⟨b,off,hp,hc⟩:=h j hj;exact ⟨b,off,hp,k.2 _ _ hc⟩
theorem Nds.turns {m:Nat} {w w':World} {v:Value} {a:List Nd} (h:Nds w v a) (k:Turns m w w'):Nds w' v a:=by
 obtain ⟨p,cap,hv,h1,h2,h3,h4⟩:=h;exact ⟨p,cap,hv,h1,h2,h3.turns k,h4⟩
theorem SlC.turns {m:Nat} {α:Type} {sz:Nat} {R:World→(Nat→Value)→α→Prop} (hR:∀ w w' f x,Turns m w w'→R w f x→R w' f x) {w w':World} {v:Value} {xs:List α} (h:SlC sz R w v xs) (k:Turns m w w'):SlC sz R w' v xs:=by
 obtain ⟨p,cap,hv,h1,h2,h3,h4⟩:=h;refine ⟨p,cap,hv,h1,h2,h3,fun i hi=>?_⟩;obtain ⟨b,off,f,hp,hc,hr⟩:=h4 i hi;exact ⟨b,off,f,hp,fun c hcs=>k.2 _ _ (hc c hcs),hR _ _ _ _ k hr⟩
theorem Strs.turns {m:Nat} {w w':World} {v:Value} {ss:List ByteArray} (h:Strs w v ss) (k:Turns m w w'):Strs w' v ss:=
 SlC.turns (R:=fun _ f (s:ByteArray)=>f 0=.string s) (fun _ _ _ _ _ h=>h) h k
def Ans (w:World) (m:Nat) (S:ByteArray→Bool→Prop):Prop:=∃ es clock,w.heap[m]? = some (.map es clock)∧∀ x∈es.toList,∃ s b,x.key=.string s∧x.val=.bool b∧S s b
theorem Ans.lt {w:World} {m:Nat} {S:ByteArray→Bool→Prop} (h:Ans w m S):m<w.heap.size:=by
 obtain ⟨es,clock,hb,_⟩:=h;exact (Array.getElem?_eq_some_iff.1 hb).1
theorem Ans.keeps {w w':World} {m:Nat} {S:ByteArray→Bool→Prop} (h:Ans w m S) (k:Keeps w w'):Ans w' m S:=by
 have hl:=h.lt;obtain ⟨es,clock,hb,he⟩:=h;exact ⟨es,clock,(k.block hl).trans hb,he⟩
theorem Ans.made (w:World) (S:ByteArray→Bool→Prop):Ans (w.alloc (.map #[] 0)) w.heap.size S:=⟨#[],0,(MapKept.heap_alloc w _).1,by simp⟩
section
variable {P:Program} {w:World} {t k e:TypeId} {m:Nat} {S:ByteArray→Bool→Prop} (ht:P.underlying t=some (.map k e)) (hk:P.underlying k=some .string)
include ht hk
theorem Ans.look (h:Ans w m S) (hz:(zeroValue e).run P w=.ok (.bool false) w) (s:ByteArray):
  ∃ b ok,(Instr.lookup t (.map (some m)) (.string s) true).run P w=.ok (.tuple #[.bool b,.bool ok]) w∧(ok=true→S s b):=by
 obtain ⟨es,clock,hb,he⟩:=h;have hik:IsKey .string (.string s):=trivial
 have hks:∀ x∈es.toList,IsKey .string x.key:=fun x hx=>by obtain ⟨s',_,h1,_⟩:=he x hx;rw [h1];trivial
 rcases findNow_spec hik es.toList 0 hks with ⟨h1,_⟩ | ⟨j,x,h1,h2,h3⟩
 ·refine ⟨false,false,?_,fun h=>by cases h⟩
  simp [Instr.lookup,run_underlying ht,MapKept.run_getObj_map hb,run_checkKey hk hik,run_findKey hk h1,hz,Result.andThen]
 ·have hx:x∈es.toList:=List.mem_of_getElem? h2
  obtain ⟨s',b,g1,g2,g3⟩:=he x hx;rw [h3] at g1
  cases g1
  refine ⟨b,true,?_,fun _=>g3⟩;simp [Instr.lookup,run_underlying ht,MapKept.run_getObj_map hb,run_checkKey hk hik,run_findKey hk h1,g2,Result.andThen]
theorem Ans.put (h:Ans w m S) (s:ByteArray) (b:Bool) (hS:S s b):
  ∃ w',(Instr.mapUpdate t (.map (some m)) (.string s) (.bool b)).run P w=.ok () w'∧Ans w' m S∧Turns m w w':=by
 obtain ⟨es,clock,hb,he⟩:=h;have hik:IsKey .string (.string s):=trivial
 have hks:∀ x∈es.toList,IsKey .string x.key:=fun x hx=>by obtain ⟨s',_,h1,_⟩:=he x hx;rw [h1];trivial
 have hrd:∀ es' clock',Turns m w { w with heap:=w.heap.setIfInBounds m (.map es' clock') }:=fun es' clock'=>by
  refine ⟨⟨rfl,rfl,rfl,by simp,fun k _ hk=>?_⟩,fun p v hc=>?_⟩
  ·exact (heap_set hb).2 k (fun e=>hk (by rw [e]))
  ·have hne:p.block≠m:=by
    rintro rfl;simp [World.cell?,hb] at hc
   simp only [World.cell?] at hc ⊢;rw [(heap_set hb).2 p.block hne];exact hc
 rcases findNow_spec hik es.toList 0 hks with ⟨h1,_⟩ | ⟨j,x,h1,h2,h3⟩
 ·refine ⟨_,by simp [Instr.mapUpdate,run_underlying ht,MapKept.run_getObj_map hb,run_checkKey hk hik,run_findKey hk h1,MapKept.run_setObj_map _ hb,Result.andThen];rfl,⟨_,_,(heap_set hb).1,?_⟩,hrd _ _⟩
  intro x hx;simp only [Array.toList_push,List.mem_append,List.mem_singleton] at hx
  rcases hx with hx | rfl
  ·exact he x hx
  ·exact ⟨s,b,rfl,rfl,hS⟩
 ·have hj:es[j]? = some x:=by simpa using h2
  refine ⟨_,by simp [Instr.mapUpdate,run_underlying ht,MapKept.run_getObj_map hb,run_checkKey hk hik,run_findKey hk h1,hj,h3,run_keyThatStays hik,MapKept.run_setObj_map _ hb,Result.andThen];rfl,⟨_,_,(heap_set hb).1,?_⟩,hrd _ _⟩;intro y hy;obtain ⟨i,hi⟩:=List.getElem?_of_mem hy;simp only [Array.getElem?_toList,Array.getElem?_modify] at hi
  by_cases hij:j=i
  ·subst hij
   simp [hj] at hi;subst hi;exact ⟨s,b,by simp,rfl,hS⟩
  ·simp [hij] at hi
   exact he y (List.mem_of_getElem? (by simpa using hi))
theorem wpList_ans_look {ops:Array Oper} {rest:List Oper} {o:Oper} {a:Act} {Q:Exit→Act→World→Prop} (hg:o.guard=none) (x y:Operand) (hop:o.op=Op.lookup t x y true)
  (hz:(zeroValue e).run P w=.ok (.bool false) w) (hx:a.eval x=.map (some m)) (h:Ans w m S) (s:ByteArray) (hy:a.eval y=.string s)
  (hK:∀ b ok,(ok=true→S s b)→wpList P ops Q rest (a.put o.dst (.tuple #[.bool b,.bool ok])) w):wpList P ops Q (o::rest) a w:=by
 refine wpList_plain hg fun K' hK'=>?_
 obtain ⟨b,ok,hrun,hv⟩:=h.look ht hk hz s;unfold Oper.wp;simp [execOp,hop,hx,hy,hrun,Result.andThen];exact hK' _ _ (hK b ok hv)
theorem wpList_ans_put {ops:Array Oper} {rest:List Oper} {o:Oper} {a:Act} {Q:Exit→Act→World→Prop} (hg:o.guard=none) (x y z:Operand) (hop:o.op=Op.mapUpdate t x y z)
  (hx:a.eval x=.map (some m)) (h:Ans w m S) (s:ByteArray) (hy:a.eval y=.string s) (b:Bool) (hz:a.eval z=.bool b) (hS:S s b)
  (hK:∀ w',Ans w' m S→Turns m w w'→wpList P ops Q rest (a.put o.dst undef) w'):wpList P ops Q (o::rest) a w:=by
 refine wpList_plain hg fun K' hK'=>?_
 obtain ⟨w',hrun,r1,r2⟩:=h.put ht hk s b hS;unfold Oper.wp;simp [execOp,hop,hx,hy,hz,hrun,Result.andThen];exact hK' _ _ (hK w' r1 r2)
end
end
section
open Go.RowKit
def partsL:Fm→List Fm
 | .and x y=>[x,y]
 | .or x y=>[x,y]
 | .imp x y=>[x,y]
 | .box x=>[x]
 | .dia x=>[x]
 | _=>[]
theorem NdsL.noneN (w:World):NdsL w (.slice Option.none 0 0) []:=⟨Option.none,0,rfl,Nat.le_refl _,by simp [maxLen],by simp,fun i hi=>by simp at hi⟩
theorem parts_any (t:Fm) (v:Value) (w:World) (hv:Nds w v t.enc):
  Calls Tryz.prog 239 #[v] w fun e w'=>∃ u,e=.returned u∧NdsL w' u ((partsL t).map Fm.enc)∧Keeps w w':=by
 have hv0:=hv;obtain ⟨b,off,n,cap,rfl,h0,h1,h2,h3,hc,_⟩:=hv.root
 cases t with
 | var _=>
  replace hc:w.cell? ⟨b,off,none⟩=some (.int .i64 0):=hc
  have hp:=partsOf_any 0 w;rw [show partsOf 0=0 from rfl] at hp;go_enter Tryz.func239,Tryz.ntmps239
  go_wp2_with (go_at_call 143;refine hp.mono ?_;rintro e w' ⟨rfl,rfl⟩)
  go_ret;exact ⟨_,rfl,NdsL.noneN _,Keeps.refl _⟩
 | fls=>
  replace hc:w.cell? ⟨b,off,none⟩=some (.int .i64 1):=hc
  have hp:=partsOf_any 1 w;rw [show partsOf 1=0 from rfl] at hp;go_enter Tryz.func239,Tryz.ntmps239
  go_wp2_with (go_at_call 143;refine hp.mono ?_;rintro e w' ⟨rfl,rfl⟩)
  go_ret;exact ⟨_,rfl,NdsL.noneN _,Keeps.refl _⟩
 | and x y=>
  replace hc:w.cell? ⟨b,off,none⟩=some (.int .i64 2):=hc
  have hp:=partsOf_any 2 w;rw [show partsOf 2=2 from rfl] at hp;go_enter Tryz.func239,Tryz.ntmps239;go_wp2_with fail;refine hp.mono ?_;rintro e w' ⟨rfl,rfl⟩;go_wp2_with fail;refine (first_any _ _ x y.enc _ _ hv0 rfl).mono ?_;rintro e w' ⟨v1,rfl,hv1,rfl⟩;go_wp2_with fail;refine (second_any _ _ x y _ _ hv0 rfl).mono ?_;rintro e w' ⟨v2,rfl,hv2,rfl⟩;obtain ⟨p1,n1,c1,rfl⟩:=hv1.shape;obtain ⟨p2,n2,c2,rfl⟩:=hv2.shape;go_wp2_with fail;go_ret;exact ⟨_,rfl,NdsL.lit2 hv1 hv2,(Keeps.refl w).alloc _⟩
 | or x y=>
  replace hc:w.cell? ⟨b,off,none⟩=some (.int .i64 3):=hc
  have hp:=partsOf_any 3 w;rw [show partsOf 3=2 from rfl] at hp;go_enter Tryz.func239,Tryz.ntmps239;go_wp2_with fail;refine hp.mono ?_;rintro e w' ⟨rfl,rfl⟩;go_wp2_with fail;refine (first_any _ _ x y.enc _ _ hv0 rfl).mono ?_;rintro e w' ⟨v1,rfl,hv1,rfl⟩;go_wp2_with fail;refine (second_any _ _ x y _ _ hv0 rfl).mono ?_;rintro e w' ⟨v2,rfl,hv2,rfl⟩;obtain ⟨p1,n1,c1,rfl⟩:=hv1.shape;obtain ⟨p2,n2,c2,rfl⟩:=hv2.shape;go_wp2_with fail;go_ret;exact ⟨_,rfl,NdsL.lit2 hv1 hv2,(Keeps.refl w).alloc _⟩
 | imp x y=>
  replace hc:w.cell? ⟨b,off,none⟩=some (.int .i64 4):=hc
  have hp:=partsOf_any 4 w;rw [show partsOf 4=2 from rfl] at hp;go_enter Tryz.func239,Tryz.ntmps239;go_wp2_with fail;refine hp.mono ?_;rintro e w' ⟨rfl,rfl⟩;go_wp2_with fail;refine (first_any _ _ x y.enc _ _ hv0 rfl).mono ?_;rintro e w' ⟨v1,rfl,hv1,rfl⟩;go_wp2_with fail;refine (second_any _ _ x y _ _ hv0 rfl).mono ?_;rintro e w' ⟨v2,rfl,hv2,rfl⟩;obtain ⟨p1,n1,c1,rfl⟩:=hv1.shape;obtain ⟨p2,n2,c2,rfl⟩:=hv2.shape;go_wp2_with fail;go_ret;exact ⟨_,rfl,NdsL.lit2 hv1 hv2,(Keeps.refl w).alloc _⟩
 | box x=>
  replace hc:w.cell? ⟨b,off,none⟩=some (.int .i64 5):=hc
  have hp:=partsOf_any 5 w;rw [show partsOf 5=1 from rfl] at hp;go_enter Tryz.func239,Tryz.ntmps239;go_wp2_with fail;refine hp.mono ?_;rintro e w' ⟨rfl,rfl⟩;go_wp2_with fail;refine (first_any _ ⟨5,0⟩ x [] _ _ hv0 (by simp [Fm.enc])).mono ?_;rintro e w' ⟨v1,rfl,hv1,rfl⟩;obtain ⟨p1,n1,c1,rfl⟩:=hv1.shape;go_wp2_with fail;go_ret;exact ⟨_,rfl,NdsL.lit1 hv1,(Keeps.refl w).alloc _⟩
 | dia x=>
  replace hc:w.cell? ⟨b,off,none⟩=some (.int .i64 6):=hc
  have hp:=partsOf_any 6 w;rw [show partsOf 6=1 from rfl] at hp;go_enter Tryz.func239,Tryz.ntmps239;go_wp2_with fail;refine hp.mono ?_;rintro e w' ⟨rfl,rfl⟩;go_wp2_with fail;refine (first_any _ ⟨6,0⟩ x [] _ _ hv0 (by simp [Fm.enc])).mono ?_;rintro e w' ⟨v1,rfl,hv1,rfl⟩;obtain ⟨p1,n1,c1,rfl⟩:=hv1.shape;go_wp2_with fail;go_ret;exact ⟨_,rfl,NdsL.lit1 hv1,(Keeps.refl w).alloc _⟩
theorem partsL_wf {t:Fm} (h:t.wf):∀ x∈partsL t,x.wf:=by
 cases t<;>simp [partsL,Fm.wf] at h ⊢<;>first | exact h | (intro x hx;rcases hx with rfl | rfl<;>simp_all) | simp_all
theorem partsL_len (t:Fm):∀ x∈partsL t,x.enc.length≤t.enc.length:=by
 cases t<;>simp [partsL,Fm.enc]<;>omega
theorem partsL_two (t:Fm):(partsL t).length≤2:=by cases t<;>simp [partsL]
theorem partTexts_any (t:Fm) (hw:t.wf) (hl:t.enc.length≤100000000) (v:Value) (w:World) (hv:Nds w v t.enc):
  Calls Tryz.prog 223 #[v] w fun e w'=>∃ u ss,e=.returned u∧OwnS w' w.heap.size u ss∧Txts ss (partsL t)∧Keeps w w':=by
 have hP:=hid (parts_any t v w hv);have hwf:=hid (partsL_wf hw);have hln:=hid (partsL_len t);have h2:=partsL_two t;generalize hg:partsL t=G at*;clear hg;go_enter Tryz.func223,Tryz.ntmps223;go_wp2_with fail;refine hP.out.mono ?_;rintro e w1 ⟨v1,rfl,hv1,k1⟩;obtain ⟨p,m,cap,rfl⟩:=NdsL.shapeL hv1
 have hm:m=G.length:=by obtain ⟨_,_,e,_⟩:=hv1;cases e;simp
 have HM:=hid hm;clear hm
 have hm2:m≤2:=by have:=HM.out;omega
 go_wp2
 go_loopw [3,9] (fun r i' wr=>∃ k:Nat,k≤m∧i'=.int .i64 k∧(∃ ss,OwnS wr w1.heap.size r ss∧Txts ss (G.take k))∧Keeps w1 wr) (fun _ i _=>m-(intOf i).toNat)
 case atStart=>exact ⟨0,by omega,rfl,⟨[],OwnS.nil _ _,rfl⟩,Keeps.refl _⟩
 case round=>
  obtain ⟨k,hk,rfl,⟨ss,hss,htx⟩,kw⟩:=hrel
  by_cases hlt:k<m
  ·have hkG:k<G.length:=by have:=HM.out;omega
   have hlt':(k:Int)<m:=by omega
   obtain ⟨b,off,u1,hp,hcell,hu1⟩:=(NdsL.keeps hv1 kw).get k (by simpa using hkG)
   replace hu1:Nds wr u1 G[k].enc:=by simpa using hu1
   subst hp;have hT:=hid (text_any G[k] (hwf.out _ (List.getElem_mem _)) (by have:=hln.out G[k] (List.getElem_mem _);omega) u1 wr hu1);obtain ⟨q1,n1,c1,rfl⟩:=hu1.shape
   have hsl:ss.length≤2:=by have:=htx.length;simp at this;have:=HM.out;omega
   have hsz:=k1.size;have hsz2:=kw.size;go_wp2_with fail;refine hT.out.mono ?_;rintro e w2 ⟨s,rfl,hs,k2⟩;have hsz3:=k2.size
   go_wp2_with (at_builtin;refine appS rfl (.tmp 13) (.tmp 16) rfl w1.heap.size _ ss rfl ((hss.keeps k2).keeps ((Keeps.refl w2).alloc _)) _ [s] rfl (Strs.lit1 w2 s) (by simp;omega) (by simp;omega) ?_;intro v3 w3 hv3 hg3 hr3)
   go_roundw
   case rel=>exact ⟨k+1,by omega,by go_num,⟨_,hv3,by rw [←List.take_append_getElem hkG];exact htx.append (by simp [Txts,hs])⟩,(((kw.trans k2).alloc _).grown hg3 (fun q hq=>by have:=hr3 q hq;omega))⟩
   case measure=>simp [intOf];omega
  ·go_wp2
   go_ret
   have hkm:k=G.length:=by have:=HM.out;omega
   subst hkm;exact ⟨_,_,rfl,hss.mono k1.size,by rw [List.take_length] at htx;exact htx,k1.trans kw⟩
end
end Go.Proofs.YtbccmdfdclomiaaGreatDoor
