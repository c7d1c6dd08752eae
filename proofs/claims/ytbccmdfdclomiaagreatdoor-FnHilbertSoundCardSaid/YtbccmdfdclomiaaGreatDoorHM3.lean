import Derived.Test.YtbccmdfdclomiaaGreatDoorHP4
/- own -/
namespace Go.Proofs.YtbccmdfdclomiaaGreatDoor
set_option maxRecDepth 20000
set_option maxHeartbeats 4000000
open Go.RowKit
theorem l02True_any (w:World):Calls Tryz.prog 211 #[] w (RetN w (Fm.imp .fls .fls).enc):=by
 go_enter Tryz.func211,Tryz.ntmps211;go_wp2_with fail;refine (l02False_any _).mono ?_;rintro e w1 ⟨v1,rfl,hv1,k1⟩;go_wp2_with fail;refine (l02Not_any .fls _ _ (hv1.nds (by simp [Fm.enc])) (by simp [Fm.enc])).mono ?_;rintro e w2 ⟨v2,rfl,hv2,k2⟩;go_wp2_with fail;go_ret;exact ⟨_,rfl,hv2.mono k1.size,k1.trans k2⟩
theorem l02Var_any (v:Nat) (w:World):Calls Tryz.prog 65 #[.int .i64 v] w (RetN w (Fm.var v).enc):=by
 go_enter Tryz.func65,Tryz.ntmps65;go_wp2;go_ret;exact ⟨_,rfl,OwnN.lit1 w ⟨0,v⟩,(Keeps.refl w).alloc _⟩
theorem sNeed {w:World} {r:Nat} {s:ByteArray} {i:Nat} {b:UInt8} {l:List UInt8} {k:Int} (h:RdAt w r s i false) (hd:(bts s).drop i=b::l) (hk:k=(b.toNat:Int)):
  Calls Tryz.prog 282 #[.pointer (some ⟨r,0,none⟩),.int .u8 k] w fun e w'=>e=.returned (.tuple #[])∧RdAt w' r s (i+1) false∧w.grownBy w' (some r):=by
 have H:=hid (l02Take_hit h hd hk);clear h hd hk;go_enter Tryz.func282,Tryz.ntmps282;go_wp2_with fail;refine H.out.mono ?_;rintro e w1 ⟨rfl,h1,g1⟩;go_wp2_with fail;refine bodyPost_end (v:=.tuple #[]) (by simp [results,Tryz.results282,go_sem]) rfl ?_;exact ⟨rfl,h1,g1⟩
theorem sAnd (x0:Fm) (xs:List Fm) (hx0:Reads 274 3 x0 (x0.txt 3)) (hxs:∀ x∈xs,Reads 274 3 x (x.txt 3)):
  Reads 260 2 (xs.foldl Fm.and x0) (x0.txt 3++Fm.behind 38 3 xs):=by
 intro w r s i rest h hd hst hlen;have hl0:=fold_and_len xs x0;rw [List.append_assoc] at hd;have hd1:=drop_more hd
 have hst1:stops 3 (Fm.behind 38 3 xs++rest):=by
  cases xs with
  | nil=>exact hst.up (by omega)
  | cons y ys=>exact ⟨fun e=>by first | omega | simp [Fm.behind],fun e=>by first | omega | simp [Fm.behind],fun e=>by omega⟩
 have H0:=hid (hx0 w r s i _ h hd hst1 (by omega));clear hd hst1 hx0;generalize hT:xs.foldl Fm.and x0=T at*;have HT:=hid hT;clear hT;have hr:=h.lt;have Hxs:=hid hxs;clear hxs;have Hd1:=hid hd1;clear hd1;have Hst:=hid hst;clear hst;clear h;go_enter Tryz.func260,Tryz.ntmps260;go_wp2_with fail;refine H0.out.mono ?_;rintro e w1 ⟨v1,rfl,hv1,h1,g1⟩;clear H0;go_wp2_with fail
 go_loopw [3] (fun a' wr=>∃ (acc:Fm) (ys:List Fm) (j:Nat),ys.foldl Fm.and acc=T∧(∀ x∈ys,Reads 274 3 x (x.txt 3))∧OwnN wr w.heap.size a' acc.enc∧RdAt wr r s j false∧w.grownBy wr (some r)∧(bts s).drop j=Fm.behind 38 3 ys++rest∧j+(Fm.behind 38 3 ys).length=i+(x0.txt 3++Fm.behind 38 3 xs).length) (fun _ wr=>match wr.cell? ⟨r,1,none⟩ with | some (.int _ n)=>s.size-n.toNat | _=>0)
 case atStart=>exact ⟨x0,xs,_,HT.out,Hxs.out,hv1,h1,g1,Hd1.out,by rw [List.length_append];omega⟩
 case round=>
  obtain ⟨acc,ys,j,hT,hys,hacc,hj,gj,hdj,hlj⟩:=hrel;have HTj:=hid hT;clear hT;have Hys:=hid hys;clear hys;have Hlj:=hid hlj;clear hlj;clear hv1 h1 g1;have hlacc:=fold_and_len ys acc;rw [HTj.out] at hlacc
  cases ys with
  | nil=>
   have HM:=hid (l02Take_miss (k:=38) 38 hj hdj (by first | exact Hst.out.1 (by omega) | exact Hst.out.2.1 (by omega)) rfl);go_wp2_with fail;refine HM.out.mono ?_;rintro e w2 ⟨rfl,h2,k2⟩;go_wp2_with fail;go_ret;have hT:=HTj.out;simp only [List.foldl_nil] at hT;subst hT;have hl:=Hlj.out;simp only [Fm.behind,List.length_nil,Nat.add_zero] at hl;rw [hl] at h2;exact ⟨_,rfl,hacc.keeps k2,h2,grown_keeps gj k2⟩
  | cons y ys=>
   have hdj':(bts s).drop j=38::(y.txt 3++(Fm.behind 38 3 ys++rest)):=by rw [hdj];simp [Fm.behind]
   obtain ⟨hjs,_,hdj2⟩:=bts_head hdj';have HM:=hid (l02Take_hit (k:=38) hj hdj' rfl)
   have hst1:stops 3 (Fm.behind 38 3 ys++rest):=by
    cases ys with
    | nil=>exact Hst.out.up (by omega)
    | cons z zs=>exact ⟨fun e=>by first | omega | simp [Fm.behind],fun e=>by first | omega | simp [Fm.behind],fun e=>by omega⟩
   have hT:=HTj.out;rw [List.foldl_cons] at hT;have hl2:=fold_and_len ys (Fm.and acc y);rw [hT] at hl2
   have hl3:(Fm.and acc y).enc.length=1+acc.enc.length+y.enc.length:=by simp only [Fm.enc,List.length_cons,List.length_append];omega
   have HT2:=hid hT;clear hT;have HY:=hid (fun w2 (h2:RdAt w2 r s (j+1) false)=>Hys.out y (List.mem_cons_self ..) w2 r s (j+1) _ h2 hdj2 hst1 (by omega));have Hd2:=hid (drop_more hdj2);clear hdj hdj' hdj2 hst1;go_wp2_with fail;refine HM.out.mono ?_;rintro e w2 ⟨rfl,h2,g2⟩;have hacc2:=hacc.grown g2 hr;clear hacc;go_wp2_with fail;refine (HY.out _ h2).mono ?_;rintro e w3 ⟨v3,rfl,hv3,h3,g3⟩;have hacc3:=hacc2.grown g3 hr;have hs2:=gj.size;have hs3:=g2.size;have gw3:=grown_trans gj (grown_trans g2 g3);go_wp2_with fail;refine (l02Pair_any _ _ _ _ _ _ (hacc3.nds (by omega)) (hv3.nds (by omega)) (by omega)).mono ?_;rintro e w4 ⟨v4,rfl,hv4,k4⟩;have h4:=h3.keeps k4;go_wp2_with fail;go_roundw
   case rel=>
    refine ⟨Fm.and acc y,ys,_,HT2.out,fun x hx=>Hys.out x (List.mem_cons_of_mem _ hx),hv4.mono (by have:=g3.size;omega),h4,grown_keeps gw3 k4,Hd2.out,?_⟩;have hl:=Hlj.out;simp only [Fm.behind,List.length_cons,List.length_append] at hl;simp only [List.length_append] at*;omega
   case measure=>
    have e1:=hj.c1;have e2:=h4.c1;simp [e1,e2];omega
theorem sOr (x0:Fm) (xs:List Fm) (hx0:Reads 260 2 x0 (x0.txt 2)) (hxs:∀ x∈xs,Reads 260 2 x (x.txt 2)):
  Reads 236 1 (xs.foldl Fm.or x0) (x0.txt 2++Fm.behind 124 2 xs):=by
 intro w r s i rest h hd hst hlen;have hl0:=fold_or_len xs x0;rw [List.append_assoc] at hd;have hd1:=drop_more hd
 have hst1:stops 2 (Fm.behind 124 2 xs++rest):=by
  cases xs with
  | nil=>exact hst.up (by omega)
  | cons y ys=>exact ⟨fun e=>by first | omega | simp [Fm.behind],fun e=>by first | omega | simp [Fm.behind],fun e=>by omega⟩
 have H0:=hid (hx0 w r s i _ h hd hst1 (by omega));clear hd hst1 hx0;generalize hT:xs.foldl Fm.or x0=T at*;have HT:=hid hT;clear hT;have hr:=h.lt;have Hxs:=hid hxs;clear hxs;have Hd1:=hid hd1;clear hd1;have Hst:=hid hst;clear hst;clear h;go_enter Tryz.func236,Tryz.ntmps236;go_wp2_with fail;refine H0.out.mono ?_;rintro e w1 ⟨v1,rfl,hv1,h1,g1⟩;clear H0;go_wp2_with fail
 go_loopw [3] (fun a' wr=>∃ (acc:Fm) (ys:List Fm) (j:Nat),ys.foldl Fm.or acc=T∧(∀ x∈ys,Reads 260 2 x (x.txt 2))∧OwnN wr w.heap.size a' acc.enc∧RdAt wr r s j false∧w.grownBy wr (some r)∧(bts s).drop j=Fm.behind 124 2 ys++rest∧j+(Fm.behind 124 2 ys).length=i+(x0.txt 2++Fm.behind 124 2 xs).length) (fun _ wr=>match wr.cell? ⟨r,1,none⟩ with | some (.int _ n)=>s.size-n.toNat | _=>0)
 case atStart=>exact ⟨x0,xs,_,HT.out,Hxs.out,hv1,h1,g1,Hd1.out,by rw [List.length_append];omega⟩
 case round=>
  obtain ⟨acc,ys,j,hT,hys,hacc,hj,gj,hdj,hlj⟩:=hrel;have HTj:=hid hT;clear hT;have Hys:=hid hys;clear hys;have Hlj:=hid hlj;clear hlj;clear hv1 h1 g1;have hlacc:=fold_or_len ys acc;rw [HTj.out] at hlacc
  cases ys with
  | nil=>
   have HM:=hid (l02Take_miss (k:=124) 124 hj hdj (by first | exact Hst.out.1 (by omega) | exact Hst.out.2.1 (by omega)) rfl);go_wp2_with fail;refine HM.out.mono ?_;rintro e w2 ⟨rfl,h2,k2⟩;go_wp2_with fail;go_ret;have hT:=HTj.out;simp only [List.foldl_nil] at hT;subst hT;have hl:=Hlj.out;simp only [Fm.behind,List.length_nil,Nat.add_zero] at hl;rw [hl] at h2;exact ⟨_,rfl,hacc.keeps k2,h2,grown_keeps gj k2⟩
  | cons y ys=>
   have hdj':(bts s).drop j=124::(y.txt 2++(Fm.behind 124 2 ys++rest)):=by rw [hdj];simp [Fm.behind]
   obtain ⟨hjs,_,hdj2⟩:=bts_head hdj';have HM:=hid (l02Take_hit (k:=124) hj hdj' rfl)
   have hst1:stops 2 (Fm.behind 124 2 ys++rest):=by
    cases ys with
    | nil=>exact Hst.out.up (by omega)
    | cons z zs=>exact ⟨fun e=>by first | omega | simp [Fm.behind],fun e=>by first | omega | simp [Fm.behind],fun e=>by omega⟩
   have hT:=HTj.out;rw [List.foldl_cons] at hT;have hl2:=fold_or_len ys (Fm.or acc y);rw [hT] at hl2
   have hl3:(Fm.or acc y).enc.length=1+acc.enc.length+y.enc.length:=by simp only [Fm.enc,List.length_cons,List.length_append];omega
   have HT2:=hid hT;clear hT;have HY:=hid (fun w2 (h2:RdAt w2 r s (j+1) false)=>Hys.out y (List.mem_cons_self ..) w2 r s (j+1) _ h2 hdj2 hst1 (by omega));have Hd2:=hid (drop_more hdj2);clear hdj hdj' hdj2 hst1;go_wp2_with fail;refine HM.out.mono ?_;rintro e w2 ⟨rfl,h2,g2⟩;have hacc2:=hacc.grown g2 hr;clear hacc;go_wp2_with fail;refine (HY.out _ h2).mono ?_;rintro e w3 ⟨v3,rfl,hv3,h3,g3⟩;have hacc3:=hacc2.grown g3 hr;have hs2:=gj.size;have hs3:=g2.size;have gw3:=grown_trans gj (grown_trans g2 g3);go_wp2_with fail;refine (l02Pair_any _ _ _ _ _ _ (hacc3.nds (by omega)) (hv3.nds (by omega)) (by omega)).mono ?_;rintro e w4 ⟨v4,rfl,hv4,k4⟩;have h4:=h3.keeps k4;go_wp2_with fail;go_roundw
   case rel=>
    refine ⟨Fm.or acc y,ys,_,HT2.out,fun x hx=>Hys.out x (List.mem_cons_of_mem _ hx),hv4.mono (by have:=g3.size;omega),h4,grown_keeps gw3 k4,Hd2.out,?_⟩;have hl:=Hlj.out;simp only [Fm.behind,List.length_cons,List.length_append] at hl;simp only [List.length_append] at*;omega
   case measure=>
    have e1:=hj.c1;have e2:=h4.c1;simp [e1,e2];omega
theorem sImply0 (t:Fm) (X:List UInt8) (hx:Reads 236 1 t X):Reads 214 0 t X:=by
 intro w r s i rest h hd hst hlen;have H0:=hid (hx w r s i _ h hd (hst.up (by omega)) hlen);have hd1:=drop_more hd;have hne:=hst.2.2 rfl;clear hd hst hx h;go_enter Tryz.func214,Tryz.ntmps214;go_wp2_with fail;refine H0.out.mono ?_;rintro e w1 ⟨v1,rfl,hv1,h1,g1⟩;have HM:=hid (l02Take_miss (k:=62) 62 h1 hd1 hne rfl);go_wp2_with fail;refine HM.out.mono ?_;rintro e w2 ⟨rfl,h2,k2⟩;go_wp2_with fail;go_ret;exact ⟨_,rfl,hv1.keeps k2,h2,grown_keeps g1 k2⟩
theorem sImply1 (a b:Fm) (ha:Reads 236 1 a (a.txt 1)) (hb:Reads 214 0 b b.body):Reads 214 0 (Fm.imp a b) (a.txt 1++62::b.body):=by
 intro w r s i rest h hd hst hlen
 have hl3:(Fm.imp a b).enc.length=1+a.enc.length+b.enc.length:=by simp only [Fm.enc,List.length_cons,List.length_append];omega
 rw [List.append_assoc,List.cons_append] at hd;have H0:=hid (ha w r s i _ h hd ⟨fun e=>by simp,fun e=>by simp,fun e=>by omega⟩ (by omega));have hd1:=drop_more hd;have hr:=h.lt;obtain ⟨_,_,hd2⟩:=bts_head hd1;have HB:=hid (fun w2 h2=>hb w2 r s (i+(a.txt 1).length+1) _ h2 hd2 hst (by omega));clear hd hst ha hb h;go_enter Tryz.func214,Tryz.ntmps214;go_wp2_with fail;refine H0.out.mono ?_;rintro e w1 ⟨v1,rfl,hv1,h1,g1⟩;have HM:=hid (l02Take_hit (k:=62) h1 hd1 rfl);go_wp2_with fail;refine HM.out.mono ?_;rintro e w2 ⟨rfl,h2,g2⟩;go_wp2_with fail;refine (HB.out _ h2).mono ?_;rintro e w3 ⟨v3,rfl,hv3,h3,g3⟩;have hv13:=(hv1.grown g2 hr).grown g3 hr;have gw3:=grown_trans g1 (grown_trans g2 g3);go_wp2_with fail;refine (l02Pair_any _ _ _ _ _ _ (hv13.nds (by omega)) (hv3.nds (by omega)) (by omega)).mono ?_;rintro e w4 ⟨v4,rfl,hv4,k4⟩;have h4:=h3.keeps k4;go_wp2_with fail;go_ret;refine ⟨_,rfl,hv4.mono gw3.size,?_,grown_keeps gw3 k4⟩
 simpa only [List.length_append,List.length_cons,Nat.add_assoc,Nat.add_comm 1] using h4
theorem sVar (v:Nat) (hv6:v<6):Reads 274 3 (.var v) [UInt8.ofNat (112+v)]:=by
 intro w r s i rest h hd hst hlen
 have hb:∀ k,k<6→(UInt8.ofNat (112+k)).toNat=112+k:=fun k hk=>by rw [UInt8.toNat_ofNat'];omega
 have hr:=h.lt;have HB:=hid hb;clear hb;have HD:=hid hd;clear hd;go_enter Tryz.func274,Tryz.ntmps274;go_wp2_with fail
 go_loopw [4] (fun q' wr=>∃ q:Nat,q≤v∧q'=.int .i64 q∧Keeps w wr) (fun q' _=>6-(intOf q').toNat)
 case atStart=>exact ⟨0,by omega,rfl,Keeps.refl w⟩
 case round=>
  obtain ⟨q,hqv,rfl,kj⟩:=hrel
  have hq6:q=0∨q=1∨q=2∨q=3∨q=4∨q=5:=by omega
  rcases hq6 with rfl | rfl | rfl | rfl | rfl | rfl
  ·by_cases e:0=v
   ·subst e
    have HM:=hid (l02Take_hit (k:=112) (h.keeps kj) HD.out rfl);go_wp2_with fail;refine HM.out.mono ?_;rintro e w6 ⟨rfl,h6,g6⟩;go_wp2_with fail;refine (l02Var_any 0 _).mono ?_;rintro e w7 ⟨v7,rfl,hv7,k7⟩;have gg:=grown_pre0 kj g6;go_wp2_with fail;go_ret;exact ⟨_,rfl,hv7.mono gg.size,h6.keeps k7,grown_keeps gg k7⟩
   ·have hnev:(UInt8.ofNat (112+v)::([]++rest)).head? ≠ some (UInt8.ofNat 112):=by
     intro e2;have:=congrArg UInt8.toNat (Option.some.inj e2);rw [HB.out v hv6] at this
     simp at this;omega
    have HM:=hid (l02Take_miss (k:=112) (UInt8.ofNat 112) (h.keeps kj) HD.out hnev rfl);clear hnev;have He:=hid e;clear e;go_wp2_with fail;refine HM.out.mono ?_;rintro e w6 ⟨rfl,h6,k6⟩;go_wp2_with fail;go_roundw
    case rel=>exact ⟨0+1,by have:=He.out;omega,by first | rfl | go_num,kj.trans k6⟩
    case measure=>simp [intOf]
  ·by_cases e:1=v
   ·subst e
    have HM:=hid (l02Take_hit (k:=113) (h.keeps kj) HD.out rfl);go_wp2_with fail;refine HM.out.mono ?_;rintro e w6 ⟨rfl,h6,g6⟩;go_wp2_with fail;refine (l02Var_any 1 _).mono ?_;rintro e w7 ⟨v7,rfl,hv7,k7⟩;have gg:=grown_pre0 kj g6;go_wp2_with fail;go_ret;exact ⟨_,rfl,hv7.mono gg.size,h6.keeps k7,grown_keeps gg k7⟩
   ·have hnev:(UInt8.ofNat (112+v)::([]++rest)).head? ≠ some (UInt8.ofNat 113):=by
     intro e2;have:=congrArg UInt8.toNat (Option.some.inj e2);rw [HB.out v hv6] at this
     simp at this;omega
    have HM:=hid (l02Take_miss (k:=113) (UInt8.ofNat 113) (h.keeps kj) HD.out hnev rfl);clear hnev;have He:=hid e;clear e;go_wp2_with fail;refine HM.out.mono ?_;rintro e w6 ⟨rfl,h6,k6⟩;go_wp2_with fail;go_roundw
    case rel=>exact ⟨1+1,by have:=He.out;omega,by first | rfl | go_num,kj.trans k6⟩
    case measure=>simp [intOf]
  ·by_cases e:2=v
   ·subst e
    have HM:=hid (l02Take_hit (k:=114) (h.keeps kj) HD.out rfl);go_wp2_with fail;refine HM.out.mono ?_;rintro e w6 ⟨rfl,h6,g6⟩;go_wp2_with fail;refine (l02Var_any 2 _).mono ?_;rintro e w7 ⟨v7,rfl,hv7,k7⟩;have gg:=grown_pre0 kj g6;go_wp2_with fail;go_ret;exact ⟨_,rfl,hv7.mono gg.size,h6.keeps k7,grown_keeps gg k7⟩
   ·have hnev:(UInt8.ofNat (112+v)::([]++rest)).head? ≠ some (UInt8.ofNat 114):=by
     intro e2;have:=congrArg UInt8.toNat (Option.some.inj e2);rw [HB.out v hv6] at this
     simp at this;omega
    have HM:=hid (l02Take_miss (k:=114) (UInt8.ofNat 114) (h.keeps kj) HD.out hnev rfl);clear hnev;have He:=hid e;clear e;go_wp2_with fail;refine HM.out.mono ?_;rintro e w6 ⟨rfl,h6,k6⟩;go_wp2_with fail;go_roundw
    case rel=>exact ⟨2+1,by have:=He.out;omega,by first | rfl | go_num,kj.trans k6⟩
    case measure=>simp [intOf]
  ·by_cases e:3=v
   ·subst e
    have HM:=hid (l02Take_hit (k:=115) (h.keeps kj) HD.out rfl);go_wp2_with fail;refine HM.out.mono ?_;rintro e w6 ⟨rfl,h6,g6⟩;go_wp2_with fail;refine (l02Var_any 3 _).mono ?_;rintro e w7 ⟨v7,rfl,hv7,k7⟩;have gg:=grown_pre0 kj g6;go_wp2_with fail;go_ret;exact ⟨_,rfl,hv7.mono gg.size,h6.keeps k7,grown_keeps gg k7⟩
   ·have hnev:(UInt8.ofNat (112+v)::([]++rest)).head? ≠ some (UInt8.ofNat 115):=by
     intro e2;have:=congrArg UInt8.toNat (Option.some.inj e2);rw [HB.out v hv6] at this
     simp at this;omega
    have HM:=hid (l02Take_miss (k:=115) (UInt8.ofNat 115) (h.keeps kj) HD.out hnev rfl);clear hnev;have He:=hid e;clear e;go_wp2_with fail;refine HM.out.mono ?_;rintro e w6 ⟨rfl,h6,k6⟩;go_wp2_with fail;go_roundw
    case rel=>exact ⟨3+1,by have:=He.out;omega,by first | rfl | go_num,kj.trans k6⟩
    case measure=>simp [intOf]
  ·by_cases e:4=v
   ·subst e
    have HM:=hid (l02Take_hit (k:=116) (h.keeps kj) HD.out rfl);go_wp2_with fail;refine HM.out.mono ?_;rintro e w6 ⟨rfl,h6,g6⟩;go_wp2_with fail;refine (l02Var_any 4 _).mono ?_;rintro e w7 ⟨v7,rfl,hv7,k7⟩;have gg:=grown_pre0 kj g6;go_wp2_with fail;go_ret;exact ⟨_,rfl,hv7.mono gg.size,h6.keeps k7,grown_keeps gg k7⟩
   ·have hnev:(UInt8.ofNat (112+v)::([]++rest)).head? ≠ some (UInt8.ofNat 116):=by
     intro e2;have:=congrArg UInt8.toNat (Option.some.inj e2);rw [HB.out v hv6] at this
     simp at this;omega
    have HM:=hid (l02Take_miss (k:=116) (UInt8.ofNat 116) (h.keeps kj) HD.out hnev rfl);clear hnev;have He:=hid e;clear e;go_wp2_with fail;refine HM.out.mono ?_;rintro e w6 ⟨rfl,h6,k6⟩;go_wp2_with fail;go_roundw
    case rel=>exact ⟨4+1,by have:=He.out;omega,by first | rfl | go_num,kj.trans k6⟩
    case measure=>simp [intOf]
  ·by_cases e:5=v
   ·subst e
    have HM:=hid (l02Take_hit (k:=117) (h.keeps kj) HD.out rfl);go_wp2_with fail;refine HM.out.mono ?_;rintro e w6 ⟨rfl,h6,g6⟩;go_wp2_with fail;refine (l02Var_any 5 _).mono ?_;rintro e w7 ⟨v7,rfl,hv7,k7⟩;have gg:=grown_pre0 kj g6;go_wp2_with fail;go_ret;exact ⟨_,rfl,hv7.mono gg.size,h6.keeps k7,grown_keeps gg k7⟩
   ·have hnev:(UInt8.ofNat (112+v)::([]++rest)).head? ≠ some (UInt8.ofNat 117):=by
     intro e2;have:=congrArg UInt8.toNat (Option.some.inj e2);rw [HB.out v hv6] at this
     simp at this;omega
    have HM:=hid (l02Take_miss (k:=117) (UInt8.ofNat 117) (h.keeps kj) HD.out hnev rfl);clear hnev;have He:=hid e;clear e;go_wp2_with fail;refine HM.out.mono ?_;rintro e w6 ⟨rfl,h6,k6⟩;go_wp2_with fail;go_roundw
    case rel=>exact ⟨5+1,by have:=He.out;omega,by first | rfl | go_num,kj.trans k6⟩
    case measure=>simp [intOf]
theorem sPrefix (t:Fm) (X:List UInt8) (hc:(t=.fls∧X=[70])∨(t=.imp .fls .fls∧X=[84])∨(∃ a,t=.imp a .fls∧X=126::a.txt 3∧Reads 274 3 a (a.txt 3))∨(∃ a,t=.box a∧X=91::93::a.txt 3∧Reads 274 3 a (a.txt 3))∨(∃ a,t=.dia a∧X=60::62::a.txt 3∧Reads 274 3 a (a.txt 3))∨(X=40::(t.body++[41])∧Reads 214 0 t t.body)):Reads 274 3 t X:=by
 intro w r s i rest h hd hst hlen
 have hne:∀ k:Nat,112≤k→k≤117→(X++rest).head? ≠ some (UInt8.ofNat k):=by
  intro k h1 h2
  have hk:k=112∨k=113∨k=114∨k=115∨k=116∨k=117:=by omega
  rcases hc with ⟨_,rfl⟩ | ⟨_,rfl⟩ | ⟨a,_,rfl,_⟩ | ⟨a,_,rfl,_⟩ | ⟨a,_,rfl,_⟩ | ⟨rfl,_⟩<;>rcases hk with rfl | rfl | rfl | rfl | rfl | rfl<;>simp
 have hr:=h.lt;have HN:=hid hne;clear hne;have HD:=hid hd;clear hd;have HC:=hid hc;clear hc;have HST:=hid hst;clear hst;go_enter Tryz.func274,Tryz.ntmps274;go_wp2_with fail
 go_loopw [4] (fun q' wr=>∃ q:Nat,q≤6∧q'=.int .i64 q∧Keeps w wr) (fun q' _=>6-(intOf q').toNat)
 case atStart=>exact ⟨0,by omega,rfl,Keeps.refl w⟩
 case round=>
  obtain ⟨q,hqv,rfl,kj⟩:=hrel
  have hq6:q=0∨q=1∨q=2∨q=3∨q=4∨q=5∨q=6:=by omega
  rcases hq6 with rfl | rfl | rfl | rfl | rfl | rfl | rfl
  ·have HM:=hid (l02Take_miss (k:=112) (UInt8.ofNat 112) (h.keeps kj) HD.out (HN.out 112 (by omega) (by omega)) rfl)
   go_wp2_with fail;refine HM.out.mono ?_;rintro e w6 ⟨rfl,h6,k6⟩;go_wp2_with fail;go_roundw
   case rel=>exact ⟨0+1,by omega,by first | rfl | go_num,kj.trans k6⟩
   case measure=>simp [intOf]
  ·have HM:=hid (l02Take_miss (k:=113) (UInt8.ofNat 113) (h.keeps kj) HD.out (HN.out 113 (by omega) (by omega)) rfl)
   go_wp2_with fail;refine HM.out.mono ?_;rintro e w6 ⟨rfl,h6,k6⟩;go_wp2_with fail;go_roundw
   case rel=>exact ⟨1+1,by omega,by first | rfl | go_num,kj.trans k6⟩
   case measure=>simp [intOf]
  ·have HM:=hid (l02Take_miss (k:=114) (UInt8.ofNat 114) (h.keeps kj) HD.out (HN.out 114 (by omega) (by omega)) rfl)
   go_wp2_with fail;refine HM.out.mono ?_;rintro e w6 ⟨rfl,h6,k6⟩;go_wp2_with fail;go_roundw
   case rel=>exact ⟨2+1,by omega,by first | rfl | go_num,kj.trans k6⟩
   case measure=>simp [intOf]
  ·have HM:=hid (l02Take_miss (k:=115) (UInt8.ofNat 115) (h.keeps kj) HD.out (HN.out 115 (by omega) (by omega)) rfl)
   go_wp2_with fail;refine HM.out.mono ?_;rintro e w6 ⟨rfl,h6,k6⟩;go_wp2_with fail;go_roundw
   case rel=>exact ⟨3+1,by omega,by first | rfl | go_num,kj.trans k6⟩
   case measure=>simp [intOf]
  ·have HM:=hid (l02Take_miss (k:=116) (UInt8.ofNat 116) (h.keeps kj) HD.out (HN.out 116 (by omega) (by omega)) rfl)
   go_wp2_with fail;refine HM.out.mono ?_;rintro e w6 ⟨rfl,h6,k6⟩;go_wp2_with fail;go_roundw
   case rel=>exact ⟨4+1,by omega,by first | rfl | go_num,kj.trans k6⟩
   case measure=>simp [intOf]
  ·have HM:=hid (l02Take_miss (k:=117) (UInt8.ofNat 117) (h.keeps kj) HD.out (HN.out 117 (by omega) (by omega)) rfl)
   go_wp2_with fail;refine HM.out.mono ?_;rintro e w6 ⟨rfl,h6,k6⟩;go_wp2_with fail;go_roundw
   case rel=>exact ⟨5+1,by omega,by first | rfl | go_num,kj.trans k6⟩
   case measure=>simp [intOf]
  ·have hj:=h.keeps kj
   clear HN
   rcases HC.out with ⟨rfl,rfl⟩ | ⟨rfl,rfl⟩ | ⟨a,rfl,rfl,ha⟩ | ⟨a,rfl,rfl,ha⟩ | ⟨a,rfl,rfl,ha⟩ | ⟨rfl,ht⟩
   all_goals clear HC
   ·have hd:=HD.out;clear HD
    go_wp2_with fail;refine (l02Take_hit (k:=70) hj hd rfl).mono ?_;rintro e wa ⟨rfl,ha1,ga⟩;have g:=grown_pre0 kj ga;go_wp2_with fail;refine (l02False_any _).mono ?_;rintro e wb ⟨vb,rfl,hvb,kb⟩;go_wp2_with fail;go_ret;exact ⟨_,rfl,hvb.mono g.size,ha1.keeps kb,grown_keeps g kb⟩
   ·have hd:=HD.out;clear HD
    go_wp2_with fail;refine (l02Take_miss (k:=70) 70 hj hd (by simp) rfl).mono ?_;rintro e wm70 ⟨rfl,hm70,km70⟩;go_wp2_with fail;refine (l02Take_hit (k:=84) hm70 hd rfl).mono ?_;rintro e wa ⟨rfl,ha1,ga⟩;have g:=grown_pre0 (kj.trans km70) ga;go_wp2_with fail;refine (l02True_any _).mono ?_;rintro e wb ⟨vb,rfl,hvb,kb⟩;go_wp2_with fail;go_ret;exact ⟨_,rfl,hvb.mono g.size,ha1.keeps kb,grown_keeps g kb⟩
   ·have hd:=HD.out;clear HD
    rw [List.cons_append] at hd
    have hl3:(Fm.imp a .fls).enc.length=a.enc.length+2:=by simp only [Fm.enc,List.length_cons,List.length_append,List.length_nil]
    obtain ⟨_,_,hd2⟩:=bts_head hd;have HA:=hid (fun w1 h1=>ha w1 r s (i+1) _ h1 hd2 HST.out (by omega));clear ha;go_wp2_with fail;refine (l02Take_miss (k:=70) 70 hj hd (by simp) rfl).mono ?_;rintro e wm70 ⟨rfl,hm70,km70⟩;go_wp2_with fail;refine (l02Take_miss (k:=84) 84 hm70 hd (by simp) rfl).mono ?_;rintro e wm84 ⟨rfl,hm84,km84⟩;go_wp2_with fail;refine (l02Take_hit (k:=126) hm84 hd rfl).mono ?_;rintro e wa ⟨rfl,ha1,ga⟩;go_wp2_with fail;refine (HA.out _ ha1).mono ?_;rintro e wb ⟨vb,rfl,hvb,hb,gb⟩;have g:=grown_pre0 ((kj.trans km70).trans km84) (grown_trans ga gb);go_wp2_with fail;refine (l02Not_any a _ _ (hvb.nds (by omega)) (by omega)).mono ?_;rintro e wc ⟨vc,rfl,hvc,kc⟩;go_wp2_with fail;go_ret;refine ⟨_,rfl,hvc.mono g.size,?_,grown_keeps g kc⟩
    simpa only [List.length_cons,Nat.add_assoc,Nat.add_comm 1] using hb.keeps kc
   ·have hd:=HD.out;clear HD
    rw [List.cons_append,List.cons_append] at hd
    have hl3:(Fm.box a).enc.length=a.enc.length+1:=by simp only [Fm.enc,List.length_cons]
    obtain ⟨_,_,hd2⟩:=bts_head hd;obtain ⟨_,_,hd3⟩:=bts_head hd2;have HA:=hid (fun w1 h1=>ha w1 r s (i+1+1) _ h1 hd3 HST.out (by omega));clear ha;go_wp2_with fail;refine (l02Take_miss (k:=70) 70 hj hd (by simp) rfl).mono ?_;rintro e wm70 ⟨rfl,hm70,km70⟩;go_wp2_with fail;refine (l02Take_miss (k:=84) 84 hm70 hd (by simp) rfl).mono ?_;rintro e wm84 ⟨rfl,hm84,km84⟩;go_wp2_with fail;refine (l02Take_miss (k:=126) 126 hm84 hd (by simp) rfl).mono ?_;rintro e wm126 ⟨rfl,hm126,km126⟩;go_wp2_with fail;refine (l02Take_hit (k:=91) hm126 hd rfl).mono ?_;rintro e wa ⟨rfl,ha1,ga⟩;go_wp2_with fail;refine (sNeed (k:=93) ha1 hd2 rfl).mono ?_;rintro e wb ⟨rfl,hb,gb⟩;go_wp2_with fail;refine (HA.out _ hb).mono ?_;rintro e wc ⟨vc,rfl,hvc,hc,gc⟩;have g:=grown_pre0 (((kj.trans km70).trans km84).trans km126) (grown_trans ga (grown_trans gb gc));go_wp2_with fail;refine (l02Pre_any 5 _ _ _ (hvc.nds (by omega)) (by omega)).mono ?_;rintro e wd ⟨vd,rfl,hvd,kd⟩;go_wp2_with fail;go_ret;refine ⟨_,rfl,hvd.mono g.size,?_,grown_keeps g kd⟩
    simpa only [List.length_cons,Nat.add_assoc,Nat.add_comm 1] using hc.keeps kd
   ·have hd:=HD.out;clear HD
    rw [List.cons_append,List.cons_append] at hd
    have hl3:(Fm.dia a).enc.length=a.enc.length+1:=by simp only [Fm.enc,List.length_cons]
    obtain ⟨_,_,hd2⟩:=bts_head hd;obtain ⟨_,_,hd3⟩:=bts_head hd2;have HA:=hid (fun w1 h1=>ha w1 r s (i+1+1) _ h1 hd3 HST.out (by omega));clear ha;go_wp2_with fail;refine (l02Take_miss (k:=70) 70 hj hd (by simp) rfl).mono ?_;rintro e wm70 ⟨rfl,hm70,km70⟩;go_wp2_with fail;refine (l02Take_miss (k:=84) 84 hm70 hd (by simp) rfl).mono ?_;rintro e wm84 ⟨rfl,hm84,km84⟩;go_wp2_with fail;refine (l02Take_miss (k:=126) 126 hm84 hd (by simp) rfl).mono ?_;rintro e wm126 ⟨rfl,hm126,km126⟩;go_wp2_with fail;refine (l02Take_miss (k:=91) 91 hm126 hd (by simp) rfl).mono ?_;rintro e wm91 ⟨rfl,hm91,km91⟩;go_wp2_with fail;refine (l02Take_hit (k:=60) hm91 hd rfl).mono ?_;rintro e wa ⟨rfl,ha1,ga⟩;go_wp2_with fail;refine (sNeed (k:=62) ha1 hd2 rfl).mono ?_;rintro e wb ⟨rfl,hb,gb⟩;go_wp2_with fail;refine (HA.out _ hb).mono ?_;rintro e wc ⟨vc,rfl,hvc,hc,gc⟩;have g:=grown_pre0 ((((kj.trans km70).trans km84).trans km126).trans km91) (grown_trans ga (grown_trans gb gc));go_wp2_with fail;refine (l02Pre_any 6 _ _ _ (hvc.nds (by omega)) (by omega)).mono ?_;rintro e wd ⟨vd,rfl,hvd,kd⟩;go_wp2_with fail;go_ret;refine ⟨_,rfl,hvd.mono g.size,?_,grown_keeps g kd⟩
    simpa only [List.length_cons,Nat.add_assoc,Nat.add_comm 1] using hc.keeps kd
   ·have hd:=HD.out;clear HD
    rw [List.cons_append,List.append_assoc] at hd;obtain ⟨_,_,hd2⟩:=bts_head hd;have hd3:=drop_more hd2;have HT:=hid (fun w1 h1=>ht w1 r s (i+1) _ h1 hd2 ⟨fun e=>by simp,fun e=>by simp,fun e=>by simp⟩ hlen);clear ht;go_wp2_with fail;refine (l02Take_miss (k:=70) 70 hj hd (by simp) rfl).mono ?_;rintro e wm70 ⟨rfl,hm70,km70⟩;go_wp2_with fail;refine (l02Take_miss (k:=84) 84 hm70 hd (by simp) rfl).mono ?_;rintro e wm84 ⟨rfl,hm84,km84⟩;go_wp2_with fail;refine (l02Take_miss (k:=126) 126 hm84 hd (by simp) rfl).mono ?_;rintro e wm126 ⟨rfl,hm126,km126⟩;go_wp2_with fail;refine (l02Take_miss (k:=91) 91 hm126 hd (by simp) rfl).mono ?_;rintro e wm91 ⟨rfl,hm91,km91⟩;go_wp2_with fail;refine (l02Take_miss (k:=60) 60 hm91 hd (by simp) rfl).mono ?_;rintro e wm60 ⟨rfl,hm60,km60⟩;go_wp2_with fail;refine (l02Take_hit (k:=40) hm60 hd rfl).mono ?_;rintro e wa ⟨rfl,ha1,ga⟩;have g:=grown_pre0 (((((kj.trans km70).trans km84).trans km126).trans km91).trans km60) ga;go_wp2_with fail;refine (HT.out _ ha1).mono ?_;rintro e wb ⟨vb,rfl,hvb,hb,gb⟩;go_wp2_with fail;refine (sNeed (k:=41) hb hd3 rfl).mono ?_;rintro e wc ⟨rfl,hc,gc⟩;have hr4:r<wa.heap.size:=ha1.lt;go_wp2_with fail;go_ret;refine ⟨_,rfl,(hvb.grown gc hr4).mono g.size,?_,grown_trans g (grown_trans gb gc)⟩
    simpa only [List.length_append,List.length_cons,List.length_nil,Nat.add_assoc,Nat.add_comm 1] using hc
theorem tyne:(34:TypeId)≠74:=by decide
theorem infoL:(Tryz.prog.info? 34).map (fun i=>(i.zero,i.size,i.bytes))=some (some (.slice none 0 0),1,24):=by kernel_rfl
theorem off_rows {w:World} {B B':Nat} {v:Value} {n:Nat} {hs vs:List Value} {xs:List (List Nd)} (ho:w.ownsRow B 34 1 v n hs) (hr:RowsN w B' vs xs):Off v vs:=fun i hi k hk=>
 type_ne ho (hr.2 i hi (by have:=hr.1;omega)) tyne hk
theorem OwnL.nil (w:World) (B:Nat):OwnL w B (.slice none 0 0) []:=⟨[],World.ownsRow_nil w B _ 1,RowsN.nil _ _,Apart.nil,Off.nil _⟩
theorem OwnL.empty (w:World):OwnL (w.alloc (.cells #[] 34)) w.heap.size (.slice (some ⟨w.heap.size,0,none⟩) 0 0) []:=
 ⟨[],World.ownsRow_made w #[] 0 (Nat.le_refl _) (by simp [maxLen]) (by simp),RowsN.nil _ _,Apart.nil,Off.nil _⟩
theorem OwnL.snoc {w0 w w':World} {B:Nat} {v v' u:Value} {xs:List (List Nd)} {x:List Nd} {vs:List Value} (hr:RowsN w0 B vs xs) (ha:Apart vs) (ho:w.ownsRow B 34 1 v xs.length vs) (k:Keeps w0 w) (hu:OwnN w w0.heap.size u x) (hB:B≤w0.heap.size)
  (ho':w'.ownsRow B 34 1 v' (xs.length+1) (vs++[u])) (hg:w.grownBy w' v.ownBlock):OwnL w' B v' (xs++[x]):=by
 have hrw:=hr.keeps k;have hoff:=off_rows ho hrw;have hr':RowsN w' B vs xs:=hrw.touch (Touch.grown hg) (fun i hb e=>hoff.not_blk e.symm hb);have hu':OwnN w' B u x:=(hu.touch (Touch.grown hg) (fun i hi e=>type_ne ho hu tyne e.symm hi)).mono hB;have hrows:=RowsN.snoc hu' hr';refine ⟨vs++[u],by simpa using ho',hrows,Apart.snoc (fun i hi hb=>?_) ha,off_rows ho' hrows⟩;have:=(hu.len i hi).1;have:=(hr.lt hb).2;omega
theorem appLK {w:World} {o:Oper} {a:Act} {K:Act→World→Prop} {Q:Exit→Act→World→Prop} (s x:Operand)
  (ho:o.op=.call { callee:=.builtin .append,args:=#[s,x],argTypes:=#[24,24] }) (base:Nat) (v:Value) (xs:List (List Nd)) (hs:a.eval s=v)
  (w0:World) (hown:OwnL w0 base v xs) (k:Keeps w0 w) (u:Value) (y:List Nd) (hu:OwnN w w0.heap.size u y) (hbase:base≤w0.heap.size)
  (p:Option Addr) (c:Nat) (hx:a.eval x=.slice p 1 c) (hat:At w p [u]) (hlen:xs.length≤2147483648)
  (h:∀ v' w',OwnL w' base v' (xs++[y])→w.grownBy w' v.ownBlock→(∀ k,v.ownBlock=some k→base≤k)→K (a.put o.dst v') w'):o.wp Tryz.prog a w K Q:=by
 obtain ⟨i0,hi,hz0,hz1,hz2⟩:=info_parts infoL;obtain ⟨vs,hrow,hr,ha,_⟩:=hown
 have hone:∀ z∈[u],z.oneCell'=true:=by
  intro z hz
  simp at hz;subst hz
  obtain ⟨p,c,e,_⟩:=At.of_own hu;rw [e];rfl
 have hrow':=own_keeps hrow k;refine wp_append_at s x _ ho _ i0 _ 1 24 Tryz.underlying24 hi hz0 hz1 hz2 rfl (by decide) base v _ _ hs hrow' p 1 c [u] hx (by simp) hat hone (by unfold maxLen;omega) (by omega) (by have:=k.size;omega) ?_;intro v' w' h1 h2 h3;exact h v' w' (OwnL.snoc hr ha hrow' k hu hbase h1 h2) h2 h3
theorem appL {w:World} {ops:Array Oper} {rest:List Oper} {o:Oper} {a:Act} {Q:Exit→Act→World→Prop} (hgd:o.guard=none) (s x:Operand)
  (ho:o.op=.call { callee:=.builtin .append,args:=#[s,x],argTypes:=#[24,24] }) (base:Nat) (v:Value) (xs:List (List Nd)) (hs:a.eval s=v)
  (w0:World) (hown:OwnL w0 base v xs) (k:Keeps w0 w) (u:Value) (y:List Nd) (hu:OwnN w w0.heap.size u y) (hbase:base≤w0.heap.size)
  (p:Option Addr) (c:Nat) (hx:a.eval x=.slice p 1 c) (hat:At w p [u]) (hlen:xs.length≤2147483648)
  (h:∀ v' w',OwnL w' base v' (xs++[y])→w.grownBy w' v.ownBlock→(∀ k,v.ownBlock=some k→base≤k)→wpList Tryz.prog ops Q rest (a.put o.dst v') w'):wpList Tryz.prog ops Q (o::rest) a w:=
 wpList_plain hgd fun _ hK=>appLK s x ho base v xs hs w0 hown k u y hu hbase p c hx hat hlen fun v' w' h1 h2 h3=>hK _ _ (h v' w' h1 h2 h3)
def idL (n:Nat):List (List Nd):=(List.range n).map fun v=>(Fm.var v).enc
theorem idL_succ (n:Nat):idL (n+1)=idL n++[(Fm.var n).enc]:=by simp [idL,List.range_succ]
theorem idL_len (n:Nat):(idL n).length=n:=by simp [idL]
def RetL (w:World) (xs:List (List Nd)) (e:Ending) (w':World):Prop:=∃ v,e=.returned v∧OwnL w' w.heap.size v xs∧Keeps w w'
theorem l03Self_any (w:World):Calls Tryz.prog 81 #[] w (RetL w (idL 6)):=by
 have h0:=OwnL.empty w;have k0:=(Keeps.refl w).alloc (.cells #[] 34);go_enter Tryz.func81,Tryz.ntmps81;go_wp2
 go_loopw [1,2] (fun o i' wr=>∃ k:Nat,k≤6∧i'=.int .i64 k∧OwnL wr w.heap.size o (idL k)∧Keeps w wr) (fun _ i _=>6-(intOf i).toNat)
 case atStart=>exact ⟨0,by omega,rfl,h0,k0⟩
 case round=>
  obtain ⟨k,hk,rfl,hown,kw⟩:=hrel;clear h0 k0;have hsz:=kw.size
  by_cases hlt:k<6
  ·have hlt':(k:Int)<6:=by omega
   have hll:=idL_len k;go_wp2_with fail;refine (l02Var_any k _).mono ?_;rintro e w2 ⟨v2,rfl,hv2,k2⟩
   obtain ⟨p2,n2,c2,rfl⟩:∃ p n c,v2=.slice p n c:=by obtain ⟨p,c,e,_⟩:=At.of_own hv2;exact ⟨p,_,c,e⟩
   have k3:=k2.alloc (.cells #[.slice p2 n2 c2] 34);have hv3:=hv2.keeps ((Keeps.refl w2).alloc (.cells #[.slice p2 n2 c2] 34));have hat:=At.lit1 w2 (.slice p2 n2 c2) 34
   go_wp2_with (at_builtin;refine appL rfl _ _ rfl w.heap.size _ (idL k) rfl wr hown k3 _ _ hv3 hsz _ _ rfl hat (by omega) ?_;intro v4 w4 hv4 hg4 hr4;have k4:=(kw.trans k3).grown hg4 hr4)
   go_roundw
   case rel=>exact ⟨k+1,by omega,by go_num,by rw [idL_succ];exact hv4,k4⟩
   case measure=>simp [intOf];omega
  ·obtain rfl:k=6:=by omega
   go_wp2;go_ret;exact ⟨_,rfl,hown,kw⟩
end Go.Proofs.YtbccmdfdclomiaaGreatDoor
