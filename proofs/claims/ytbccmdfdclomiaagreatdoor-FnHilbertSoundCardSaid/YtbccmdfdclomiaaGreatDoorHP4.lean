import Derived.Test.YtbccmdfdclomiaaGreatDoorHP3
/- own -/
namespace Go.Proofs.YtbccmdfdclomiaaGreatDoor
set_option maxRecDepth 20000
set_option maxHeartbeats 4000000
open Go.RowKit
def letters6:ByteArray:=⟨#[112,113,114,115,116,117]⟩
def setIter (w:World) (g:Nat) (s:ByteArray) (p:Nat):World:={ w with heap:=w.heap.setIfInBounds g (.stringIter s p) }
theorem grown_iter (w:World) (g:Nat) (s:ByteArray) (p:Nat):w.grownBy (setIter w g s p) (some g):=
 ⟨rfl,rfl,rfl,by simp [setIter],fun k _ hk=>by
  show (w.heap.setIfInBounds g _)[k]? = w.heap[k]?
  rw [Array.getElem?_setIfInBounds_ne (fun e=>hk (by rw [e]))]⟩
theorem iter_at {w:World} {g:Nat} {s':ByteArray} {p':Nat} (h:g<w.heap.size):(setIter w g s' p').heap[g]? = some (.stringIter s' p'):=by
 show (w.heap.setIfInBounds g _)[g]? = _
 rw [Array.getElem?_setIfInBounds_self_of_lt h]
theorem run_next_at {P:Program} (w:World) (g:Nat) (s:ByteArray) (pos:Nat) (ty:TypeId) (hh:w.heap[g]? = some (.stringIter s pos)) (h:pos<s.size) (ha:(s[pos]'h).toNat<128):
  (Instr.next (.pointer (some ⟨g,0,none⟩)) true ty).run P w=.ok (.tuple #[.bool true,.int .i64 pos,.int .i32 (s[pos]'h).toNat]) (setIter w g s (pos+1)):=by
 simp only [Instr.next,getObj,setObj,Sem.run_bind,Sem.run,hh,Result.andThen,h,if_true,decode_ascii s pos h ha,setIter];simp [goInt]
theorem truth_any (w:World):Calls Tryz.prog 281 #[] w (RetN w (Fm.imp .fls .fls).enc):=by
 go_enter Tryz.func281,Tryz.ntmps281;go_wp2;go_ret;refine ⟨_,rfl,?_,(Keeps.refl w).alloc _⟩;exact ⟨rfl,.inr ⟨w.heap.size,3,_,rfl,Nat.le_refl _,heap_alloc_new w _,Nat.le_refl _,by simp [maxLen],rfl,rfl⟩⟩
theorem variable_any (v:Nat) (w:World):Calls Tryz.prog 215 #[.int .i64 v] w (RetN w (Fm.var v).enc):=by
 go_enter Tryz.func215,Tryz.ntmps215;go_wp2;go_ret;exact ⟨_,rfl,OwnN.lit1 w ⟨0,v⟩,(Keeps.refl w).alloc _⟩
theorem iNeed {w:World} {r:Nat} {s:ByteArray} {i:Nat} {b:UInt8} {l:List UInt8} {k:Int} (h:RdAt w r s i false) (hd:(bts s).drop i=b::l) (hk:k=(b.toNat:Int)):
  Calls Tryz.prog 272 #[.pointer (some ⟨r,0,none⟩),.int .u8 k] w fun e w'=>e=.returned (.tuple #[])∧RdAt w' r s (i+1) false∧w.grownBy w' (some r):=by
 have H:=hid (take_hit h hd hk);clear h hd hk;go_enter Tryz.func272,Tryz.ntmps272;go_wp2_with fail;refine H.out.mono ?_;rintro e w1 ⟨rfl,h1,g1⟩;go_wp2_with fail;refine bodyPost_end (v:=.tuple #[]) (by simp [results,Tryz.results272,go_sem]) rfl ?_;exact ⟨rfl,h1,g1⟩
theorem iAnd (x0:Fm) (xs:List Fm) (hx0:Reads 259 3 x0 (x0.txt 3)) (hxs:∀ x∈xs,Reads 259 3 x (x.txt 3)):
  Reads 235 2 (xs.foldl Fm.and x0) (x0.txt 3++Fm.behind 38 3 xs):=by
 intro w r s i rest h hd hst hlen;have hl0:=fold_and_len xs x0;rw [List.append_assoc] at hd;have hd1:=drop_more hd
 have hst1:stops 3 (Fm.behind 38 3 xs++rest):=by
  cases xs with
  | nil=>exact hst.up (by omega)
  | cons y ys=>exact ⟨fun e=>by first | omega | simp [Fm.behind],fun e=>by first | omega | simp [Fm.behind],fun e=>by omega⟩
 have H0:=hid (hx0 w r s i _ h hd hst1 (by omega));clear hd hst1 hx0;generalize hT:xs.foldl Fm.and x0=T at*;have HT:=hid hT;clear hT;have hr:=h.lt;have Hxs:=hid hxs;clear hxs;have Hd1:=hid hd1;clear hd1;have Hst:=hid hst;clear hst;clear h;go_enter Tryz.func235,Tryz.ntmps235;go_wp2_with fail;refine H0.out.mono ?_;rintro e w1 ⟨v1,rfl,hv1,h1,g1⟩;clear H0;go_wp2_with fail
 go_loopw [3] (fun a' wr=>∃ (acc:Fm) (ys:List Fm) (j:Nat),ys.foldl Fm.and acc=T∧(∀ x∈ys,Reads 259 3 x (x.txt 3))∧OwnN wr w.heap.size a' acc.enc∧RdAt wr r s j false∧w.grownBy wr (some r)∧(bts s).drop j=Fm.behind 38 3 ys++rest∧j+(Fm.behind 38 3 ys).length=i+(x0.txt 3++Fm.behind 38 3 xs).length) (fun _ wr=>match wr.cell? ⟨r,1,none⟩ with | some (.int _ n)=>s.size-n.toNat | _=>0)
 case atStart=>exact ⟨x0,xs,_,HT.out,Hxs.out,hv1,h1,g1,Hd1.out,by rw [List.length_append];omega⟩
 case round=>
  obtain ⟨acc,ys,j,hT,hys,hacc,hj,gj,hdj,hlj⟩:=hrel;have HTj:=hid hT;clear hT;have Hys:=hid hys;clear hys;have Hlj:=hid hlj;clear hlj;clear hv1 h1 g1;have hlacc:=fold_and_len ys acc;rw [HTj.out] at hlacc
  cases ys with
  | nil=>
   have HM:=hid (take_miss (k:=38) 38 hj hdj (by first | exact Hst.out.1 (by omega) | exact Hst.out.2.1 (by omega)) rfl);go_wp2_with fail;refine HM.out.mono ?_;rintro e w2 ⟨rfl,h2,k2⟩;go_wp2_with fail;go_ret;have hT:=HTj.out;simp only [List.foldl_nil] at hT;subst hT;have hl:=Hlj.out;simp only [Fm.behind,List.length_nil,Nat.add_zero] at hl;rw [hl] at h2;exact ⟨_,rfl,hacc.keeps k2,h2,grown_keeps gj k2⟩
  | cons y ys=>
   have hdj':(bts s).drop j=38::(y.txt 3++(Fm.behind 38 3 ys++rest)):=by rw [hdj];simp [Fm.behind]
   obtain ⟨hjs,_,hdj2⟩:=bts_head hdj';have HM:=hid (take_hit (k:=38) hj hdj' rfl)
   have hst1:stops 3 (Fm.behind 38 3 ys++rest):=by
    cases ys with
    | nil=>exact Hst.out.up (by omega)
    | cons z zs=>exact ⟨fun e=>by first | omega | simp [Fm.behind],fun e=>by first | omega | simp [Fm.behind],fun e=>by omega⟩
   have hT:=HTj.out;rw [List.foldl_cons] at hT;have hl2:=fold_and_len ys (Fm.and acc y);rw [hT] at hl2
   have hl3:(Fm.and acc y).enc.length=1+acc.enc.length+y.enc.length:=by simp only [Fm.enc,List.length_cons,List.length_append];omega
   have HT2:=hid hT;clear hT;have HY:=hid (fun w2 (h2:RdAt w2 r s (j+1) false)=>Hys.out y (List.mem_cons_self ..) w2 r s (j+1) _ h2 hdj2 hst1 (by omega));have Hd2:=hid (drop_more hdj2);clear hdj hdj' hdj2 hst1;go_wp2_with fail;refine HM.out.mono ?_;rintro e w2 ⟨rfl,h2,g2⟩;have hacc2:=hacc.grown g2 hr;clear hacc;go_wp2_with fail;refine (HY.out _ h2).mono ?_;rintro e w3 ⟨v3,rfl,hv3,h3,g3⟩;have hacc3:=hacc2.grown g3 hr;have hs2:=gj.size;have hs3:=g2.size;have gw3:=grown_trans gj (grown_trans g2 g3);go_wp2_with fail;refine (join_any _ _ _ _ _ _ (hacc3.nds (by omega)) (hv3.nds (by omega)) (by omega)).mono ?_;rintro e w4 ⟨v4,rfl,hv4,k4⟩;have h4:=h3.keeps k4;go_wp2_with fail;go_roundw
   case rel=>
    refine ⟨Fm.and acc y,ys,_,HT2.out,fun x hx=>Hys.out x (List.mem_cons_of_mem _ hx),hv4.mono (by have:=g3.size;omega),h4,grown_keeps gw3 k4,Hd2.out,?_⟩;have hl:=Hlj.out;simp only [Fm.behind,List.length_cons,List.length_append] at hl;simp only [List.length_append] at*;omega
   case measure=>
    have e1:=hj.c1;have e2:=h4.c1;simp [e1,e2];omega
theorem iOr (x0:Fm) (xs:List Fm) (hx0:Reads 235 2 x0 (x0.txt 2)) (hxs:∀ x∈xs,Reads 235 2 x (x.txt 2)):
  Reads 212 1 (xs.foldl Fm.or x0) (x0.txt 2++Fm.behind 124 2 xs):=by
 intro w r s i rest h hd hst hlen;have hl0:=fold_or_len xs x0;rw [List.append_assoc] at hd;have hd1:=drop_more hd
 have hst1:stops 2 (Fm.behind 124 2 xs++rest):=by
  cases xs with
  | nil=>exact hst.up (by omega)
  | cons y ys=>exact ⟨fun e=>by first | omega | simp [Fm.behind],fun e=>by first | omega | simp [Fm.behind],fun e=>by omega⟩
 have H0:=hid (hx0 w r s i _ h hd hst1 (by omega));clear hd hst1 hx0;generalize hT:xs.foldl Fm.or x0=T at*;have HT:=hid hT;clear hT;have hr:=h.lt;have Hxs:=hid hxs;clear hxs;have Hd1:=hid hd1;clear hd1;have Hst:=hid hst;clear hst;clear h;go_enter Tryz.func212,Tryz.ntmps212;go_wp2_with fail;refine H0.out.mono ?_;rintro e w1 ⟨v1,rfl,hv1,h1,g1⟩;clear H0;go_wp2_with fail
 go_loopw [3] (fun a' wr=>∃ (acc:Fm) (ys:List Fm) (j:Nat),ys.foldl Fm.or acc=T∧(∀ x∈ys,Reads 235 2 x (x.txt 2))∧OwnN wr w.heap.size a' acc.enc∧RdAt wr r s j false∧w.grownBy wr (some r)∧(bts s).drop j=Fm.behind 124 2 ys++rest∧j+(Fm.behind 124 2 ys).length=i+(x0.txt 2++Fm.behind 124 2 xs).length) (fun _ wr=>match wr.cell? ⟨r,1,none⟩ with | some (.int _ n)=>s.size-n.toNat | _=>0)
 case atStart=>exact ⟨x0,xs,_,HT.out,Hxs.out,hv1,h1,g1,Hd1.out,by rw [List.length_append];omega⟩
 case round=>
  obtain ⟨acc,ys,j,hT,hys,hacc,hj,gj,hdj,hlj⟩:=hrel;have HTj:=hid hT;clear hT;have Hys:=hid hys;clear hys;have Hlj:=hid hlj;clear hlj;clear hv1 h1 g1;have hlacc:=fold_or_len ys acc;rw [HTj.out] at hlacc
  cases ys with
  | nil=>
   have HM:=hid (take_miss (k:=124) 124 hj hdj (by first | exact Hst.out.1 (by omega) | exact Hst.out.2.1 (by omega)) rfl);go_wp2_with fail;refine HM.out.mono ?_;rintro e w2 ⟨rfl,h2,k2⟩;go_wp2_with fail;go_ret;have hT:=HTj.out;simp only [List.foldl_nil] at hT;subst hT;have hl:=Hlj.out;simp only [Fm.behind,List.length_nil,Nat.add_zero] at hl;rw [hl] at h2;exact ⟨_,rfl,hacc.keeps k2,h2,grown_keeps gj k2⟩
  | cons y ys=>
   have hdj':(bts s).drop j=124::(y.txt 2++(Fm.behind 124 2 ys++rest)):=by rw [hdj];simp [Fm.behind]
   obtain ⟨hjs,_,hdj2⟩:=bts_head hdj';have HM:=hid (take_hit (k:=124) hj hdj' rfl)
   have hst1:stops 2 (Fm.behind 124 2 ys++rest):=by
    cases ys with
    | nil=>exact Hst.out.up (by omega)
    | cons z zs=>exact ⟨fun e=>by first | omega | simp [Fm.behind],fun e=>by first | omega | simp [Fm.behind],fun e=>by omega⟩
   have hT:=HTj.out;rw [List.foldl_cons] at hT;have hl2:=fold_or_len ys (Fm.or acc y);rw [hT] at hl2
   have hl3:(Fm.or acc y).enc.length=1+acc.enc.length+y.enc.length:=by simp only [Fm.enc,List.length_cons,List.length_append];omega
   have HT2:=hid hT;clear hT;have HY:=hid (fun w2 (h2:RdAt w2 r s (j+1) false)=>Hys.out y (List.mem_cons_self ..) w2 r s (j+1) _ h2 hdj2 hst1 (by omega));have Hd2:=hid (drop_more hdj2);clear hdj hdj' hdj2 hst1;go_wp2_with fail;refine HM.out.mono ?_;rintro e w2 ⟨rfl,h2,g2⟩;have hacc2:=hacc.grown g2 hr;clear hacc;go_wp2_with fail;refine (HY.out _ h2).mono ?_;rintro e w3 ⟨v3,rfl,hv3,h3,g3⟩;have hacc3:=hacc2.grown g3 hr;have hs2:=gj.size;have hs3:=g2.size;have gw3:=grown_trans gj (grown_trans g2 g3);go_wp2_with fail;refine (join_any _ _ _ _ _ _ (hacc3.nds (by omega)) (hv3.nds (by omega)) (by omega)).mono ?_;rintro e w4 ⟨v4,rfl,hv4,k4⟩;have h4:=h3.keeps k4;go_wp2_with fail;go_roundw
   case rel=>
    refine ⟨Fm.or acc y,ys,_,HT2.out,fun x hx=>Hys.out x (List.mem_cons_of_mem _ hx),hv4.mono (by have:=g3.size;omega),h4,grown_keeps gw3 k4,Hd2.out,?_⟩;have hl:=Hlj.out;simp only [Fm.behind,List.length_cons,List.length_append] at hl;simp only [List.length_append] at*;omega
   case measure=>
    have e1:=hj.c1;have e2:=h4.c1;simp [e1,e2];omega
theorem iImply0 (t:Fm) (X:List UInt8) (hx:Reads 212 1 t X):Reads 179 0 t X:=by
 intro w r s i rest h hd hst hlen;have H0:=hid (hx w r s i _ h hd (hst.up (by omega)) hlen);have hd1:=drop_more hd;have hne:=hst.2.2 rfl;clear hd hst hx h;go_enter Tryz.func179,Tryz.ntmps179;go_wp2_with fail;refine H0.out.mono ?_;rintro e w1 ⟨v1,rfl,hv1,h1,g1⟩;have HM:=hid (take_miss (k:=62) 62 h1 hd1 hne rfl);go_wp2_with fail;refine HM.out.mono ?_;rintro e w2 ⟨rfl,h2,k2⟩;go_wp2_with fail;go_ret;exact ⟨_,rfl,hv1.keeps k2,h2,grown_keeps g1 k2⟩
theorem iImply1 (a b:Fm) (ha:Reads 212 1 a (a.txt 1)) (hb:Reads 179 0 b b.body):Reads 179 0 (Fm.imp a b) (a.txt 1++62::b.body):=by
 intro w r s i rest h hd hst hlen
 have hl3:(Fm.imp a b).enc.length=1+a.enc.length+b.enc.length:=by simp only [Fm.enc,List.length_cons,List.length_append];omega
 rw [List.append_assoc,List.cons_append] at hd;have H0:=hid (ha w r s i _ h hd ⟨fun e=>by simp,fun e=>by simp,fun e=>by omega⟩ (by omega));have hd1:=drop_more hd;have hr:=h.lt;obtain ⟨_,_,hd2⟩:=bts_head hd1;have HB:=hid (fun w2 h2=>hb w2 r s (i+(a.txt 1).length+1) _ h2 hd2 hst (by omega));clear hd hst ha hb h;go_enter Tryz.func179,Tryz.ntmps179;go_wp2_with fail;refine H0.out.mono ?_;rintro e w1 ⟨v1,rfl,hv1,h1,g1⟩;have HM:=hid (take_hit (k:=62) h1 hd1 rfl);go_wp2_with fail;refine HM.out.mono ?_;rintro e w2 ⟨rfl,h2,g2⟩;go_wp2_with fail;refine (HB.out _ h2).mono ?_;rintro e w3 ⟨v3,rfl,hv3,h3,g3⟩;have hv13:=(hv1.grown g2 hr).grown g3 hr;have gw3:=grown_trans g1 (grown_trans g2 g3);go_wp2_with fail;refine (join_any _ _ _ _ _ _ (hv13.nds (by omega)) (hv3.nds (by omega)) (by omega)).mono ?_;rintro e w4 ⟨v4,rfl,hv4,k4⟩;have h4:=h3.keeps k4;go_wp2_with fail;go_ret;refine ⟨_,rfl,hv4.mono gw3.size,?_,grown_keeps gw3 k4⟩
 simpa only [List.length_append,List.length_cons,Nat.add_assoc,Nat.add_comm 1] using h4
theorem iPrefixAtom {w:World} {r:Nat} {s:ByteArray} {i j:Nat} {c:UInt8} {l:List UInt8} {a:List Nd} (h:RdAt w r s i false) (hd:(bts s).drop i=c::l) (n1:c≠126) (n2:c≠91) (n3:c≠60)
  (H:∀ w1,RdAt w1 r s i false→Keeps w w1→Calls Tryz.prog 273 #[.pointer (some ⟨r,0,none⟩)] w1 (RetRd w1 r s j a)):Calls Tryz.prog 259 #[.pointer (some ⟨r,0,none⟩)] w (RetRd w r s j a):=by
 have HH:=hid H;clear H;go_enter Tryz.func259,Tryz.ntmps259;go_wp2_with fail;refine (take_miss (k:=126) 126 h hd (by simpa using n1) rfl).mono ?_;rintro e w1 ⟨rfl,h1,k1⟩;go_wp2_with fail;refine (take_miss (k:=91) 91 h1 hd (by simpa using n2) rfl).mono ?_;rintro e w2 ⟨rfl,h2,k2⟩;go_wp2_with fail;refine (take_miss (k:=60) 60 h2 hd (by simpa using n3) rfl).mono ?_;rintro e w3 ⟨rfl,h3,k3⟩;have k:=(k1.trans k2).trans k3;go_wp2_with fail;refine (HH.out _ h3 k).mono ?_;rintro e w4 ⟨v,rfl,hv,h4,g4⟩;go_wp2_with fail;go_ret;exact ⟨_,rfl,hv.mono k.size,h4,grown_pre0 k g4⟩
theorem iFls:Reads 259 3 .fls [70]:=by
 intro w r s i rest h hd hst hlen;refine iPrefixAtom h hd (by decide) (by decide) (by decide) ?_;intro w1 h1 k1;go_enter Tryz.func273,Tryz.ntmps273;go_wp2_with fail;refine (take_hit (k:=70) h1 hd rfl).mono ?_;rintro e w2 ⟨rfl,h2,g2⟩;go_wp2_with fail;refine (falsum_any _).mono ?_;rintro e w3 ⟨v3,rfl,hv3,k3⟩;go_wp2_with fail;go_ret;exact ⟨_,rfl,hv3.mono g2.size,h2.keeps k3,grown_keeps g2 k3⟩
theorem iTru:Reads 259 3 (.imp .fls .fls) [84]:=by
 intro w r s i rest h hd hst hlen;refine iPrefixAtom h hd (by decide) (by decide) (by decide) ?_;intro w1 h1 k1;go_enter Tryz.func273,Tryz.ntmps273;go_wp2_with fail;refine (take_miss (k:=70) 70 h1 hd (by simp) rfl).mono ?_;rintro e w2 ⟨rfl,h2,k2⟩;go_wp2_with fail;refine (take_hit (k:=84) h2 hd rfl).mono ?_;rintro e w3 ⟨rfl,h3,g3⟩;have g:=grown_pre0 k2 g3;go_wp2_with fail;refine (truth_any _).mono ?_;rintro e w4 ⟨v4,rfl,hv4,k4⟩;go_wp2_with fail;go_ret;exact ⟨_,rfl,hv4.mono g.size,h3.keeps k4,grown_keeps g k4⟩
theorem iPar (t:Fm) (ht:Reads 179 0 t t.body):Reads 259 3 t (40::(t.body++[41])):=by
 intro w r s i rest h hd hst hlen;rw [List.cons_append,List.append_assoc] at hd;refine iPrefixAtom h hd (by decide) (by decide) (by decide) ?_;obtain ⟨_,_,hd2⟩:=bts_head hd;have hd3:=drop_more hd2;have HT:=hid (fun w1 h1=>ht w1 r s (i+1) _ h1 hd2 ⟨fun e=>by simp,fun e=>by simp,fun e=>by simp⟩ hlen);clear ht;intro w1 h1 k1;have hr:=h1.lt;go_enter Tryz.func273,Tryz.ntmps273;go_wp2_with fail;refine (take_miss (k:=70) 70 h1 hd (by simp) rfl).mono ?_;rintro e w2 ⟨rfl,h2,k2⟩;go_wp2_with fail;refine (take_miss (k:=84) 84 h2 hd (by simp) rfl).mono ?_;rintro e w3 ⟨rfl,h3,k3⟩;go_wp2_with fail;refine (take_hit (k:=40) h3 hd rfl).mono ?_;rintro e w4 ⟨rfl,h4,g4⟩;have g:=grown_pre0 (k2.trans k3) g4;go_wp2_with fail;refine (HT.out _ h4).mono ?_;rintro e w5 ⟨v5,rfl,hv5,h5,g5⟩;go_wp2_with fail;refine (iNeed (k:=41) h5 hd3 rfl).mono ?_;rintro e w6 ⟨rfl,h6,g6⟩;have hr4:r<w4.heap.size:=h4.lt;go_wp2_with fail;go_ret;refine ⟨_,rfl,(hv5.grown g6 hr4).mono g.size,?_,grown_trans g (grown_trans g5 g6)⟩
 simpa only [List.length_append,List.length_cons,List.length_nil,Nat.add_assoc,Nat.add_comm 1] using h6
theorem iNot (a:Fm) (ha:Reads 259 3 a (a.txt 3)):Reads 259 3 (.imp a .fls) (126::a.txt 3):=by
 intro w r s i rest h hd hst hlen;rw [List.cons_append] at hd
 have hl3:(Fm.imp a .fls).enc.length=a.enc.length+2:=by simp only [Fm.enc,List.length_cons,List.length_append,List.length_nil]
 obtain ⟨_,_,hd2⟩:=bts_head hd;have HA:=hid (fun w1 h1=>ha w1 r s (i+1) _ h1 hd2 hst (by omega));clear ha;go_enter Tryz.func259,Tryz.ntmps259;go_wp2_with fail;refine (take_hit (k:=126) h hd rfl).mono ?_;rintro e w1 ⟨rfl,h1,g1⟩;go_wp2_with fail;refine (HA.out _ h1).mono ?_;rintro e w2 ⟨v2,rfl,hv2,h2,g2⟩;have g:=grown_trans g1 g2;go_wp2_with fail;refine (negation_any a _ _ (hv2.nds (by omega)) (by omega)).mono ?_;rintro e w3 ⟨v3,rfl,hv3,k3⟩;go_wp2_with fail;go_ret;refine ⟨_,rfl,hv3.mono g.size,?_,grown_keeps g k3⟩
 simpa only [List.length_cons,Nat.add_assoc,Nat.add_comm 1] using h2.keeps k3
theorem iBox (a:Fm) (ha:Reads 259 3 a (a.txt 3)):Reads 259 3 (.box a) (91::93::a.txt 3):=by
 intro w r s i rest h hd hst hlen;rw [List.cons_append,List.cons_append] at hd
 have hl3:(Fm.box a).enc.length=a.enc.length+1:=by simp only [Fm.enc,List.length_cons]
 obtain ⟨_,_,hd2⟩:=bts_head hd;obtain ⟨_,_,hd3⟩:=bts_head hd2;have HA:=hid (fun w1 h1=>ha w1 r s (i+1+1) _ h1 hd3 hst (by omega));clear ha;go_enter Tryz.func259,Tryz.ntmps259;go_wp2_with fail;refine (take_miss (k:=126) 126 h hd (by simp) rfl).mono ?_;rintro e wa ⟨rfl,ha1,ka⟩;go_wp2_with fail;refine (take_hit (k:=91) ha1 hd rfl).mono ?_;rintro e w1 ⟨rfl,h1,g1⟩;go_wp2_with fail;refine (iNeed (k:=93) h1 hd2 rfl).mono ?_;rintro e w2 ⟨rfl,h2,g2⟩;go_wp2_with fail;refine (HA.out _ h2).mono ?_;rintro e w3 ⟨v3,rfl,hv3,h3,g3⟩;have g:=grown_pre0 ka (grown_trans g1 (grown_trans g2 g3));go_wp2_with fail;refine (prefix_any 5 _ _ _ (hv3.nds (by omega)) (by omega)).mono ?_;rintro e w4 ⟨v4,rfl,hv4,k4⟩;go_wp2_with fail;go_ret;refine ⟨_,rfl,hv4.mono g.size,?_,grown_keeps g k4⟩
 simpa only [List.length_cons,Nat.add_assoc,Nat.add_comm 1] using h3.keeps k4
theorem iDia (a:Fm) (ha:Reads 259 3 a (a.txt 3)):Reads 259 3 (.dia a) (60::62::a.txt 3):=by
 intro w r s i rest h hd hst hlen;rw [List.cons_append,List.cons_append] at hd
 have hl3:(Fm.dia a).enc.length=a.enc.length+1:=by simp only [Fm.enc,List.length_cons]
 obtain ⟨_,_,hd2⟩:=bts_head hd;obtain ⟨_,_,hd3⟩:=bts_head hd2;have HA:=hid (fun w1 h1=>ha w1 r s (i+1+1) _ h1 hd3 hst (by omega));clear ha;go_enter Tryz.func259,Tryz.ntmps259;go_wp2_with fail;refine (take_miss (k:=126) 126 h hd (by simp) rfl).mono ?_;rintro e wa ⟨rfl,ha1,ka⟩;go_wp2_with fail;refine (take_miss (k:=91) 91 ha1 hd (by simp) rfl).mono ?_;rintro e wb ⟨rfl,hb1,kb⟩;go_wp2_with fail;refine (take_hit (k:=60) hb1 hd rfl).mono ?_;rintro e w1 ⟨rfl,h1,g1⟩;go_wp2_with fail;refine (iNeed (k:=62) h1 hd2 rfl).mono ?_;rintro e w2 ⟨rfl,h2,g2⟩;go_wp2_with fail;refine (HA.out _ h2).mono ?_;rintro e w3 ⟨v3,rfl,hv3,h3,g3⟩;have g:=grown_pre0 (ka.trans kb) (grown_trans g1 (grown_trans g2 g3));go_wp2_with fail;refine (prefix_any 6 _ _ _ (hv3.nds (by omega)) (by omega)).mono ?_;rintro e w4 ⟨v4,rfl,hv4,k4⟩;go_wp2_with fail;go_ret;refine ⟨_,rfl,hv4.mono g.size,?_,grown_keeps g k4⟩
 simpa only [List.length_cons,Nat.add_assoc,Nat.add_comm 1] using h3.keeps k4
theorem iVar (v:Nat) (hv6:v<6):Reads 259 3 (.var v) [UInt8.ofNat (112+v)]:=by
 intro w r s i rest h hd hst hlen
 have hb:∀ k,k<6→(UInt8.ofNat (112+k)).toNat=112+k:=fun k hk=>by rw [UInt8.toNat_ofNat'];omega
 have hne:∀ k:Nat,k<112→UInt8.ofNat (112+v)≠UInt8.ofNat k:=by
  intro k hk e;have:=congrArg UInt8.toNat e;rw [hb v hv6,UInt8.toNat_ofNat'] at this;omega
 refine iPrefixAtom h hd ?_ (hne 91 (by omega)) (hne 60 (by omega)) ?_
 ·intro e
  have:=congrArg UInt8.toNat e;rw [hb v hv6] at this
  simp at this;omega
 intro w1 h1 k1;have hr:=h1.lt;have HN:=hid hne;clear hne;have HB:=hid hb;clear hb;go_enter Tryz.func273,Tryz.ntmps273;go_wp2_with fail;refine (take_miss (k:=70) 70 h1 hd (by simpa using HN.out 70 (by omega)) rfl).mono ?_;rintro e w2 ⟨rfl,h2,k2⟩;go_wp2_with fail;refine (take_miss (k:=84) 84 h2 hd (by simpa using HN.out 84 (by omega)) rfl).mono ?_;rintro e w3 ⟨rfl,h3,k3⟩;go_wp2_with fail;refine (take_miss (k:=40) 40 h3 hd (by simpa using HN.out 40 (by omega)) rfl).mono ?_;rintro e w4 ⟨rfl,h4,k4⟩;have k:=(k2.trans k3).trans k4;have HD:=hid hd;clear hd;go_wp2_with fail
 go_loopw [4] (fun _ wr=>∃ q:Nat,q≤v∧wr.heap[w4.heap.size]? = some (.stringIter letters6 q)∧Keeps w4 wr) (fun _ wr=>6-wr.iterPos w4.heap.size)
 case atStart=>exact ⟨0,by omega,World.iter_heap ..,(Keeps.refl w4).alloc _⟩
 case round=>
  obtain ⟨q,hqv,hit,kj⟩:=hrel;have hgl:w4.heap.size<wr.heap.size:=(Array.getElem?_eq_some_iff.1 hit).1
  have hq6:q=0∨q=1∨q=2∨q=3∨q=4∨q=5:=by omega
  rcases hq6 with rfl | rfl | rfl | rfl | rfl | rfl
  ·have hnx:∀ ty,(Instr.next (.pointer (some ⟨w4.heap.size,0,none⟩)) true ty).run Tryz.prog wr=_:=fun ty=>run_next_at wr _ letters6 0 ty hit (by decide) (by decide)
   have k5:=kj.grown (grown_iter wr w4.heap.size letters6 (0+1)) (fun k hk=>by cases hk;omega);have hi5:=iter_at (s':=letters6) (p':=0+1) hgl;have hit0:=hit
   have hs5:(setIter wr w4.heap.size letters6 (0+1)).heap.size=wr.heap.size:=by simp [setIter]
   by_cases e:0=v
   ·subst e
    have HM:=hid (take_hit (k:=112) (h4.keeps k5) HD.out rfl);clear hit;go_wp2_with fail;refine HM.out.mono ?_;rintro e w6 ⟨rfl,h6,g6⟩;go_wp2_with fail;refine (variable_any 0 _).mono ?_;rintro e w7 ⟨v7,rfl,hv7,k7⟩;have gg:=grown_pre0 (k.trans k5) g6;go_wp2_with fail;go_ret;exact ⟨_,rfl,hv7.mono gg.size,h6.keeps k7,grown_keeps gg k7⟩
   ·have hnev:(UInt8.ofNat (112+v)::([]++rest)).head? ≠ some (UInt8.ofNat 112):=by
     intro e2;have:=congrArg UInt8.toNat (Option.some.inj e2);rw [HB.out v hv6] at this
     simp at this;omega
    have HM:=hid (take_miss (k:=112) (UInt8.ofNat 112) (h4.keeps k5) HD.out hnev rfl);clear hit hnev;have He:=hid e;clear e;go_wp2_with fail;refine HM.out.mono ?_;rintro e w6 ⟨rfl,h6,k6⟩;have hi6:w6.heap[w4.heap.size]? = some (.stringIter letters6 (0+1)):=(k6.block (by omega)).trans hi5;go_wp2_with fail;go_roundw
    case rel=>exact ⟨0+1,by have:=He.out;omega,hi6,k5.trans k6⟩
    case measure=>simp [World.iterPos,hi6,hit0]
  ·have hnx:∀ ty,(Instr.next (.pointer (some ⟨w4.heap.size,0,none⟩)) true ty).run Tryz.prog wr=_:=fun ty=>run_next_at wr _ letters6 1 ty hit (by decide) (by decide)
   have k5:=kj.grown (grown_iter wr w4.heap.size letters6 (1+1)) (fun k hk=>by cases hk;omega);have hi5:=iter_at (s':=letters6) (p':=1+1) hgl;have hit0:=hit
   have hs5:(setIter wr w4.heap.size letters6 (1+1)).heap.size=wr.heap.size:=by simp [setIter]
   by_cases e:1=v
   ·subst e
    have HM:=hid (take_hit (k:=113) (h4.keeps k5) HD.out rfl);clear hit;go_wp2_with fail;refine HM.out.mono ?_;rintro e w6 ⟨rfl,h6,g6⟩;go_wp2_with fail;refine (variable_any 1 _).mono ?_;rintro e w7 ⟨v7,rfl,hv7,k7⟩;have gg:=grown_pre0 (k.trans k5) g6;go_wp2_with fail;go_ret;exact ⟨_,rfl,hv7.mono gg.size,h6.keeps k7,grown_keeps gg k7⟩
   ·have hnev:(UInt8.ofNat (112+v)::([]++rest)).head? ≠ some (UInt8.ofNat 113):=by
     intro e2;have:=congrArg UInt8.toNat (Option.some.inj e2);rw [HB.out v hv6] at this
     simp at this;omega
    have HM:=hid (take_miss (k:=113) (UInt8.ofNat 113) (h4.keeps k5) HD.out hnev rfl);clear hit hnev;have He:=hid e;clear e;go_wp2_with fail;refine HM.out.mono ?_;rintro e w6 ⟨rfl,h6,k6⟩;have hi6:w6.heap[w4.heap.size]? = some (.stringIter letters6 (1+1)):=(k6.block (by omega)).trans hi5;go_wp2_with fail;go_roundw
    case rel=>exact ⟨1+1,by have:=He.out;omega,hi6,k5.trans k6⟩
    case measure=>simp [World.iterPos,hi6,hit0]
  ·have hnx:∀ ty,(Instr.next (.pointer (some ⟨w4.heap.size,0,none⟩)) true ty).run Tryz.prog wr=_:=fun ty=>run_next_at wr _ letters6 2 ty hit (by decide) (by decide)
   have k5:=kj.grown (grown_iter wr w4.heap.size letters6 (2+1)) (fun k hk=>by cases hk;omega);have hi5:=iter_at (s':=letters6) (p':=2+1) hgl;have hit0:=hit
   have hs5:(setIter wr w4.heap.size letters6 (2+1)).heap.size=wr.heap.size:=by simp [setIter]
   by_cases e:2=v
   ·subst e
    have HM:=hid (take_hit (k:=114) (h4.keeps k5) HD.out rfl);clear hit;go_wp2_with fail;refine HM.out.mono ?_;rintro e w6 ⟨rfl,h6,g6⟩;go_wp2_with fail;refine (variable_any 2 _).mono ?_;rintro e w7 ⟨v7,rfl,hv7,k7⟩;have gg:=grown_pre0 (k.trans k5) g6;go_wp2_with fail;go_ret;exact ⟨_,rfl,hv7.mono gg.size,h6.keeps k7,grown_keeps gg k7⟩
   ·have hnev:(UInt8.ofNat (112+v)::([]++rest)).head? ≠ some (UInt8.ofNat 114):=by
     intro e2;have:=congrArg UInt8.toNat (Option.some.inj e2);rw [HB.out v hv6] at this
     simp at this;omega
    have HM:=hid (take_miss (k:=114) (UInt8.ofNat 114) (h4.keeps k5) HD.out hnev rfl);clear hit hnev;have He:=hid e;clear e;go_wp2_with fail;refine HM.out.mono ?_;rintro e w6 ⟨rfl,h6,k6⟩;have hi6:w6.heap[w4.heap.size]? = some (.stringIter letters6 (2+1)):=(k6.block (by omega)).trans hi5;go_wp2_with fail;go_roundw
    case rel=>exact ⟨2+1,by have:=He.out;omega,hi6,k5.trans k6⟩
    case measure=>simp [World.iterPos,hi6,hit0]
  ·have hnx:∀ ty,(Instr.next (.pointer (some ⟨w4.heap.size,0,none⟩)) true ty).run Tryz.prog wr=_:=fun ty=>run_next_at wr _ letters6 3 ty hit (by decide) (by decide)
   have k5:=kj.grown (grown_iter wr w4.heap.size letters6 (3+1)) (fun k hk=>by cases hk;omega);have hi5:=iter_at (s':=letters6) (p':=3+1) hgl;have hit0:=hit
   have hs5:(setIter wr w4.heap.size letters6 (3+1)).heap.size=wr.heap.size:=by simp [setIter]
   by_cases e:3=v
   ·subst e
    have HM:=hid (take_hit (k:=115) (h4.keeps k5) HD.out rfl);clear hit;go_wp2_with fail;refine HM.out.mono ?_;rintro e w6 ⟨rfl,h6,g6⟩;go_wp2_with fail;refine (variable_any 3 _).mono ?_;rintro e w7 ⟨v7,rfl,hv7,k7⟩;have gg:=grown_pre0 (k.trans k5) g6;go_wp2_with fail;go_ret;exact ⟨_,rfl,hv7.mono gg.size,h6.keeps k7,grown_keeps gg k7⟩
   ·have hnev:(UInt8.ofNat (112+v)::([]++rest)).head? ≠ some (UInt8.ofNat 115):=by
     intro e2;have:=congrArg UInt8.toNat (Option.some.inj e2);rw [HB.out v hv6] at this
     simp at this;omega
    have HM:=hid (take_miss (k:=115) (UInt8.ofNat 115) (h4.keeps k5) HD.out hnev rfl);clear hit hnev;have He:=hid e;clear e;go_wp2_with fail;refine HM.out.mono ?_;rintro e w6 ⟨rfl,h6,k6⟩;have hi6:w6.heap[w4.heap.size]? = some (.stringIter letters6 (3+1)):=(k6.block (by omega)).trans hi5;go_wp2_with fail;go_roundw
    case rel=>exact ⟨3+1,by have:=He.out;omega,hi6,k5.trans k6⟩
    case measure=>simp [World.iterPos,hi6,hit0]
  ·have hnx:∀ ty,(Instr.next (.pointer (some ⟨w4.heap.size,0,none⟩)) true ty).run Tryz.prog wr=_:=fun ty=>run_next_at wr _ letters6 4 ty hit (by decide) (by decide)
   have k5:=kj.grown (grown_iter wr w4.heap.size letters6 (4+1)) (fun k hk=>by cases hk;omega);have hi5:=iter_at (s':=letters6) (p':=4+1) hgl;have hit0:=hit
   have hs5:(setIter wr w4.heap.size letters6 (4+1)).heap.size=wr.heap.size:=by simp [setIter]
   by_cases e:4=v
   ·subst e
    have HM:=hid (take_hit (k:=116) (h4.keeps k5) HD.out rfl);clear hit;go_wp2_with fail;refine HM.out.mono ?_;rintro e w6 ⟨rfl,h6,g6⟩;go_wp2_with fail;refine (variable_any 4 _).mono ?_;rintro e w7 ⟨v7,rfl,hv7,k7⟩;have gg:=grown_pre0 (k.trans k5) g6;go_wp2_with fail;go_ret;exact ⟨_,rfl,hv7.mono gg.size,h6.keeps k7,grown_keeps gg k7⟩
   ·have hnev:(UInt8.ofNat (112+v)::([]++rest)).head? ≠ some (UInt8.ofNat 116):=by
     intro e2;have:=congrArg UInt8.toNat (Option.some.inj e2);rw [HB.out v hv6] at this
     simp at this;omega
    have HM:=hid (take_miss (k:=116) (UInt8.ofNat 116) (h4.keeps k5) HD.out hnev rfl);clear hit hnev;have He:=hid e;clear e;go_wp2_with fail;refine HM.out.mono ?_;rintro e w6 ⟨rfl,h6,k6⟩;have hi6:w6.heap[w4.heap.size]? = some (.stringIter letters6 (4+1)):=(k6.block (by omega)).trans hi5;go_wp2_with fail;go_roundw
    case rel=>exact ⟨4+1,by have:=He.out;omega,hi6,k5.trans k6⟩
    case measure=>simp [World.iterPos,hi6,hit0]
  ·have hnx:∀ ty,(Instr.next (.pointer (some ⟨w4.heap.size,0,none⟩)) true ty).run Tryz.prog wr=_:=fun ty=>run_next_at wr _ letters6 5 ty hit (by decide) (by decide)
   have k5:=kj.grown (grown_iter wr w4.heap.size letters6 (5+1)) (fun k hk=>by cases hk;omega);have hi5:=iter_at (s':=letters6) (p':=5+1) hgl;have hit0:=hit
   have hs5:(setIter wr w4.heap.size letters6 (5+1)).heap.size=wr.heap.size:=by simp [setIter]
   by_cases e:5=v
   ·subst e
    have HM:=hid (take_hit (k:=117) (h4.keeps k5) HD.out rfl);clear hit;go_wp2_with fail;refine HM.out.mono ?_;rintro e w6 ⟨rfl,h6,g6⟩;go_wp2_with fail;refine (variable_any 5 _).mono ?_;rintro e w7 ⟨v7,rfl,hv7,k7⟩;have gg:=grown_pre0 (k.trans k5) g6;go_wp2_with fail;go_ret;exact ⟨_,rfl,hv7.mono gg.size,h6.keeps k7,grown_keeps gg k7⟩
   ·have hnev:(UInt8.ofNat (112+v)::([]++rest)).head? ≠ some (UInt8.ofNat 117):=by
     intro e2;have:=congrArg UInt8.toNat (Option.some.inj e2);rw [HB.out v hv6] at this
     simp at this;omega
    have HM:=hid (take_miss (k:=117) (UInt8.ofNat 117) (h4.keeps k5) HD.out hnev rfl);clear hit hnev;have He:=hid e;clear e;go_wp2_with fail;refine HM.out.mono ?_;rintro e w6 ⟨rfl,h6,k6⟩;have hi6:w6.heap[w4.heap.size]? = some (.stringIter letters6 (5+1)):=(k6.block (by omega)).trans hi5;go_wp2_with fail;go_roundw
    case rel=>exact ⟨5+1,by have:=He.out;omega,hi6,k5.trans k6⟩
    case measure=>simp [World.iterPos,hi6,hit0]
end Go.Proofs.YtbccmdfdclomiaaGreatDoor
