import Derived.Test.YtbccmdfdclomiaaGreatDoorHMJ
/- own -/
namespace Go.Proofs.YtbccmdfdclomiaaGreatDoor
set_option maxRecDepth 100000
set_option maxHeartbeats 4000000
open Go.RowKit
theorem elT_take (G:List Fm) (i:Nat) (h:i<(subT G).length):((subT G).take (i+1)).filter (fun s=>isEl (txF s))=((subT G).take i).filter (fun s=>isEl (txF s))++(if isEl (txF (subT G)[i]) then [(subT G)[i]] else []):=by
 rw [List.take_succ_eq_append_getElem h,List.filter_append]
 by_cases hb:isEl (txF (subT G)[i])=true
 ·rw [if_pos hb];simp [hb]
 ·rw [if_neg hb];simp [hb]
noncomputable def elTo (G:List Fm) (i:Nat):List ByteArray:=((subT G).take i).filter (fun s=>isEl (txF s))
theorem elTo_zero (G:List Fm):elTo G 0=[]:=by simp [elTo]
theorem elTo_end (G:List Fm):elTo G (subT G).length=elT G:=by unfold elTo elT;rw [List.take_length]
theorem elTo_len (G:List Fm) (i:Nat):(elTo G i).length≤i:=by
 unfold elTo;exact Nat.le_trans (List.length_filter_le _ _) (by rw [List.length_take];exact Nat.min_le_left _ _)
theorem elTo_yes {G:List Fm} {i:Nat} (h:i<(subT G).length) (he:isEl (txF (subT G)[i])=true):elTo G (i+1)=elTo G i++[(subT G)[i]]:=by
 unfold elTo;rw [elT_take G i h,if_pos he]
theorem elTo_no {G:List Fm} {i:Nat} (h:i<(subT G).length) (he:isEl (txF (subT G)[i])=false):elTo G (i+1)=elTo G i:=by
 unfold elTo;rw [elT_take G i h,he];simp
theorem compact_len (zs:List (List UInt8)):(Lib.compact zs).length≤zs.length:=(compact_sub zs).length_le
theorem subT_len {G:List Fm} (h:Fine G):(subT G).length≤40*G.length:=by
 unfold subT sortB;rw [List.length_map];refine Nat.le_trans (compact_len _) ?_;rw [List.length_mergeSort,List.length_map];exact subG_len h
theorem el_kind (t:Fm):(isEl t=true∧(t.kind=0∨t.kind=5∨t.kind=6))∨(isEl t=false∧(t.kind=1∨t.kind=2∨t.kind=3∨t.kind=4)):=by
 cases t<;>simp [isEl,Fm.kind]
def elCells:List ByteArray→List Value→List Value
 | s::ss,u::us=>.string s::u::elCells ss us
 | _,_=>[]
theorem elCells_len:∀ (ss:List ByteArray) (us:List Value),ss.length=us.length→(elCells ss us).length=ss.length*2
 | [],[],_=>rfl
 | s::ss,u::us,h=>by
  have:=elCells_len ss us (by simpa using h);simp only [elCells,List.length_cons,this];omega
 | [],_::_,h=>by simp at h
 | _::_,[],h=>by simp at h
theorem elCells_snoc:∀ (ss:List ByteArray) (us:List Value) (s:ByteArray) (u:Value),ss.length=us.length→elCells (ss++[s]) (us++[u])=elCells ss us++[.string s,u]
 | [],[],_,_,_=>rfl
 | x::ss,y::us,s,u,h=>by
  have:=elCells_snoc ss us s u (by simpa using h);simp only [List.cons_append,elCells,this]
 | [],_::_,_,_,h=>by simp at h
 | _::_,[],_,_,h=>by simp at h
theorem elCells_get:∀ (ss:List ByteArray) (us:List Value) (i:Nat) (h1:i<ss.length) (h2:i<us.length),(elCells ss us)[i*2]? = some (.string ss[i])∧(elCells ss us)[i*2+1]? = some us[i]
 | s::ss,u::us,0,_,_=>by simp [elCells]
 | s::ss,u::us,i+1,h1,h2=>by
  have:=elCells_get ss us i (by simpa using h1) (by simpa using h2)
  simpa [elCells,Nat.add_mul] using this
theorem tyneE:(185:TypeId)≠74:=by decide
theorem infoE:(Tryz.prog.info? 185).map (fun i=>(i.zero,i.size,i.bytes))=some (some (.agg #[.string ⟨#[]⟩,.slice none 0 0]),2,40):=by kernel_rfl
def OwnE (w:World) (B:Nat) (v:Value) (ss:List ByteArray) (xs:List (List Nd)):Prop:=
 ∃ us,w.ownsRow B 185 2 v ss.length (elCells ss us)∧RowsN w B us xs∧ss.length=xs.length
theorem OwnE.nil (w:World) (B:Nat):OwnE w B (.slice none 0 0) [] []:=⟨[],World.ownsRow_nil w B _ 2,RowsN.nil _ _,rfl⟩
theorem OwnE.keeps {w w':World} {B:Nat} {v:Value} {ss:List ByteArray} {xs:List (List Nd)} (h:OwnE w B v ss xs) (k:Keeps w w'):OwnE w' B v ss xs:=by
 obtain ⟨us,h1,h2,h3⟩:=h;exact ⟨us,own_keeps h1 k,h2.keeps k,h3⟩
theorem OwnE.mono {w:World} {B B':Nat} {v:Value} {ss:List ByteArray} {xs:List (List Nd)} (h:OwnE w B v ss xs) (k:B'≤B):OwnE w B' v ss xs:=by
 obtain ⟨us,h1,h2,h3⟩:=h;exact ⟨us,own_mono h1 k,h2.mono k,h3⟩
def ElL (w:World) (v:Value) (ss:List ByteArray) (xs:List (List Nd)):Prop:=
 ∃ p cap,v=.slice p ss.length cap∧ss.length≤cap∧cap≤maxLen∧ss.length=xs.length∧ss.length≤2147483648∧
  ∀ i (h1:i<ss.length) (h2:i<xs.length),∃ b off u,p=some ⟨b,off,none⟩∧w.cell? ⟨b,off+i*2,none⟩=some (.string ss[i])∧w.cell? ⟨b,off+i*2+1,none⟩=some u∧Nds w u xs[i]
theorem ElL.keeps {w w':World} {v:Value} {ss:List ByteArray} {xs:List (List Nd)} (h:ElL w v ss xs) (k:Keeps w w'):ElL w' v ss xs:=by
 obtain ⟨p,cap,h1,h2,h3,h4,h5,h6⟩:=h;refine ⟨p,cap,h1,h2,h3,h4,h5,fun i a b=>?_⟩;obtain ⟨bb,off,u,e1,e2,e3,e4⟩:=h6 i a b;exact ⟨bb,off,u,e1,k.cell e2,k.cell e3,e4.keeps k⟩
theorem OwnE.elL {w:World} {B:Nat} {v:Value} {ss:List ByteArray} {xs:List (List Nd)} (h:OwnE w B v ss xs) (hl:ss.length≤2147483648) (hx:∀ x∈xs,x.length≤2147483648):ElL w v ss xs:=by
 obtain ⟨us,h1,h2,h3⟩:=h
 have hul:us.length=ss.length:=by rw [h2.1,h3]
 obtain ⟨p,cap,e,hn,hm,hat⟩:=At.of_own h1;refine ⟨p,cap,e,hn,hm,h3,hl,fun i a b=>?_⟩;obtain ⟨g1,g2⟩:=elCells_get ss us i a (by omega);have l2:=elCells_len ss us hul.symm;obtain ⟨bb,off,hp,hc⟩:=hat (i*2) (by omega);obtain ⟨bb',off',hp',hc'⟩:=hat (i*2+1) (by omega);rw [hp] at hp'
 cases hp'
 rw [List.getElem?_eq_getElem (by omega)] at g1 g2;rw [Option.some.inj g1] at hc;rw [Option.some.inj g2] at hc';exact ⟨bb,off,us[i]'(by omega),hp,hc,by rw [Nat.add_assoc];exact hc',(h2.2 i (by omega) b).nds (hx _ (List.getElem_mem b))⟩
theorem appEK {w:World} {o:Oper} {a:Act} {K:Act→World→Prop} {Q:Exit→Act→World→Prop} (s x:Operand)
  (ho:o.op=.call { callee:=.builtin .append,args:=#[s,x],argTypes:=#[155,155] }) (base:Nat) (v:Value) (ss:List ByteArray) (xs:List (List Nd)) (hs:a.eval s=v)
  (w0:World) (hown:OwnE w0 base v ss xs) (k:Keeps w0 w) (t:ByteArray) (u:Value) (y:List Nd) (hu:OwnN w w0.heap.size u y) (hbase:base≤w0.heap.size)
  (p:Option Addr) (c:Nat) (hx:a.eval x=.slice p 1 c) (hat:At w p [.string t,u]) (hlen:ss.length≤1000000)
  (h:∀ v' w',OwnE w' base v' (ss++[t]) (xs++[y])→w.grownBy w' v.ownBlock→(∀ k,v.ownBlock=some k→base≤k)→K (a.put o.dst v') w'):o.wp Tryz.prog a w K Q:=by
 obtain ⟨i0,hi,hz0,hz1,hz2⟩:=info_parts infoE;obtain ⟨us,hrow,hr,hxl⟩:=hown
 have hone:∀ z∈[Value.string t,u],z.oneCell'=true:=by
  intro z hz
  simp at hz
  rcases hz with rfl | rfl
  ·rfl
  ·obtain ⟨p,c,e,_⟩:=At.of_own hu
   rw [e];rfl
 have hrow':=own_keeps hrow k;refine wp_append_at s x _ ho _ i0 _ 2 40 Tryz.underlying155 hi hz0 hz1 hz2 rfl (by decide) base v _ _ hs hrow' p 1 c [.string t,u] hx (by simp) hat hone (by unfold maxLen;omega) (by omega) (by have:=k.size;omega) ?_;intro v' w' h1 h2 h3;refine h v' w' ⟨us++[u],?_,?_,by simp [hxl]⟩ h2 h3
 ·rw [elCells_snoc _ _ _ _ (by rw [hr.1,hxl]),List.length_append]
  exact h1
 ·have hrw:=hr.keeps k
  have hoff:∀ i,v.ownBlock=some i→¬blk us i:=fun i hv ⟨j,hj,e⟩=>type_ne hrow' (hrw.2 j hj (by have:=hrw.1;omega)) tyneE hv e
  refine RowsN.snoc ?_ (hrw.touch (Touch.grown h2) (fun i hb e=>hoff i e.symm hb));exact (hu.touch (Touch.grown h2) (fun i hi e=>type_ne hrow' hu tyneE e.symm hi)).mono hbase
theorem appE {w:World} {ops:Array Oper} {rest:List Oper} {o:Oper} {a:Act} {Q:Exit→Act→World→Prop} (hgd:o.guard=none) (s x:Operand)
  (ho:o.op=.call { callee:=.builtin .append,args:=#[s,x],argTypes:=#[155,155] }) (base:Nat) (v:Value) (ss:List ByteArray) (xs:List (List Nd)) (hs:a.eval s=v)
  (w0:World) (hown:OwnE w0 base v ss xs) (k:Keeps w0 w) (t:ByteArray) (u:Value) (y:List Nd) (hu:OwnN w w0.heap.size u y) (hbase:base≤w0.heap.size)
  (p:Option Addr) (c:Nat) (hx:a.eval x=.slice p 1 c) (hat:At w p [.string t,u]) (hlen:ss.length≤1000000)
  (h:∀ v' w',OwnE w' base v' (ss++[t]) (xs++[y])→w.grownBy w' v.ownBlock→(∀ k,v.ownBlock=some k→base≤k)→wpList Tryz.prog ops Q rest (a.put o.dst v') w'):wpList Tryz.prog ops Q (o::rest) a w:=
 wpList_plain hgd fun _ hK=>appEK s x ho base v ss xs hs w0 hown k t u y hu hbase p c hx hat hlen fun v' w' h1 h2 h3=>hK _ _ (h v' w' h1 h2 h3)
theorem At.lit2 (w:World) (t:ByteArray) (u:Value) (E:TypeId):At (w.alloc (.cells #[.string t,u] E)) (some ⟨w.heap.size,0,none⟩) [.string t,u]:=by
 intro j hj
 match j,hj with
 | 0,_=>exact ⟨_,_,rfl,by simp⟩
 | 1,_=>exact ⟨_,_,rfl,by simp⟩
theorem elementaryParts_any (ss tt:List ByteArray) (v u:Value) (w:World) (hv:Strs w v ss) (hu:Strs w u tt) (hs:Side ss) (ht:Side tt) (h16:ss.length≤16) (h16':tt.length≤16):
  Calls Tryz.prog 136 #[.agg #[v,u]] w fun e w'=>∃ r,e=.returned r∧OwnE w' w.heap.size r (elT (fmL (ss++tt))) ((elF (fmL (ss++tt))).map Fm.enc)∧Keeps w w':=by
 have kA:=(Keeps.refl w).alloc (.cells #[v,u] 85);obtain ⟨c0,c1⟩:=BoxQ.made w v u 85;have HF:=hid (formulas_any ss tt v u _ (hv.keeps kA) (hu.keeps kA) (by omega))
 have hst:∀ s∈ss++tt,∃ t,IsTx s t:=fun s h=>(List.mem_append.1 h).elim (hs.1 s) (ht.1 s)
 have HFO:=hid (fun v' wz (hz:Strs wz v' (ss++tt))=>formulasOf_any (ss++tt) hst v' wz hz)
 have hG:Fine (fmL (ss++tt)):=by rw [fmL_append];exact (fmL_fine hs).append (fmL_fine ht)
 have hGl:(fmL (ss++tt)).length≤32:=by rw [fmL_len,List.length_append];omega
 have htot:=encs_tot hG;have HSU:=hid (fun v' wz (hz:NdsL wz v' ((fmL (ss++tt)).map Fm.enc))=>subformulas_any (fmL (ss++tt)) hG (by omega) v' wz hz);have hTL:=subT_len hG
 have HTX:Hid (∀ i (h:i<(subT (fmL (ss++tt))).length),IsTx (subT (fmL (ss++tt)))[i] (txF (subT (fmL (ss++tt)))[i])):=hid (fun i h=>by
  obtain ⟨t,_,h2⟩:=subT_tx hG (List.getElem_mem h)
  exact txF_tx ⟨t,h2⟩)
 have HEF:Hid ((elF (fmL (ss++tt))).map Fm.enc=(elT (fmL (ss++tt))).map (fun s=>(txF s).enc)):=hid (by unfold elF;rw [List.map_map];rfl);rw [HEF.out]
 have hl2:(ss++tt).length≤32:=by rw [List.length_append];omega
 obtain ⟨p,c,rfl,_⟩:=hv.shape;obtain ⟨q,c2,rfl,_⟩:=hu.shape;clear hv hu hs ht hst hG HEF;generalize fmL (ss++tt)=G at*;generalize ss++tt=st at*;have HZ:=hid (elTo_zero G);have HEN:=hid (elTo_end G);have HLN:=hid (elTo_len G);have HY:=hid (fun i (h:i<(subT G).length)=>elTo_yes h);have HNO:=hid (fun i (h:i<(subT G).length)=>elTo_no h);go_enter Tryz.func136,Tryz.ntmps136;go_wp2_with fail;refine HF.out.mono ?_;rintro e w2 ⟨v2,rfl,hv2,k2⟩;have HFO2:=hid (HFO.out v2 w2 (hv2.strs (by omega)));go_wp2_with fail;refine HFO2.out.mono ?_;rintro e w3 ⟨v3,rfl,hv3,k3⟩;have HSU3:=hid (HSU.out v3 w3 (hv3.ndsL (by rw [List.length_map];omega) (by omega)));go_wp2_with fail;refine HSU3.out.mono ?_;rintro e w4 ⟨v4,rfl,hv4,k4⟩;have kk:=((kA.trans k2).trans k3).trans k4;have HV4:=hid (hv4.strs (by omega));obtain ⟨p4,c4,e4,hle4,hmx4,_⟩:=(hv4.strs (by omega)).shape;subst e4;unfold maxLen at hmx4;clear hv2 hv3 hv4;go_wp2
 go_loopw [3,12] (fun o i' wr=>∃ i:Nat,i≤(subT G).length∧i'=.int .i64 i∧OwnE wr w4.heap.size o (elTo G i) ((elTo G i).map (fun s=>(txF s).enc))∧Keeps w4 wr) (fun _ i' _=>(subT G).length-(intOf i').toNat)
 case atStart=>exact ⟨0,by omega,rfl,by rw [HZ.out];exact OwnE.nil _ _,Keeps.refl _⟩
 case round=>
  obtain ⟨i,hi,rfl,hown,kw⟩:=hrel
  by_cases hlt:i<(subT G).length
  ·have hlt':(i:Int)<(subT G).length:=by omega
   obtain ⟨b1,o1,rfl,h1⟩:=(HV4.out.keeps kw).get i hlt;have htx:=HTX.out i hlt;have HP:=hid (parsedT _ _ wr htx);have h40:=htx.2.2;have hy:=HY.out i hlt;have hno:=HNO.out i hlt;have HYS:=hid hy;clear hy;have HNS:=hid hno;clear hno;have hll:=HLN.out i;have hsz:=kw.size;clear htx;generalize (subT G)[i]=x at*;generalize hT:txF x=t at*;have HT:=hid hT;clear hT;go_wp2_with fail;refine HP.out.mono ?_;rintro e w5 ⟨v5,rfl,hv5,k5⟩;have hnd:=hv5.nds (by omega);obtain ⟨b5,o5,n5,c5,rfl,hn0,hn1,hn2,hn3,hc,_⟩:=hnd.root;have hv6:=hv5.keeps ((Keeps.refl w5).alloc (.cells #[.string x,.slice (some ⟨b5,o5,none⟩) n5 c5] 185));have k6:=k5.alloc (.cells #[.string x,.slice (some ⟨b5,o5,none⟩) n5 c5] 185);have hat:=At.lit2 w5 x (.slice (some ⟨b5,o5,none⟩) n5 c5) 185;unfold maxLen at hn2;clear hnd hv5
   rcases el_kind t with ⟨he,hk⟩ | ⟨he,hk⟩
   ·rcases hk with hk | hk | hk
    ·rw [hk] at hc
     go_wp2_with (at_builtin;refine appE rfl _ _ rfl w4.heap.size _ (elTo G i) ((elTo G i).map (fun s=>(txF s).enc)) rfl wr hown k6 x _ t.enc hv6 hsz _ _ rfl hat (by omega) ?_;intro v7 w7 hv7 hg7 hr7;have k7:=(kw.trans k6).grown hg7 hr7)
     go_roundw
     case rel=>exact ⟨i+1,by omega,by go_num,by rw [HYS.out he,List.map_append];simpa only [List.map_cons,List.map_nil,HT.out] using hv7,k7⟩
     case measure=>simp [intOf];omega
    ·rw [hk] at hc
     go_wp2_with fail;refine (isModal_any _ _).mono ?_;rintro e w' ⟨rfl,rfl⟩;rw [show modalB 5=true from rfl]
     go_wp2_with (at_builtin;refine appE rfl _ _ rfl w4.heap.size _ (elTo G i) ((elTo G i).map (fun s=>(txF s).enc)) rfl wr hown k6 x _ t.enc hv6 hsz _ _ rfl hat (by omega) ?_;intro v7 w7 hv7 hg7 hr7;have k7:=(kw.trans k6).grown hg7 hr7)
     go_roundw
     case rel=>exact ⟨i+1,by omega,by go_num,by rw [HYS.out he,List.map_append];simpa only [List.map_cons,List.map_nil,HT.out] using hv7,k7⟩
     case measure=>simp [intOf];omega
    ·rw [hk] at hc
     go_wp2_with fail;refine (isModal_any _ _).mono ?_;rintro e w' ⟨rfl,rfl⟩;rw [show modalB 6=true from rfl]
     go_wp2_with (at_builtin;refine appE rfl _ _ rfl w4.heap.size _ (elTo G i) ((elTo G i).map (fun s=>(txF s).enc)) rfl wr hown k6 x _ t.enc hv6 hsz _ _ rfl hat (by omega) ?_;intro v7 w7 hv7 hg7 hr7;have k7:=(kw.trans k6).grown hg7 hr7)
     go_roundw
     case rel=>exact ⟨i+1,by omega,by go_num,by rw [HYS.out he,List.map_append];simpa only [List.map_cons,List.map_nil,HT.out] using hv7,k7⟩
     case measure=>simp [intOf];omega
   ·rcases hk with hk | hk | hk | hk
    ·rw [hk] at hc
     go_wp2_with fail;refine (isModal_any _ _).mono ?_;rintro e w' ⟨rfl,rfl⟩;rw [show modalB 1=false from rfl];go_wp2_with fail;go_roundw
     case rel=>exact ⟨i+1,by omega,by go_num,by rw [HNS.out he];exact hown.keeps k5,kw.trans k5⟩
     case measure=>simp [intOf];omega
    ·rw [hk] at hc
     go_wp2_with fail;refine (isModal_any _ _).mono ?_;rintro e w' ⟨rfl,rfl⟩;rw [show modalB 2=false from rfl];go_wp2_with fail;go_roundw
     case rel=>exact ⟨i+1,by omega,by go_num,by rw [HNS.out he];exact hown.keeps k5,kw.trans k5⟩
     case measure=>simp [intOf];omega
    ·rw [hk] at hc
     go_wp2_with fail;refine (isModal_any _ _).mono ?_;rintro e w' ⟨rfl,rfl⟩;rw [show modalB 3=false from rfl];go_wp2_with fail;go_roundw
     case rel=>exact ⟨i+1,by omega,by go_num,by rw [HNS.out he];exact hown.keeps k5,kw.trans k5⟩
     case measure=>simp [intOf];omega
    ·rw [hk] at hc
     go_wp2_with fail;refine (isModal_any _ _).mono ?_;rintro e w' ⟨rfl,rfl⟩;rw [show modalB 4=false from rfl];go_wp2_with fail;go_roundw
     case rel=>exact ⟨i+1,by omega,by go_num,by rw [HNS.out he];exact hown.keeps k5,kw.trans k5⟩
     case measure=>simp [intOf];omega
  ·obtain rfl:i=(subT G).length:=by omega
   have hlt':¬(((subT G).length:Int)<(subT G).length):=by omega
   rw [HEN.out] at hown;go_wp2;go_ret;exact ⟨_,rfl,hown.mono kk.size,kk.trans kw⟩
theorem idx_el (E:List Fm) (t:Fm) (h:t∈E):∀ k,idxOf (fun x=>decide (x=t.enc)) (E.map Fm.enc) k=((k+E.idxOf t:Nat):Int)∧E.idxOf t<E.length:=by
 induction E with
 | nil=>simp at h
 | cons a E ih=>
  intro k
  by_cases ha:a=t
  ·subst ha
   simp [idxOf]
  ·have hne:¬a.enc=t.enc:=fun e=>ha (enc_inj e)
   have hm:t∈E:=by simpa [Ne.symm ha,eq_comm] using h
   obtain ⟨h1,h2⟩:=ih hm (k+1)
   have hi:List.idxOf t (a::E)=List.idxOf t E+1:=by rw [List.idxOf_cons,show (a==t)=false by simp [ha]];rfl
   rw [hi];refine ⟨?_,by simp;omega⟩;simp only [List.map_cons,idxOf,hne,decide_false];simp only [Bool.false_eq_true,if_false];rw [h1];congr 1;omega
theorem indexFuncE (pr:List Nd→Bool) (f:FuncId) (cp:Array Value) (ss:List ByteArray) (xs:List (List Nd)) (v:Value) (w:World) (hv:ElL w v ss xs) (hcf:Enters f)
  (hf:∀ (i:Nat) (h:i<xs.length) (s:ByteArray) (u:Value) (w1:World),Keeps w w1→Nds w1 u xs[i]→Calls Tryz.prog f (#[.agg #[.string s,u]]++cp) w1 fun e w2=>e=.returned (.bool (pr xs[i]))∧Keeps w1 w2):
  Calls Tryz.prog 203 #[v,.func (.func f) #[] cp] w fun e w'=>e=.returned (.int .i64 (idxOf pr xs 0))∧Keeps w w':=by
 have hv0:=hv;obtain ⟨p,cap,rfl,hle,hmx,hxl,hlen,_⟩:=hv;unfold maxLen at hmx;have HXL:=hid hxl;clear hxl;have HF:=hid hf;clear hf
 have hcf':∀ args w,(callFunc f args).run Tryz.prog w=.ok (.enter f args) w:=hcf
 clear hcf;go_enter Tryz.func203,Tryz.ntmps203;go_wp2
 go_loopw [4,8] (fun r i' wr=>∃ k:Nat,k≤ss.length∧idxOf pr xs 0=idxOf pr (xs.drop k) k∧Keeps w wr∧i'=.int .i64 k∧r=.int .i64 0) (fun _ i _=>ss.length-(intOf i).toNat)
 case atStart=>exact ⟨0,by omega,by simp,Keeps.refl w,rfl,rfl⟩
 case round=>
  obtain ⟨k,hk,hs,kw,rfl,rfl⟩:=hrel;have Hs:=hid hs;clear hs
  by_cases hlt:k<ss.length
  ·have hltx:k<xs.length:=by have:=HXL.out;omega
   obtain ⟨_,_,e0,-,-,-,-,hget⟩:=hv0.keeps kw;obtain ⟨b1,o1,u1,e1,h1,h2,hnd⟩:=hget k hlt hltx
   cases e0
   cases e1
   have hd:=hid (idxOf_drop pr xs k hltx);obtain ⟨q1,n1,c1',rfl⟩:=hnd.shape;clear hv0 hget
   have hlt':(k:Int)<ss.length:=by omega
   cases hp:pr xs[k]
   all_goals
    have Hp:=hid hp;clear hp
    go_wp2_with ((with_reducible refine (HF.out k hltx ss[k] (.slice q1 n1 c1') wr kw hnd).mono ?_);rintro e w2 ⟨rfl,k2⟩;rw [Hp.out])
   ·go_roundw
    case rel=>exact ⟨k+1,by omega,by rw [Hs.out,hd.out,Hp.out];rfl,kw.trans k2,by go_num,rfl⟩
    case measure=>simp [intOf];omega
   ·go_ret
    exact ⟨ret_int (by rw [Hs.out,hd.out,Hp.out];rfl),kw.trans k2⟩
  ·have hlt':¬(k:Int)<ss.length:=by omega
   go_wp2;go_ret;exact ⟨ret_int (by rw [Hs.out,idxOf_end _ _ _ (by have:=HXL.out;omega)]),kw⟩
theorem valueIn1_any (s:ByteArray) (x y:List Nd) (u vf:Value) (g:Nat) (w:World) (hc:w.cell? ⟨g,0,none⟩=some vf) (hf:Nds w vf y) (hu:Nds w u x):
  Calls Tryz.prog 204 #[.agg #[.string s,u],.pointer (some ⟨g,0,none⟩)] w fun e w'=>e=.returned (.bool (decide (x=y)))∧Keeps w w':=by
 obtain ⟨p,c,rfl,-⟩:=id hf;obtain ⟨q,c2,rfl,-⟩:=id hu;have kA:=(Keeps.refl w).alloc (.cells #[.string s,.slice q x.length c2] 185);have cA:=kA.cell hc;have H:=hid (same_any x y _ _ _ (hu.keeps kA) (hf.keeps kA));clear hf hu hc;go_enter Tryz.func204,Tryz.ntmps204;go_wp2_with fail;refine H.out.mono ?_;rintro e w2 ⟨rfl,k2⟩;go_wp2_with fail;go_ret;exact ⟨rfl,kA.trans k2⟩
theorem enters_valueIn1:Enters 204:=fun _ _=>by kernel_rfl
theorem valueIn_el (E:List Fm) (ss:List ByteArray) (h8:E.length≤8) (m:Nat) (hm:m<256) (t:Fm) (hk:t.kind=0∨t.kind=5∨t.kind=6) (ht:t∈E) (v:Value) (w:World) (r:Nat) (pv:Value)
  (hv:Nds w v t.enc) (hc1:w.cell? ⟨r,1,none⟩=some pv) (hp:ElL w pv ss (E.map Fm.enc)):
  Calls Tryz.prog 173 #[.pointer (some ⟨r,0,none⟩),v,.int .i64 m] w fun e w'=>e=.returned (.bool (m.testBit (E.idxOf t)))∧Keeps w w':=by
 have hv0:=hv;obtain ⟨b,off,n,cap,rfl,h0,h1,h2,h3,hc,-⟩:=hv.root;have kA:=(Keeps.refl w).alloc (.cells #[.slice (some ⟨b,off,none⟩) n cap] 34)
 have c0:(w.alloc (.cells #[.slice (some ⟨b,off,none⟩) n cap] 34)).cell? ⟨w.heap.size,0,none⟩=some (.slice (some ⟨b,off,none⟩) n cap):=by simp
 have hcA:=kA.cell hc;have hc1A:=kA.cell hc1;obtain ⟨hi1,hi2⟩:=idx_el E t ht 0;rw [Nat.zero_add] at hi1
 have HI:=hid (indexFuncE (fun x=>decide (x=t.enc)) 204 #[.pointer (some ⟨w.heap.size,0,none⟩)] ss (E.map Fm.enc) pv _ (hp.keeps kA) enters_valueIn1
  (fun i h s u w1 k1 hu=>valueIn1_any s _ _ u _ _ w1 (k1.cell c0) ((hv0.keeps kA).keeps k1) hu))
 rw [hi1] at HI;have HB:=hid (fun wz=>hasB_any m (E.idxOf t) wz hm (by omega));unfold maxLen at h2;obtain ⟨pp,pc,rfl,-⟩:=hp;clear hv hv0 hc1 hc;generalize hJ:E.idxOf t=j;rw [hJ] at HI HB;clear hJ hi1 hi2
 rcases hk with hk | hk | hk
 all_goals
  rw [hk] at hcA;go_enter Tryz.func173,Tryz.ntmps173;go_wp2_with fail;refine HI.out.mono ?_;rintro e w2 ⟨rfl,k2⟩;go_wp2_with fail;refine (HB.out _).mono ?_;rintro e w3 ⟨rfl,rfl⟩;go_wp2_with fail;go_ret;exact ⟨rfl,kA.trans k2⟩
end Go.Proofs.YtbccmdfdclomiaaGreatDoor
