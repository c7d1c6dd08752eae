import Derived.Test.YtagoboblkadelaaGreatZXV
import Derived.Test.YtagoboblkadelaaGreatZRW
import Derived.Test.YtagoboblkadelaaGreatZML
/- own -/
namespace Go.Proofs.YtagoboblkadelaaGreat
set_option maxRecDepth 20000
set_option maxHeartbeats 1000000
open Go.RowKit
theorem xO:∀ (l:List Fm) (a:Fm),(l.map Fm.enc).foldl (fun o x=>(⟨2,0⟩:Nd)::(o++x)) a.enc=(l.foldl Fm.and a).enc
 | [],_=>rfl
 | b::l,a=>xO l (.and a b)
theorem Bc:∀ (l:List Fm) (a:Fm),(l.map Fm.enc).foldl (fun o x=>(⟨3,0⟩:Nd)::(o++x)) a.enc=(l.foldl Fm.or a).enc
 | [],_=>rfl
 | b::l,a=>Bc l (.or a b)
theorem DB (l:List Fm):dD 2 (l.map Fm.enc)=(zH l).enc:=by
 cases l with
 | nil=>rfl
 | cons a l=>exact xO l a
theorem DC (l:List Fm):dD 3 (l.map Fm.enc)=(zL l).enc:=by
 cases l with
 | nil=>rfl
 | cons a l=>exact Bc l a
noncomputable def sqR (ss tt:List ByteArray):List Nd×Int:=if isQ ss tt=true then fR (sqF (fmL ss) (fmL tt)).enc else ([],1)
theorem EY {ss tt:List ByteArray} (h:isQ ss tt=true):sqR ss tt=fR (⟨4,0⟩::(dD 2 ((fmL ss).map Fm.enc)++dD 3 ((fmL tt).map Fm.enc))):=by
 unfold sqR;rw[if_pos h,DB,DC];rfl
theorem pN (ss:List ByteArray) (hs:∀ s∈ss,∃ t,ck s t) (v:Value) (w:World) (hv:au w v ss):
  Calls Tryz.prog 44 #[v] w (Ji w ((fmL ss).map Fm.enc)):=by
 obtain⟨p,cap,rfl,K0,KT,KS⟩:=hv.shape;unfold maxLen at KT;have HV:=hid hv;clear hv
 have HP:=hid (fun i (h:i<ss.length) wz=>show Calls Tryz.prog 87 #[.string ss[i]] wz (fun e w'=>∃ v,e=.returned (.tuple #[v,.bool true])∧aU w' wz.heap.size v (txF ss[i]).enc∧aa wz w') from by
  have ht:=gq (hs _ (zo h));have h2:=ht.2.1;refine(gJ ss[i] wz (by have:=ht.small;omega)).mono ?_;rintro e w' ⟨v,rfl,k,hh⟩
  exact⟨v,by rw[fp.2 ⟨_,ht⟩],hh _ ht,k⟩)
 have H9:Hid (∀ i (h:i<ss.length),((fmL ss).map Fm.enc).take (i+1)=((fmL ss).map Fm.enc).take i++[(txF ss[i]).enc]):=hid (fun i h=>by
  rw[zq (by simp[fmL,h])]
  simp[fmL])
 have x9:Hid (∀ i,(((fmL ss).map Fm.enc).take i).length≤ss.length):=hid (fun i=>by rw[List.length_take,List.length_map,ll];exact Nat.min_le_right _ _);have x8:Hid (((fmL ss).map Fm.enc).take ss.length=(fmL ss).map Fm.enc):=hid (List.take_of_length_le (by simp[fmL]));clear hs;have h1:=fN.empty w;have k1:=(aa.refl w).alloc (.cells #[] 50);go_enter Tryz.func44,Tryz.ntmps44;have HO:=hid h1;have HK:=hid k1;clear h1 k1;have H8:Hid (((fmL ss).map Fm.enc).take 0=[]):=hid rfl;go_wp2_with fail
 go_loopw [3,4,5,6] (fun s3 s4 _ _ wr=>∃ k:Nat,k≤ss.length∧s4=.int .i64 k∧fN wr w.heap.size s3 (((fmL ss).map Fm.enc).take k)∧aa w wr) (fun _ s4 _ _ _=>ss.length-(intOf s4).toNat)
 case atStart=>exact⟨0,qB,rfl,by rw[H8.out];exact HO.out,HK.out⟩
 case round=>
  obtain⟨k,hk,rfl,eE,kw⟩:=hrel;clear HO HK;have KV:=kw.size
  by_cases h9:k<ss.length
  ·have x6:(k:Int)<ss.length:=qB
   obtain⟨b1,o1,rfl,h1⟩:=(HV.out.keeps kw).get k h9;have H7:=hid (HP.out k h9 wr);have HT:=hid (H9.out k h9);have La:=x9.out k;generalize (txF ss[k]).enc=y at*;generalize hL:((fmL ss).map Fm.enc).take k=L at*;have HL:=hid hL;clear hL;generalize ss[k]=x at*;go_wp2_with fail;refine H7.out.mono ?_;rintro e w2 ⟨v2,rfl,x7,k2⟩
   obtain⟨p2,n2,c2,rfl⟩:∃ p n c,v2=.slice p n c:=by obtain⟨p,c,e,_⟩:=At.of_own x7;exact⟨p,_,c,e⟩
   have k3:=k2.alloc (.cells #[.slice p2 n2 c2] 50);have KY:=x7.keeps ((aa.refl w2).alloc (.cells #[.slice p2 n2 c2] 50));have KP:=At.lit1 w2 (.slice p2 n2 c2) 50
   go_wp2_with (at_builtin;refine Jv rfl _ _ rfl w.heap.size _ L rfl wr eE k3 _ _ KY KV _ _ rfl KP qB ?_;intro v4 w4 KZ KR KU;have k4:=(kw.trans k3).grown KR KU)
   go_roundw
   case rel=>exact⟨k+1,qB,by go_num,by rw[HT.out];exact KZ,k4⟩
   case measure=>simp[intOf];omega
  ·obtain rfl:k=ss.length:=qB
   have x6:¬((ss.length:Int)<ss.length):=qB;rw[x8.out] at eE;go_wp2;go_ret;exact⟨_,rfl,eE,kw⟩
theorem qT {ss:List ByteArray} (h:aW ss):(∀ x∈(fmL ss).map Fm.enc,x.length≤1000):=fun x hx=>by
 obtain⟨t,ht,rfl⟩:=List.mem_map.1 hx;have:=(cZ h t ht).2;omega
theorem lJ {l:List (List Nd)} (h:∀ x∈l,x.length≤1000) (hl:l.length≤1000):tot l≤2147483648:=by
 have:∀ l:List (List Nd),(∀ x∈l,x.length≤1000)→tot l≤l.length*1001:=by
  intro l
  induction l with
  | nil=>intro _;simp[tot]
  | cons x l ih=>
   intro h;have h1:=ih (fun y hy=>h y (zw _ hy));have h2:=h x (List.mem_cons_self ..);simp only[tot,zh] at*;omega
 have:=this l h;omega
def AS (w:World) (r:List Nd×Int) (e:Ending) (w':World):Prop:=∃ u,e=.returned (.tuple #[u,.int .i64 r.2])∧aU w' w.heap.size u r.1∧aa w w'
theorem jB (ss tt:List ByteArray) (v u:Value) (w:World) (hv:au w v ss) (hu:au w u tt) (hs:Mid ss) (ht:Mid tt):
  Calls Tryz.prog 16 #[.agg #[v,u]] w (AS w (sqR ss tt)):=by
 have kA:=(aa.refl w).alloc (.cells #[v,u] 29);obtain⟨c0,c1⟩:=BoxQ.made w v u 29;have HQ:=hid (uB ss tt v u _ (hv.keeps kA) (hu.keeps kA) hs ht);have HV:=hid (fun wz (kz:aa w wz)=>hv.keeps kz);have HU:=hid (fun wz (kz:aa w wz)=>hu.keeps kz);obtain⟨p,cap,rfl,_⟩:=hv.shape;obtain⟨q,cap2,rfl,_⟩:=hu.shape;clear hv hu
 by_cases hq:isQ ss tt=true
 ·obtain⟨Lc,Ld,x6,x7⟩:=dx hq
  have HR:=hid (EY hq);rw[hq] at HQ;have eE:=qT x6;have h9:=qT x7
  have x8:((fmL ss).map Fm.enc).length≤1000:=by simp[fmL];omega
  have x9:((fmL tt).map Fm.enc).length≤1000:=by simp[fmL];omega
  have La:=iI (k:=2) eE _ (zm _);have Lb:=iI (k:=3) h9 _ (zm _);rw[List.take_length] at La Lb;have KV:=hid (fun wz (kz:aa w wz)=>pN ss x6.1 _ wz (HV.out wz kz));have KY:=hid (fun wz (kz:aa w wz)=>pN tt x7.1 _ wz (HU.out wz kz));have KT:=hid (fun vz wz (hz:bW wz vz ((fmL ss).map Fm.enc))=>sg 2 _ x8 eE vz wz hz);have KU:=hid (fun vz wz (hz:bW wz vz ((fmL tt).map Fm.enc))=>sg 3 _ x9 h9 vz wz hz);have KZ:=hid (lJ eE x8);have K0:=hid (lJ h9 x9);clear hq hs ht x6 x7 HV HU eE h9;generalize dD 2 ((fmL ss).map Fm.enc)=FA at*;generalize dD 3 ((fmL tt).map Fm.enc)=FB at*;generalize (fmL ss).map Fm.enc=LA at*;generalize (fmL tt).map Fm.enc=LB at*;generalize sqR ss tt=R at*;go_enter Tryz.func16,Tryz.ntmps16;go_wp2_with fail;refine HQ.out.mono ?_;rintro e w2 ⟨rfl,k2⟩
  replace c0:=k2.cell c0
  replace c1:=k2.cell c1
  have K2:=hid (kA.trans k2);clear HQ k2 kA;have kd:=(aa.refl w2).drew;have c0d:=kd.cell c0;have c1d:=kd.cell c1;have KD:=hid (K2.out.trans kd);clear kd;go_wp2_with fail
  go_region_law (first
   | (go_simp;go_at_call 44;(with_reducible refine(KV.out _ KD.out).mono ?_);rintro e w3 ⟨v3,rfl,H8,k3⟩;have c13:=k3.cell c1d;have K3:=KD.out.trans k3;have n3:=H8.ndsL qB KZ.out)
   | (go_simp;go_at_call 43;(with_reducible refine(KT.out _ _ n3).mono ?_);rintro e w4 ⟨v4,rfl,H9,k4⟩;have c14:=k4.cell c13;have K4:=K3.trans k4)
   | (go_simp;go_at_call 44;(with_reducible refine(KY.out _ K4).mono ?_);rintro e w5 ⟨v5,rfl,KP,k5⟩;have K5:=K4.trans k5;have n5:=KP.ndsL qB K0.out)
   | (go_simp;go_at_call 43;(with_reducible refine(KU.out _ _ n5).mono ?_);rintro e w6 ⟨v6,rfl,KR,k6⟩;have K6:=K5.trans k6)
   | (go_simp;go_at_call 42;refine(bQ 4 FA FB _ _ _ ((H9.nds qB).keeps (k5.trans k6)) (KR.nds qB) qB).mono ?_;rintro e w7 ⟨v7,rfl,KS,k7⟩;have K7:=K6.trans k7)
   | (go_simp;go_at_call 41;refine(yd _ v7 w7 w6.heap.size KS (by simp only[zh,ze];omega)).mono ?_;rintro e w8 ⟨u8,rfl,H7,rfl⟩))
  all_goals
   have HE:=hid (show AS w R (.returned (.tuple #[u8,.int .i64 (fR (⟨4,0⟩::(FA++FB))).2])) w7 from⟨u8,by rw[HR.out],by rw[HR.out];exact H7.mono K6.size,K7⟩);clear HR H7 H8 k3 n3 H9 k4 KP k5 n5 KR k6 KS k7 c13 c14 K3 K4 K5 K6 K7 c0 c1 c0d c1d;go_wp2_with fail
   go_ret2
   exact HE.out
 ·have hq':isQ ss tt=false:=by simpa using hq
  have HR:Hid (sqR ss tt=([],1)):=hid (by unfold sqR;rw[if_neg hq]);rw[hq'] at HQ;clear hq hq' hs ht HV HU;go_enter Tryz.func16,Tryz.ntmps16;go_wp2_with fail;refine HQ.out.mono ?_;rintro e w2 ⟨rfl,k2⟩;go_wp2_with fail
  go_ret2
  exact⟨.slice none 0 0,by rw[HR.out];rfl,by rw[HR.out];exact aU.nil _ _,kA.trans k2⟩
theorem jq (ss tt:List ByteArray) (v u:Value) (w:World) (hv:au w v ss) (hu:au w u tt) (hs:Mid ss) (ht:Mid tt):
  Calls Tryz.prog 15 #[.agg #[v,u]] w (AS w (sqR ss tt)):=by
 have kA:=(aa.refl w).alloc (.cells #[v,u] 29);obtain⟨c0,c1⟩:=BoxQ.made w v u 29;have HQ:=hid (eO ss tt v u _ (hv.keeps kA) (hu.keeps kA) hs ht);have HV:=hid (fun wz (kz:aa w wz)=>hv.keeps kz);have HU:=hid (fun wz (kz:aa w wz)=>hu.keeps kz);obtain⟨p,cap,rfl,_⟩:=hv.shape;obtain⟨q,cap2,rfl,_⟩:=hu.shape;clear hv hu
 by_cases hq:isQ ss tt=true
 ·obtain⟨Lc,Ld,x6,x7⟩:=dx hq
  have HR:=hid (EY hq);rw[hq] at HQ;have eE:=qT x6;have h9:=qT x7
  have x8:((fmL ss).map Fm.enc).length≤1000:=by simp[fmL];omega
  have x9:((fmL tt).map Fm.enc).length≤1000:=by simp[fmL];omega
  have La:=iI (k:=2) eE _ (zm _);have Lb:=iI (k:=3) h9 _ (zm _);rw[List.take_length] at La Lb;have KV:=hid (fun wz (kz:aa w wz)=>dZ ss x6.1 _ wz (HV.out wz kz));have KY:=hid (fun wz (kz:aa w wz)=>dZ tt x7.1 _ wz (HU.out wz kz));have KT:=hid (fun vz wz (hz:bW wz vz ((fmL ss).map Fm.enc))=>pK 2 _ x8 eE vz wz hz);have KU:=hid (fun vz wz (hz:bW wz vz ((fmL tt).map Fm.enc))=>pK 3 _ x9 h9 vz wz hz);have KZ:=hid (lJ eE x8);have K0:=hid (lJ h9 x9);clear hq hs ht x6 x7 HV HU eE h9;generalize dD 2 ((fmL ss).map Fm.enc)=FA at*;generalize dD 3 ((fmL tt).map Fm.enc)=FB at*;generalize (fmL ss).map Fm.enc=LA at*;generalize (fmL tt).map Fm.enc=LB at*;generalize sqR ss tt=R at*;go_enter Tryz.func15,Tryz.ntmps15;go_wp2_with fail;refine HQ.out.mono ?_;rintro e w2 ⟨rfl,k2⟩
  replace c0:=k2.cell c0
  replace c1:=k2.cell c1
  have K2:=hid (kA.trans k2);clear HQ k2 kA;have kd:=(aa.refl w2).drew;have c0d:=kd.cell c0;have c1d:=kd.cell c1;have KD:=hid (K2.out.trans kd);clear kd;go_wp2_with fail
  go_region_law (first
   | (go_simp;go_at_call 39;(with_reducible refine(KV.out _ KD.out).mono ?_);rintro e w3 ⟨v3,rfl,H8,k3⟩;have c13:=k3.cell c1d;have K3:=KD.out.trans k3;have n3:=H8.ndsL qB KZ.out)
   | (go_simp;go_at_call 38;(with_reducible refine(KT.out _ _ n3).mono ?_);rintro e w4 ⟨v4,rfl,H9,k4⟩;have c14:=k4.cell c13;have K4:=K3.trans k4)
   | (go_simp;go_at_call 39;(with_reducible refine(KY.out _ K4).mono ?_);rintro e w5 ⟨v5,rfl,KP,k5⟩;have K5:=K4.trans k5;have n5:=KP.ndsL qB K0.out)
   | (go_simp;go_at_call 38;(with_reducible refine(KU.out _ _ n5).mono ?_);rintro e w6 ⟨v6,rfl,KR,k6⟩;have K6:=K5.trans k6)
   | (go_simp;go_at_call 37;refine(fO 4 FA FB _ _ _ ((H9.nds qB).keeps (k5.trans k6)) (KR.nds qB) qB).mono ?_;rintro e w7 ⟨v7,rfl,KS,k7⟩;have K7:=K6.trans k7)
   | (go_simp;go_at_call 36;refine(yp _ v7 w7 w6.heap.size KS (by simp only[zh,ze];omega)).mono ?_;rintro e w8 ⟨u8,rfl,H7,rfl⟩))
  all_goals
   have HE:=hid (show AS w R (.returned (.tuple #[u8,.int .i64 (fR (⟨4,0⟩::(FA++FB))).2])) w7 from⟨u8,by rw[HR.out],by rw[HR.out];exact H7.mono K6.size,K7⟩);clear HR H7 H8 k3 n3 H9 k4 KP k5 n5 KR k6 KS k7 c13 c14 K3 K4 K5 K6 K7 c0 c1 c0d c1d;go_wp2_with fail
   go_ret2
   exact HE.out
 ·have hq':isQ ss tt=false:=by simpa using hq
  have HR:Hid (sqR ss tt=([],1)):=hid (by unfold sqR;rw[if_neg hq]);rw[hq'] at HQ;clear hq hq' hs ht HV HU;go_enter Tryz.func15,Tryz.ntmps15;go_wp2_with fail;refine HQ.out.mono ?_;rintro e w2 ⟨rfl,k2⟩;go_wp2_with fail
  go_ret2
  exact⟨.slice none 0 0,by rw[HR.out];rfl,by rw[HR.out];exact aU.nil _ _,kA.trans k2⟩
end Go.Proofs.YtagoboblkadelaaGreat
