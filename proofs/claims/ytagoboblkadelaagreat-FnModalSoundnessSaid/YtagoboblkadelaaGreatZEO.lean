import Derived.Test.YtagoboblkadelaaGreatZPZ
/- own -/
namespace Go.Proofs.YtagoboblkadelaaGreat
set_option maxRecDepth 20000
set_option maxHeartbeats 4000000
section
open Go.RowKit
theorem Ed:∀ a b:Fin 8,lgS a.1=lgS b.1→a=b:=qC
theorem Ia {L:Nat} (h:L<8):lgN (lgS L)=L:=by
 obtain⟨h1,h2⟩:=iQ (DQ L h);have:=Ed ⟨L,h⟩ ⟨lgN (lgS L),h1⟩ h2;exact(congrArg Fin.val this).symm
theorem Cy (s:ByteArray) (k:Nat) (h1:1≤k) (h7:k≤7):(s.toList==(lgS k).data.toList)=decide (lgN s=k):=by
 rw[Bool.eq_iff_iff,beq_iff_eq,decide_eq_true_eq,ByteArray.toList_eq];constructor
 ·intro h
  have hs:s=lgS k:=by
   cases s
   have:=Array.toList_inj.1 h
   simp only at this
   rw[this]
  rw[hs];exact Ia qB
 ·intro h
  by_cases hl:ma s=true
  ·have:=(iQ hl).2
   rw[h] at this;rw[this]
  ·exfalso
   unfold lgN at h;rw[dif_neg hl] at h;omega
theorem nmD (s:ByteArray):(s.toList==[68])=decide (lgN s=1):=Cy s 1 qB qB
theorem nmT (s:ByteArray):(s.toList==[84])=decide (lgN s=2):=Cy s 2 qB qB
theorem JY (s:ByteArray):(s.toList==[75,52])=decide (lgN s=3):=Cy s 3 qB qB
theorem IT (s:ByteArray):(s.toList==[83,52])=decide (lgN s=4):=Cy s 4 qB qB
theorem Gu (s:ByteArray):(s.toList==[71,76])=decide (lgN s=5):=Cy s 5 qB qB
theorem IU (s:ByteArray):(s.toList==[83,53])=decide (lgN s=6):=Cy s 6 qB qB
theorem vI (t:Fm):decide (t.kind=2)=iL t:=by cases t<;>rfl
theorem vM (t:Fm):decide (t.kind=3)=iN t:=by cases t<;>rfl
theorem vL (t:Fm):decide (t.kind=4)=iM t:=by cases t<;>rfl
theorem vJ (t:Fm):decide (t.kind=5)=bg t:=by cases t<;>rfl
theorem vK (t:Fm):decide (t.kind=6)=bR t:=by cases t<;>rfl
def a6 (k:Int) (t:Fm):Bool:=decide (t.kind=k)
theorem qW:a6 2=iL:=funext vI
theorem qY:a6 3=iN:=funext vM
theorem qX:a6 4=iM:=funext vL
theorem gz:a6 5=bg:=funext vJ
theorem hO:a6 6=bR:=funext vK
theorem Gz {ss:List ByteArray} {s:ByteArray} {k:Nat} (h:k<ss.length):ah (ss.take (k+1)) s=ah (ss.take k) s++(if ss[k]≠s then [ss[k]] else []):=by
 unfold ah;rw[zq h,List.filter_append,List.filter_cons]
 simp
theorem se {p:Fm→Bool} {ss:List ByteArray} {k:Nat} (h:k<ss.length):kdS p (ss.take (k+1))=kdS p (ss.take k)++(if p (txF ss[k]) then [ss[k]] else []):=by
 unfold kdS;rw[zq h,List.filter_append,List.filter_cons]
 simp
theorem Eo {p:Fm→Bool} {ss:List ByteArray} {k:Nat} (h:k<ss.length):ofS p (ss.take (k+1))=if p (txF ss[k]) then ae (ofS p (ss.take k)) (paI ss[k]) else ofS p (ss.take k):=by
 unfold ofS;rw[se h,List.foldl_append]
 split<;>rfl
theorem dj (ss:List ByteArray) (s:ByteArray):(ah ss s).length≤ss.length:=List.length_filter_le _ _
theorem fq (p:Fm→Bool) (ss:List ByteArray):(kdS p ss).length≤ss.length:=List.length_filter_le _ _
theorem rM {f:ByteArray→ByteArray}:∀ (l:List ByteArray) (out:List ByteArray),(l.foldl (fun out s=>ae out (f s)) out).length≤out.length+l.length
 | [],out=>by simp
 | s::l,out=>by
  have h1:=rM l (ae out (f s)) (f:=f);have h2:=aX out (f s);rw[List.foldl_cons]
  simp
  omega
theorem wJ (p:Fm→Bool) (ss:List ByteArray):(ofS p ss).length≤ss.length:=by
 have h:=rM (f:=fun s=>txS (bH (txF s))) (kdS p ss) [];have h2:=fq p ss;unfold ofS
 simp at h
 omega
theorem jd (ss tt:List ByteArray):(bU ss tt).length≤ss.length+tt.length:=rM (f:=fun s=>s) tt ss
theorem iO (L:Nat) (p:Fm→Bool) (ss:List ByteArray) (main:ByteArray):(fE L p ss main).length≤2*ss.length:=by
 unfold fE;have h1:=wJ p ss;have h2:=fq p ss;have h3:=fq bg ss;have h4:=fq bR ss
 split
 ·have:=jd (ofS p ss) (kdS p ss);omega
 ·split
  ·omega
  ·split
   ·have:=dj (bU (kdS bg ss) (kdS bR ss)) main
    have:=jd (kdS bg ss) (kdS bR ss);omega
   ·omega
def rv (w:World) (r:List ByteArray) (e:Ending) (w':World):Prop:=∃ v,e=.returned v∧aj w' v r∧aa w w'
theorem GK (w:World) (c:Nat) (hc:c≤maxLen):au w (.slice none 0 c) []:=⟨none,c,rfl,qD,hc,qD,fun i h=>by simp at h⟩
theorem ql (ss:List ByteArray) (b off n cap:Nat) (s:ByteArray) (w:World) (Lc:aj w (.slice (some ⟨b,off,none⟩) n cap) ss) (hn:ss.length≤1000000):
  Calls Tryz.prog 54 #[.slice (some ⟨b,off,none⟩) n cap,.string s] w (rv w (ae ss s)):=by
 have hv:=Lc.1;have HV:=hid Lc;clear Lc;have KZ:=hv;obtain⟨p',c',e,Lg,Lf,Ld,_⟩:=KZ.at
 cases e
 unfold maxLen at Lf;have Le:=hid KZ;clear KZ hv;have x8:=hid Ld;clear Ld;have x6:=hid (Bk ss s);go_enter Tryz.func54,Tryz.ntmps54;go_wp2
 go_loop [5] (fun i'=>∃ k:Nat,k≤ss.length∧i'=.int .i64 k∧(∀ j (h:j<ss.length),j<k→bts ss[j]<bts s)) (fun i=>ss.length-(intOf i).toNat)
 case atStart=>exact⟨0,qB,rfl,fun j _ h=>by omega⟩
 case round=>
  obtain⟨k,hk,rfl,x7⟩:=hrel;have H7:=hid x7;clear x7
  by_cases x9:k<ss.length
  ·have KT:(k:Int)<ss.length:=qB
   obtain⟨b',off',e,hc⟩:=Le.out.get k x9
   cases e
   have h9:=ks ss[k] s;have eE:=dT ss[k] s
   cases hless:Op.bytesLess ss[k].toList s.toList with
   | true=>
    rw[hless] at h9
    have HN:Hid (∀ j (h:j<ss.length),j<k+1→bts ss[j]<bts s):=hid (fun j h hj=>by
     by_cases e:j=k
     ·subst e;exact of_decide_eq_true h9.symm
     ·exact H7.out j h qB)
    clear h9 eE;generalize ss[k]=x at*;go_wp2
    go_round
    case rel=>exact⟨k+1,qB,by go_num,HN.out⟩
    case measure=>simp[intOf];omega
   | false=>
    rw[hless] at h9;have hI:=x6.out k hk H7.out (fun _=>of_decide_eq_false h9.symm)
    cases heq:(ss[k].toList==s.toList) with
    | true=>
     rw[heq] at eE;have HM:Hid (ae ss s=ss):=hid (by rw[hI,if_pos ⟨x9,da (of_decide_eq_true eE.symm)⟩]);clear h9 eE hI;generalize ss[k]=x at*;go_wp2;go_ret;exact⟨_,rfl,by rw[HM.out];exact HV.out,aa.refl _⟩
    | false=>
     rw[heq] at eE
     have HM:Hid (ae ss s=ss.take k++[s]++ss.drop k):=hid (by
      rw[hI,if_neg (fun ⟨_,e⟩=>of_decide_eq_false eE.symm (by rw[e]))])
     clear h9 eE hI;generalize ss[k]=x at*
     have H8:=hid (show au (w.alloc (.cells #[] 9)) (.slice (some ⟨b,off,none⟩) k cap) (ss.take k) from by
      have h1:=x8.out
      refine(ic (by simp;omega) (by unfold maxLen;omega) (qO h1 k) ⟨by simp;omega,by simp;omega⟩).keeps ((aa.refl w).alloc _))
     have H9:=hid (fun w3 (k3:aa w w3)=>(show au w3 (.slice (some ⟨b,off+k,none⟩) (ss.length-k) (cap-k)) (ss.drop k) from by
      have h1:=(show At w (some ⟨b,off+k,none⟩) ((aq ss).drop k) from x8.out.drop k rfl)
      exact(ic qD (by unfold maxLen;omega) (qN h1) ⟨by simp;omega,by simp;omega⟩).keeps k3))
     go_wp2_with (at_builtin;first
      | (refine iE rfl (.tmp 34) (.tmp 37) rfl w.heap.size _ [] rfl (aA.empty w) _ (ss.take k) rfl H8.out qD (by simp;omega) ?_;intro v2 w2 K0 KP KU;have k2:aa w w2:=((aa.refl w).alloc _).grown KP (fun q hq=>KU q hq);have Li:=k2.size)
      | (refine iE rfl (.tmp 39) (.tmp 41) rfl w.heap.size _ ([]++ss.take k) rfl (K0.keeps ((aa.refl w2).alloc _)) _ [s] rfl (au.lit1 w2 s) (by simp;omega) (by simp;omega) ?_;intro v3 w3 La KR KV;have k3:aa w w3:=(k2.alloc _).grown KR (fun q hq=>KV q hq);have Lj:=k3.size)
      | (refine iE rfl (.tmp 43) (.tmp 46) rfl w.heap.size _ ([]++ss.take k++[s]) rfl La _ (ss.drop k) rfl (H9.out w3 k3) qB (by simp;omega) ?_;intro v4 w4 Lb KS KY;have k4:aa w w4:=k3.grown KS (fun q hq=>KY q hq)))
     go_ret;exact⟨_,rfl,by rw[HM.out];simpa using Lb.strsP (by simp;omega),k4⟩
  ·have KT:¬((k:Int)<ss.length):=qB
   have HM:Hid (ae ss s=ss.take k++[s]++ss.drop k):=hid (by
    rw[x6.out k hk H7.out (fun h=>absurd h x9),if_neg (fun ⟨h,_⟩=>x9 h)])
   have H8:=hid (show au (w.alloc (.cells #[] 9)) (.slice (some ⟨b,off,none⟩) k cap) (ss.take k) from by
    have h1:=x8.out
    refine(ic (by simp;omega) (by unfold maxLen;omega) (qO h1 k) ⟨by simp;omega,by simp;omega⟩).keeps ((aa.refl w).alloc _))
   obtain⟨q,hq,Lh⟩:=Ic b off ss.length cap k (k:Int) rfl hk Lg
   have H9:=hid (fun w3 (k3:aa w w3)=>(show au w3 (.slice q (ss.length-k) (cap-k)) (ss.drop k) from by
    have h1:=hq w (aq ss) x8.out (by simp[aq])
    exact(ic qD (by unfold maxLen;omega) (qN h1) ⟨by simp;omega,by simp;omega⟩).keeps k3))
   clear hq
   go_wp2_with (at_builtin;first
    | (refine iE rfl (.tmp 34) (.tmp 37) rfl w.heap.size _ [] rfl (aA.empty w) _ (ss.take k) rfl H8.out qD (by simp;omega) ?_;intro v2 w2 K0 KP KU;have k2:aa w w2:=((aa.refl w).alloc _).grown KP (fun q hq=>KU q hq);have Li:=k2.size)
    | (refine iE rfl (.tmp 39) (.tmp 41) rfl w.heap.size _ ([]++ss.take k) rfl (K0.keeps ((aa.refl w2).alloc _)) _ [s] rfl (au.lit1 w2 s) (by simp;omega) (by simp;omega) ?_;intro v3 w3 La KR KV;have k3:aa w w3:=(k2.alloc _).grown KR (fun q hq=>KV q hq);have Lj:=k3.size)
    | (refine iE rfl (.tmp 43) (.tmp 46) rfl w.heap.size _ ([]++ss.take k++[s]) rfl La _ (ss.drop k) rfl (H9.out w3 k3) qB (by simp;omega) ?_;intro v4 w4 Lb KS KY;have k4:aa w w4:=k3.grown KS (fun q hq=>KY q hq)))
   go_ret;exact⟨_,rfl,by rw[HM.out];simpa using Lb.strsP (by simp;omega),k4⟩
theorem qj (c:Nat) (s:ByteArray) (w:World) (hc:c≤maxLen):Calls Tryz.prog 54 #[.slice none 0 c,.string s] w (rv w (ae [] s)):=by
 unfold maxLen at hc;have HI:Hid (ae [] s=[s]):=hid (by simp[ae,gS,qZ]);have eE:=hid (fun wz=>GK wz c (by unfold maxLen;omega));go_enter Tryz.func54,Tryz.ntmps54;go_wp2
 go_loop [5] (fun i'=>i'=.int .i64 0) (fun i=>1-(intOf i).toNat)
 case atStart=>rfl
 case round=>
  obtain rfl:=hrel
  go_wp2_with (at_builtin;first
   | (refine iE rfl (.tmp 34) (.tmp 37) rfl w.heap.size _ [] rfl (aA.empty w) _ [] rfl (eE.out _) qD qD ?_;intro v2 w2 H8 h9 x8;have k2:aa w w2:=((aa.refl w).alloc _).grown h9 (fun q hq=>x8 q hq);have KR:=k2.size)
   | (refine iE rfl (.tmp 39) (.tmp 41) rfl w.heap.size _ ([]++[]) rfl (H8.keeps ((aa.refl w2).alloc _)) _ [s] rfl (au.lit1 w2 s) (by simp;omega) qD ?_;intro v3 w3 H9 x6 x9;have k3:aa w w3:=(k2.alloc _).grown x6 (fun q hq=>x9 q hq);have KS:=k3.size)
   | (refine iE rfl (.tmp 43) (.tmp 46) rfl w.heap.size _ ([]++[]++[s]) rfl H9 _ [] rfl (eE.out _) qB qD ?_;intro v4 w4 KP x7 H7;have k4:aa w w4:=k3.grown x7 (fun q hq=>H7 q hq)))
  go_ret;exact⟨_,rfl,by rw[HI.out];simpa using KP.strsP qD,k4⟩
theorem bX (ss:List ByteArray) (v:Value) (s:ByteArray) (w:World) (hv:aj w v ss) (hn:ss.length≤1000000):Calls Tryz.prog 54 #[v,.string s] w (rv w (ae ss s)):=by
 obtain⟨hv,hp⟩:=hv;obtain⟨p,c,rfl,h1,h2,_⟩:=hv.shape
 cases p with
 | none=>
  have h0:ss=[]:=by
   cases ss with
   | nil=>rfl
   | cons x l=>obtain⟨b,off,e,_⟩:=hv.get 0 qD;cases e
  subst h0;exact qj c s w h2
 | some a=>
  have hs:=(hp a _ _ rfl).1;obtain⟨b,off,sp⟩:=a
  simp only at hs
  subst hs;exact ql ss _ _ _ _ s w ⟨hv,hp⟩ hn
theorem Fi {tt:List ByteArray}:∀ {ss:List ByteArray},Asc (ss.map bts)→Asc ((bU ss tt).map bts):=by
 induction tt with
 | nil=>exact fun h=>h
 | cons t tt ih=>exact fun h=>ih (iK t h)
theorem I6 {ss tt r:List ByteArray} (ha:Asc (ss.map bts)) (hr:Asc (r.map bts)) (hm:∀ z,z∈r.map bts↔InU ss tt z):r=bU ss tt:=by
 apply fS
 refine Asc.ext hr (Fi ha) fun z=>?_
 rw[hm z];unfold InU;constructor
 ·intro h
  rcases h with h | h
  ·obtain⟨u,hu,rfl⟩:=List.mem_map.1 h
   exact List.mem_map_of_mem (jF.2 (.inl hu))
  ·obtain⟨u,hu,rfl⟩:=List.mem_map.1 h
   exact List.mem_map_of_mem (jF.2 (.inr hu))
 ·intro h
  obtain⟨u,hu,rfl⟩:=List.mem_map.1 h
  rcases jF.1 hu with hu | hu
  ·exact .inl (List.mem_map_of_mem hu)
  ·exact .inr (List.mem_map_of_mem hu)
theorem ju (ss tt:List ByteArray) (v u:Value) (w:World) (hv:au w v ss) (hu:au w u tt) (ha:Asc (ss.map bts)) (hl:ss.length+tt.length≤1000000):
  Calls Tryz.prog 99 #[v,u] w (xi w w.heap.size (bU ss tt)):=by
 refine(wh ss tt v u w hv hu ha hl).mono ?_;rintro e w' ⟨b,n,c,r,rfl,ho,hr,hm,_,k⟩;obtain rfl:=I6 ha hr hm;exact⟨b,n,c,rfl,ho,k⟩
theorem ko (ss:List ByteArray) (v:Value) (s:ByteArray) (w:World) (hv:au w v ss) (hl:ss.length≤1000000):Calls Tryz.prog 193 #[v,.string s] w (xi w w.heap.size (ah ss s)):=by
 have HV:=hid hv;obtain⟨p,c,rfl,KT,KR,_⟩:=hv.shape;unfold maxLen at KR;have HE:Hid (ah (ss.take ss.length) s=ah ss s):=hid (by rw[List.take_length]);clear hv;go_enter Tryz.func193,Tryz.ntmps193;go_wp2
 go_loopw [5,6] (fun o i' wr=>∃ (i:Nat) (b':Addr) (n' c':Nat),i≤ss.length∧i'=.int .i64 i∧o=.slice (some b') n' c'∧aA wr w.heap.size (.slice (some b') n' c') (ah (ss.take i) s)∧aa w wr) (fun _ i' _=>ss.length-(intOf i').toNat)
 case atStart=>exact⟨0,_,_,_,qB,rfl,rfl,aA.empty w,(aa.refl w).alloc _⟩
 case round=>
  obtain⟨i,b',n',c',hi,rfl,rfl,h9,kw⟩:=hrel;have HO:=hid h9;clear h9
  by_cases x9:i<ss.length
  ·have x6:(i:Int)<ss.length:=qB
   obtain⟨b1,o1,rfl,h1⟩:=(HV.out.keeps kw).get i x9;have HN:=hid (Gz (s:=s) x9)
   have KU:(ah (ss.take i) s).length≤1000000:=by have:=dj (ss.take i) s;simp at this;omega
   have eE:=dT ss[i] s;generalize ss[i]=x at*;generalize ah (ss.take i) s=R at*;generalize x8:ah (ss.take (i+1)) s=R2 at*;have x7:=hid x8;clear x8
   cases hb:(x.toList==s.toList)
   ·rw[hb] at eE
    have H9:Hid (x≠s):=hid (fun e=>by subst e;simp at eE);have hs:=kw.size;clear eE
    go_wp2_with (at_builtin;refine iE rfl _ _ rfl w.heap.size _ R rfl (HO.out.keeps ((aa.refl wr).alloc _)) _ [x] rfl (au.lit1 wr x) (by simp;omega) (by simp;omega) ?_;intro v4 w4 H7 KP KS;have k4:=(kw.alloc (.cells #[.string x] 9)).grown KP (fun q hq=>KS q hq);obtain⟨g4,c4,rfl⟩:=mZ H7 qD)
    go_roundw
    case rel=>exact⟨i+1,_,_,_,qB,by go_num,rfl,by rw[x7.out,HN.out,if_pos H9.out];simpa using H7,k4⟩
    case measure=>simp[intOf];omega
   ·rw[hb] at eE
    have H8:Hid (x=s):=hid (da (of_decide_eq_true eE.symm));clear eE;go_wp2_with fail;go_roundw
    case rel=>exact⟨i+1,_,_,_,qB,by go_num,rfl,by rw[x7.out,HN.out,if_neg (by simp[H8.out]),List.append_nil];exact HO.out,kw⟩
    case measure=>simp[intOf];omega
  ·obtain rfl:i=ss.length:=qB
   have x6:¬((ss.length:Int)<ss.length):=qB;go_wp2_with fail;go_ret;exact⟨_,_,_,rfl,by rw[←HE.out];exact HO.out,kw⟩
theorem yl (ss:List ByteArray) (hS:∀ s∈ss,∃ t,ck s t) (v:Value) (kd:Int) (w:World) (hv:au w v ss) (hl:ss.length≤1000000):Calls Tryz.prog 218 #[v,.int .i64 kd] w (xi w w.heap.size (kdS (a6 kd) ss)):=by
 have HV:=hid hv;obtain⟨p,c,rfl,KZ,KU,_⟩:=hv.shape;unfold maxLen at KU;have HE:Hid (kdS (a6 kd) (ss.take ss.length)=kdS (a6 kd) ss):=hid (by rw[List.take_length]);have KS:=hid (fun (i:Nat) (h:i<ss.length)=>gq (hS ss[i] (zo h)));clear hv;go_enter Tryz.func218,Tryz.ntmps218;go_wp2
 go_loopw [5,6] (fun o i' wr=>∃ (i:Nat) (b':Addr) (n' c':Nat),i≤ss.length∧i'=.int .i64 i∧o=.slice (some b') n' c'∧aA wr w.heap.size (.slice (some b') n' c') (kdS (a6 kd) (ss.take i))∧aa w wr) (fun _ i' _=>ss.length-(intOf i').toNat)
 case atStart=>exact⟨0,_,_,_,qB,rfl,rfl,aA.empty w,(aa.refl w).alloc _⟩
 case round=>
  obtain⟨i,b',n',c',hi,rfl,rfl,eE,kw⟩:=hrel;have HO:=hid eE;clear eE
  by_cases x6:i<ss.length
  ·have x7:(i:Int)<ss.length:=qB
   obtain⟨b1,o1,rfl,h1⟩:=(HV.out.keeps kw).get i x6;have HN:=hid (se (p:=a6 kd) x6)
   have K0:(kdS (a6 kd) (ss.take i)).length≤1000000:=by have:=fq (a6 kd) (ss.take i);simp at this;omega
   have h9:=KS.out i x6;have HG:=hid (gJ ss[i] wr (by have:=h9.small;omega));unfold pk at HG;have HT:=hid h9;have H8:=fp.2 ⟨_,h9⟩;clear h9;have H9:a6 kd (txF ss[i])=decide ((txF ss[i]).kind=kd):=rfl;generalize txF ss[i]=t at*;generalize ss[i]=x at*;generalize kdS (a6 kd) (ss.take i)=R at*;generalize x9:kdS (a6 kd) (ss.take (i+1))=R2 at*;have x8:=hid x9;clear x9;rw[H9] at HN;clear H9;rw[H8] at HG;clear H8;go_wp2_with fail;refine HG.out.mono ?_;rintro e w2 ⟨v2,rfl,k2,H7⟩;have KP:=(H7 t HT.out).nds (by have:=HT.out.2.2;omega);obtain⟨b6,o6,n6,c6,rfl,La,Lb,KV,Lc,hc,-⟩:=KP.root;unfold maxLen at KV;have h2:=k2.cell h1;clear KP H7;have kw2:=kw.trans k2;have hs:=kw2.size
   by_cases hk:t.kind=kd
   ·have HK:=hid hk
    clear hk;rw[HK.out] at hc
    go_wp2_with (at_builtin;refine iE rfl _ _ rfl w.heap.size _ R rfl ((HO.out.keeps k2).keeps ((aa.refl w2).alloc _)) _ [x] rfl (au.lit1 w2 x) (by simp;omega) (by simp;omega) ?_;intro v4 w4 KR KT KY;have k4:=(kw2.alloc (.cells #[.string x] 9)).grown KT (fun q hq=>KY q hq);obtain⟨g4,c4,rfl⟩:=mZ KR qD)
    go_roundw
    case rel=>exact⟨i+1,_,_,_,qB,by go_num,rfl,by rw[x8.out,HN.out,if_pos (decide_eq_true HK.out)];simpa using KR,k4⟩
    case measure=>simp[intOf];omega
   ·have HK:=hid hk
    have hk':((t.kind:Int)==kd)=false:=by simpa using hk
    clear hk;go_wp2_with fail;go_roundw
    case rel=>exact⟨i+1,_,_,_,qB,by go_num,rfl,by rw[x8.out,HN.out,if_neg (by simp[HK.out]),List.append_nil];exact HO.out.keeps k2,kw2⟩
    case measure=>simp[intOf];omega
  ·obtain rfl:i=ss.length:=qB
   have x7:¬((ss.length:Int)<ss.length):=qB;go_wp2_with fail;go_ret;exact⟨_,_,_,rfl,by rw[←HE.out];exact HO.out,kw⟩
theorem zN {t:Fm} (h:t.kind=5∨t.kind=6):t.enc.drop 1=(bH t).enc:=by
 cases t<;>simp[Fm.kind] at h<;>simp[bH,Fm.enc]
theorem jZ {t:Fm} (hw:t.wf):(bH t).wf:=nP hw _ (jX t)
theorem jY {t:Fm}:(bH t).enc.length≤t.enc.length:=nO _ (jX t)
theorem oV {t:Fm} {x:ByteArray} (hx:ck x t) (h:t.kind=5∨t.kind=6) {w:World} {B:Nat} {v:Value} (ho:aU w B v t.enc):∃ g cap p n c,v=.slice (some ⟨g,0,none⟩) t.enc.length cap∧t.enc.length≤cap∧cap≤maxLen∧0<t.enc.length∧w.cell? ⟨g,0,none⟩=some (.int .i64 t.kind)∧w.cell? ⟨g,1,none⟩=some (.int .i64 t.sym)∧
  (∀ wx,(Instr.slice 50 (.slice (some ⟨g,0,none⟩) t.enc.length cap) (some (.int .i64 1)) none none).run Tryz.prog wx=.ok (.slice p n c) wx)∧Nds w (.slice p n c) (bH t).enc:=by
 have hl:=hx.2.2
 have h0:0<t.enc.length:=by cases t<;>simp[Fm.enc]
 obtain⟨g,cap,rfl,_,_,h9,x6⟩:=ho.shape h0;have hr:=(ho.nds qB).root;obtain⟨b,o,n,c,e,_,_,_,_,c0,c1⟩:=hr
 cases e
 have eE:=J3 g t.enc.length cap h0 h9 x6 w B t.enc ho qB
 have x7:=fun wx=>IZ g t.enc.length cap h0 h9 wx
 rw[zN h] at eE;obtain⟨p,n,c,e⟩:=eE.shape;rw[e] at eE x7;exact⟨g,cap,p,n,c,rfl,h9,x6,h0,c0,by simpa using c1,x7,eE⟩
theorem Cm (ss:List ByteArray) (hS:∀ s∈ss,∃ t,ck s t) (v:Value) (kd:Int) (KR:kd=5∨kd=6) (w:World) (hv:au w v ss) (hl:ss.length≤100000):Calls Tryz.prog 217 #[v,.int .i64 kd] w (rv w (ofS (a6 kd) ss)):=by
 have HV:=hid hv;obtain⟨p,c,rfl,Li,Le,_⟩:=hv.shape;unfold maxLen at Le;have HE:Hid (ofS (a6 kd) (ss.take ss.length)=ofS (a6 kd) ss):=hid (by rw[List.take_length]);have Lb:=hid (fun (i:Nat) (h:i<ss.length)=>gq (hS ss[i] (zo h)));have K0:=hid KR;clear hv KR;go_enter Tryz.func217,Tryz.ntmps217;go_wp2
 go_loopw [5,6] (fun o i' wr=>∃ (i:Nat),i≤ss.length∧i'=.int .i64 i∧aj wr o (ofS (a6 kd) (ss.take i))∧aa w wr) (fun _ i' _=>ss.length-(intOf i').toNat)
 case atStart=>exact⟨0,qB,rfl,aA.strsP (aA.empty w) (by simp[ofS,kdS]),(aa.refl w).alloc _⟩
 case round=>
  obtain⟨i,hi,rfl,h9,kw⟩:=hrel;have HO:=hid h9;obtain⟨po,no,co,rfl⟩:=h9.sh;clear h9
  by_cases x9:i<ss.length
  ·have H7:(i:Int)<ss.length:=qB
   obtain⟨b1,o1,rfl,h1⟩:=(HV.out.keeps kw).get i x9;have HN:=hid (Eo (p:=a6 kd) x9)
   have Ld:(ofS (a6 kd) (ss.take i)).length≤1000000:=by have:=wJ (a6 kd) (ss.take i);simp at this;omega
   have x6:=Lb.out i x9;have HG:=hid (gJ ss[i] wr (by have:=x6.small;omega));unfold pk at HG;have HT:=hid x6;have KP:=fp.2 ⟨_,x6⟩;clear x6;have KS:a6 kd (txF ss[i])=decide ((txF ss[i]).kind=kd):=rfl;have KT:paI ss[i]=txS (bH (txF ss[i])):=rfl;rw[KT,KS] at HN;clear KS KT;generalize txF ss[i]=t at*;generalize ss[i]=x at*;have KZ:=hid (fun s wz (hz:aj wz (.slice po no co) (ofS (a6 kd) (ss.take i)))=>bX (ofS (a6 kd) (ss.take i)) (.slice po no co) s wz hz Ld);generalize ofS (a6 kd) (ss.take i)=R at*;generalize H9:ofS (a6 kd) (ss.take (i+1))=R2 at*;have H8:=hid H9;clear H9;rw[KP] at HG;clear KP;go_wp2_with fail;refine HG.out.mono ?_;rintro e w2 ⟨v2,rfl,k2,x8⟩;have eE:=x8 t HT.out
   by_cases hk:t.kind=kd
   ·obtain⟨g,cap,p3,n3,c3,rfl,Lh,Lc,h0,z0,-,Lm,KV⟩:=oV HT.out (by rw[hk];exact K0.out) eE
    have x7:=hid (eI (bH t) (jZ HT.out.1) (by have:=HT.out.2.2;have:=jY (t:=t);omega) _ w2 KV);have La:Hid (∀ s:ByteArray,bts s=(bH t).body→s=txS (bH t)):=hid (fun s h=>iB h);have HK:=hid hk;rw[hk] at z0;clear eE x8 KV hk;unfold maxLen at Lc;go_wp2_with fail;refine x7.out.mono ?_;rintro e w3 ⟨s3,rfl,KU,k3⟩;obtain rfl:=La.out s3 KU;have KY:=hid (KZ.out (txS (bH t)) w3 ((HO.out.keeps k2).keeps k3));clear KU;go_wp2_with fail;refine KY.out.mono ?_;rintro e w4 ⟨v4,rfl,Lg,k4⟩;go_wp2_with fail;go_roundw
    case rel=>exact⟨i+1,qB,by go_num,by rw[H8.out,HN.out,if_pos (decide_eq_true HK.out)];exact Lg,((kw.trans k2).trans k3).trans k4⟩
    case measure=>simp[intOf];omega
   ·have HK:=hid hk
    have hk':((t.kind:Int)==kd)=false:=by simpa using hk
    obtain⟨b6,o6,n6,c6,rfl,Lj,Lk,Lf,Ll,hc,-⟩:=(eE.nds (by have:=HT.out.2.2;omega)).root;unfold maxLen at Lf;clear eE x8 hk;go_wp2_with fail;go_roundw
    case rel=>exact⟨i+1,qB,by go_num,by rw[H8.out,HN.out,if_neg (by simp[HK.out])];exact HO.out.keeps k2,kw.trans k2⟩
    case measure=>simp[intOf];omega
  ·obtain rfl:i=ss.length:=qB
   have H7:¬((ss.length:Int)<ss.length):=qB;go_wp2_with fail;go_ret;exact⟨_,rfl,by rw[←HE.out];exact HO.out,kw⟩
theorem pM (s:ByteArray) (ss:List ByteArray) (hS:aW ss) (v:Value) (kd:Int) (KV:kd=5∨kd=6) (main:ByteArray) (w:World) (hv:au w v ss) (hl:ss.length≤1000):
  Calls Tryz.prog 192 #[.string s,v,.int .i64 kd,.string main] w (rv w (fE (lgN s) (a6 kd) ss main)):=by
 have H8:=hid (fun wz (kz:aa w wz)=>Cm ss hS.1 v kd KV wz (hv.keeps kz) qB);have x8:=hid (fun kd wz (kz:aa w wz)=>yl ss hS.1 v kd wz (hv.keeps kz) qB);have e1:=JY s;have e2:=Gu s;have e3:=IT s;have e4:=IU s;have h9:Hid (fE (lgN s) (a6 kd) ss main=if lgN s=3∨lgN s=5 then bU (ofS (a6 kd) ss) (kdS (a6 kd) ss) else if lgN s=4 then kdS (a6 kd) ss else if lgN s=6 then ah (bU (kdS bg ss) (kdS bR ss)) main else ofS (a6 kd) ss):=hid rfl;have l1:=wJ (a6 kd) ss;have l2:=fq (a6 kd) ss;have l3:=fq bg ss;have l4:=fq bR ss;have KP:=hid (kH (p:=a6 kd) hS).2;have KR:=hid (ft (p:=bg) hS).2;have H5:=hid (fun wz (kz:aa w wz)=>x8.out 5 wz kz);have H6:=hid (fun wz (kz:aa w wz)=>x8.out 6 wz kz);rw[gz] at H5;rw[hO] at H6;obtain⟨p,c,rfl,_⟩:=hv.shape;clear hv hS;generalize fE (lgN s) (a6 kd) ss main=R at*
 by_cases x9:lgN s=3∨lgN s=5
 ·rw[if_pos x9] at h9
  have HU:=hid (fun va vb wz (ha:au wz va (ofS (a6 kd) ss)) (hb:au wz vb (kdS (a6 kd) ss))=>ju _ _ va vb wz ha hb KP.out qB);have KS:=jd (ofS (a6 kd) ss) (kdS (a6 kd) ss);have K0:(bU (ofS (a6 kd) ss) (kdS (a6 kd) ss)).length≤1000000:=qB;clear KS H5 H6 KP KR;generalize bU (ofS (a6 kd) ss) (kdS (a6 kd) ss)=U at*;generalize ofS (a6 kd) ss=A at*;have x7:=hid (fun wz (kz:aa w wz)=>x8.out kd wz kz);generalize kdS (a6 kd) ss=B at*
  have main:∀ b1 b2:Bool,(s.toList==[75,52])=b1→(s.toList==[71,76])=b2→(b1||b2)=true→Calls Tryz.prog 192 #[.string s,.slice p ss.length c,.int .i64 kd,.string main] w (rv w R):=by
   intro b1 b2 f1 f2 hb;clear e1 e2 e3 e4 x9
   cases b1
   ·cases b2
    ·cases hb
    ·go_enter Tryz.func192,Tryz.ntmps192
     go_wp2_with fail;refine(H8.out _ (aa.refl w)).mono ?_;rintro e w2 ⟨v2,rfl,x6,k2⟩;obtain⟨p2,n2,c2,rfl⟩:=x6.sh;go_wp2_with fail;refine(x7.out _ k2).mono ?_;rintro e w3 ⟨b3,n3,c3,rfl,eE,k3⟩;have H9:=hid (HU.out _ _ w3 (x6.1.keeps k3) (eE.strs qB));clear x6 eE;go_wp2_with fail;refine H9.out.mono ?_;rintro e w4 ⟨b4,n4,c4,rfl,H7,k4⟩;go_wp2_with fail;go_ret;exact⟨_,rfl,by rw[h9.out];exact H7.strsP qB,(k2.trans k3).trans k4⟩
   ·go_enter Tryz.func192,Tryz.ntmps192
    go_wp2_with fail;refine(H8.out _ (aa.refl w)).mono ?_;rintro e w2 ⟨v2,rfl,x6,k2⟩;obtain⟨p2,n2,c2,rfl⟩:=x6.sh;go_wp2_with fail;refine(x7.out _ k2).mono ?_;rintro e w3 ⟨b3,n3,c3,rfl,eE,k3⟩;have H9:=hid (HU.out _ _ w3 (x6.1.keeps k3) (eE.strs qB));clear x6 eE;go_wp2_with fail;refine H9.out.mono ?_;rintro e w4 ⟨b4,n4,c4,rfl,H7,k4⟩;go_wp2_with fail;go_ret;exact⟨_,rfl,by rw[h9.out];exact H7.strsP qB,(k2.trans k3).trans k4⟩
  refine main _ _ e1 e2 ?_
  rcases x9 with h | h<;>rw[h]<;>rfl
 ·rw[if_neg x9] at h9
  have f1:(s.toList==[75,52])=false:=by rw[e1,decide_eq_false (fun h=>x9 (.inl h))]
  have f2:(s.toList==[71,76])=false:=by rw[e2,decide_eq_false (fun h=>x9 (.inr h))]
  clear e1 e2 x9 KP
  by_cases h4:lgN s=4
  ·rw[if_pos h4] at h9
   rw[decide_eq_true h4] at e3;have x7:=hid (fun wz (kz:aa w wz)=>x8.out kd wz kz);clear e4 h4 H5 H6 H8 x8;generalize kdS (a6 kd) ss=B at*;go_enter Tryz.func192,Tryz.ntmps192;go_wp2_with fail;refine(x7.out _ (aa.refl w)).mono ?_;rintro e w3 ⟨b3,n3,c3,rfl,eE,k3⟩;go_wp2_with fail;go_ret;exact⟨_,rfl,by rw[h9.out];exact eE.strsP qB,k3⟩
  ·rw[if_neg h4] at h9
   rw[decide_eq_false h4] at e3;clear h4
   by_cases h6:lgN s=6
   ·rw[if_pos h6] at h9
    rw[decide_eq_true h6] at e4;have HU:=hid (fun va vb wz (ha:au wz va (kdS bg ss)) (hb:au wz vb (kdS bR ss))=>ju _ _ va vb wz ha hb KR.out qB);have KS:=jd (kdS bg ss) (kdS bR ss);have KY:=dj (bU (kdS bg ss) (kdS bR ss)) main;have KU:=hid (fun va wz (ha:au wz va (bU (kdS bg ss) (kdS bR ss)))=>ko _ va main wz ha qB);have KZ:(ah (bU (kdS bg ss) (kdS bR ss)) main).length≤2147483648:=qB;have K0:(bU (kdS bg ss) (kdS bR ss)).length≤2147483648:=qB;clear h6 H8 x8 KR KS KY;generalize ah (bU (kdS bg ss) (kdS bR ss)) main=Q2 at*;generalize bU (kdS bg ss) (kdS bR ss)=U at*;generalize kdS bg ss=A at*;generalize kdS bR ss=B at*;go_enter Tryz.func192,Tryz.ntmps192;go_wp2_with fail;refine(H5.out _ (aa.refl w)).mono ?_;rintro e w2 ⟨b2,n2,c2,rfl,x6,k2⟩;go_wp2_with fail;refine(H6.out _ k2).mono ?_;rintro e w3 ⟨b3,n3,c3,rfl,eE,k3⟩;have H9:=hid (HU.out _ _ w3 ((x6.strs qB).keeps k3) (eE.strs qB));clear x6 eE;go_wp2_with fail;refine H9.out.mono ?_;rintro e w4 ⟨b4,n4,c4,rfl,H7,k4⟩;have KT:=hid (KU.out _ w4 (H7.strs qB));clear H7;go_wp2_with fail;refine KT.out.mono ?_;rintro e w5 ⟨b5,n5,c5,rfl,La,k5⟩;go_wp2_with fail;go_ret;exact⟨_,rfl,by rw[h9.out];exact La.strsP KZ,((k2.trans k3).trans k4).trans k5⟩
   ·rw[if_neg h6] at h9
    rw[decide_eq_false h6] at e4;clear h6 H5 H6 x8;generalize ofS (a6 kd) ss=A at*;go_enter Tryz.func192,Tryz.ntmps192;go_wp2_with fail;refine(H8.out _ (aa.refl w)).mono ?_;rintro e w3 ⟨v3,rfl,eE,k3⟩;obtain⟨p3,n3,c3,rfl⟩:=eE.sh;go_wp2_with fail;go_ret;exact⟨_,rfl,by rw[h9.out];exact eE,k3⟩
theorem A9 {t:Fm} (h:t.kind=2∨t.kind=3∨t.kind=4):∃ x,t.enc=x::((qd t).enc++(qF t).enc):=by
 cases t<;>simp[Fm.kind] at h<;>exact⟨_,rfl⟩
theorem I5 {t:Fm} (h:t.kind=2∨t.kind=3∨t.kind=4):(qd t).enc.length+(qF t).enc.length+1=t.enc.length:=by
 obtain⟨x,e⟩:=A9 h;rw[e]
 simp
def Hd (w:World) (ss:List ByteArray) (main:ByteArray) (kd:Int) (e:Ending) (w':World):Prop:=
 ∃ a b,e=.returned (.tuple #[.string a,.string b,.bool (onS ss main (a6 kd))])∧(onS ss main (a6 kd)=true→((kd=5∨kd=6)→a=paI main)∧((kd=2∨kd=3∨kd=4)→a=pa1 main∧b=pa2 main))∧aa w w'
open scoped Classical in
theorem dP (ss:List ByteArray) (hS:∀ s∈ss,∃ t,ck s t) (v:Value) (main:ByteArray) (kd:Int) (H8:2≤kd∧kd≤6) (w:World) (hv:au w v ss):Calls Tryz.prog 146 #[v,.string main,.int .i64 kd] w (Hd w ss main kd):=by
 have HS:=hid (fP ss main v w hv);obtain⟨p,c,rfl,_⟩:=hv.shape;clear hv;unfold Hd
 by_cases hm:main∈ss
 ·rw[decide_eq_true hm] at HS
  have H9:=gq (hS main hm);have HG:=hid (gJ main w (by have:=H9.small;omega));unfold pk at HG;rw[fp.2 ⟨_,H9⟩] at HG;have HT:=hid H9
  have x8:onS ss main (a6 kd)=decide ((txF main).kind=kd):=by
   unfold onS;rw[dU.2 hm,Bool.true_and];rfl
  rw[x8];have La:paI main=txS (bH (txF main)):=rfl;have Lb:pa1 main=txS (qd (txF main)):=rfl;have Lc:pa2 main=txS (qF (txF main)):=rfl;rw[La,Lb,Lc];have HW:=hid (fun wz=>mL kd wz);clear hm hS H9 x8 La Lb Lc;generalize txF main=t at*
  by_cases hk:t.kind=kd
  ·rw[decide_eq_true hk]
   have x7:(kd=5∨kd=6)∨(kd=2∨kd=3∨kd=4):=qB
   rcases x7 with x7 | eE
   ·have x9:bZ kd=1:=by rcases x7 with rfl | rfl<;>rfl
    rw[x9] at HW;have HK:=hid hk;have KY:=hid x7;clear H8 x7 x9 hk;go_enter Tryz.func146,Tryz.ntmps146;go_wp2_with fail;refine HS.out.mono ?_;rintro e w' ⟨rfl,rfl⟩;go_wp2_with fail;refine HG.out.mono ?_;rintro e w2 ⟨v2,rfl,k2,h9⟩;obtain⟨g,cap,p3,n3,c3,rfl,Ll,Lg,h0,z0,-,Lm,H7⟩:=oV HT.out (by rw[HK.out];exact KY.out) (h9 t HT.out);have KR:=hid (eI (bH t) (jZ HT.out.1) (by have:=HT.out.2.2;have:=jY (t:=t);omega) _ w2 H7);rw[HK.out] at z0;unfold maxLen at Lg;clear h9 H7;go_wp2_with fail;refine(HW.out _).mono ?_;rintro e w' ⟨rfl,rfl⟩;go_wp2_with fail;refine KR.out.mono ?_;rintro e w3 ⟨s3,rfl,KT,k3⟩;go_wp2_with fail;refine bodyPost_ret (v:=.tuple #[.string s3,.string ⟨#[]⟩,.bool true]) (by simp[results,Tryz.results146,go_sem]) rfl ?_;exact⟨_,_,rfl,fun _=>⟨fun _=>iB KT,fun h=>by have:=KY.out;omega⟩,k2.trans k3⟩
   ·have x9:bZ kd=2:=by rcases eE with rfl | rfl | rfl<;>rfl
    rw[x9] at HW;have HK:=hid hk;have KP:=hid eE;obtain⟨x,hx⟩:=A9 (by rw[hk];exact eE);have H7:=I5 (by rw[hk];exact eE);have HX:=hid hx;have KZ:=hid H7
    have Ld:(qd t).wf∧(qF t).wf:=by
     have hw:=HT.out.1
     cases t<;>simp[Fm.kind] at hk<;>simp[Fm.wf,qd,qF] at hw ⊢<;>first | exact hw | omega
    have K0:=hid Ld;clear H8 eE x9 hk hx H7 Ld;go_enter Tryz.func146,Tryz.ntmps146;go_wp2_with fail;refine HS.out.mono ?_;rintro e w' ⟨rfl,rfl⟩;go_wp2_with fail;refine HG.out.mono ?_;rintro e w2 ⟨v2,rfl,k2,h9⟩;have x6:=(h9 t HT.out).nds (by have:=HT.out.2.2;omega);obtain⟨b6,o6,n6,c6,rfl,Lh,Li,KS,Lj,hc,-⟩:=x6.root;unfold maxLen at KS;rw[HK.out] at hc;have HL:=hid (fun wz (kz:aa w2 wz)=>dg t.enc x (qd t) (qF t).enc _ wz (x6.keeps kz) HX.out);have HR:=hid (fun wz (kz:aa w2 wz)=>bY t.enc x (qd t) (qF t) _ wz (x6.keeps kz) HX.out);clear h9 x6;go_wp2_with fail;refine(HW.out _).mono ?_;rintro e w' ⟨rfl,rfl⟩;go_wp2_with fail;refine(HL.out _ (aa.refl _)).mono ?_;rintro e w' ⟨v3,rfl,KU,rfl⟩;have Le:=hid (eI (qd t) K0.out.1 (by have:=HT.out.2.2;have:=KZ.out;omega) _ _ KU);obtain⟨p3,n3,c3,rfl⟩:=KU.shape;clear KU;go_wp2_with fail;refine Le.out.mono ?_;rintro e w3 ⟨s3,rfl,KT,k3⟩;go_wp2_with fail;refine(HR.out _ k3).mono ?_;rintro e w' ⟨v4,rfl,KV,rfl⟩;have Lf:=hid (eI (qF t) K0.out.2 (by have:=HT.out.2.2;have:=KZ.out;omega) _ _ KV);obtain⟨p4,n4,c4,rfl⟩:=KV.shape;clear KV;go_wp2_with fail;refine Lf.out.mono ?_;rintro e w4 ⟨s4,rfl,Lk,k4⟩;go_wp2_with fail;refine bodyPost_ret (v:=.tuple #[.string s3,.string s4,.bool true]) (by simp[results,Tryz.results146,go_sem]) rfl ?_;exact⟨_,_,rfl,fun _=>⟨fun h=>by have:=KP.out;omega,fun _=>⟨iB KT,iB Lk⟩⟩,(k2.trans k3).trans k4⟩
  ·rw[decide_eq_false hk]
   have hk':((t.kind:Int)==kd)=false:=by simpa using hk
   have HK:=hid hk;clear H8 hk HW;go_enter Tryz.func146,Tryz.ntmps146;go_wp2_with fail;refine HS.out.mono ?_;rintro e w' ⟨rfl,rfl⟩;go_wp2_with fail;refine HG.out.mono ?_;rintro e w2 ⟨v2,rfl,k2,h9⟩;have x6:=(h9 t HT.out).nds (by have:=HT.out.2.2;omega);obtain⟨b6,o6,n6,c6,rfl,Lh,Li,KS,Lj,hc,-⟩:=x6.root;unfold maxLen at KS;clear h9 x6;go_wp2_with fail;refine bodyPost_ret (v:=.tuple #[.string ⟨#[]⟩,.string ⟨#[]⟩,.bool false]) (by simp[results,Tryz.results146,go_sem]) rfl ?_;exact⟨_,_,rfl,(fun h=>by cases h),k2⟩
 ·rw[decide_eq_false hm] at HS
  have x8:onS ss main (a6 kd)=false:=by
   unfold onS;rw[Bool.eq_false_iff.2 (fun h=>hm (dU.1 h)),Bool.false_and]
  rw[x8];clear hm hS x8 H8;go_enter Tryz.func146,Tryz.ntmps146;go_wp2_with fail;refine HS.out.mono ?_;rintro e w' ⟨rfl,rfl⟩;go_wp2_with fail;refine bodyPost_ret (v:=.tuple #[.string ⟨#[]⟩,.string ⟨#[]⟩,.bool false]) (by simp[results,Tryz.results146,go_sem]) rfl ?_;exact⟨_,_,rfl,(fun h=>by cases h),aa.refl _⟩
end
section
open Go.RowKit
theorem stF {F H:Oper→Prop} {T:Nat→Oper→Prop} {M i:Nat} {o:Oper} {l:List Oper} (hi:i<M) (h:F o) (t:jC F H T M (i+1) l):jC F H T M i (o::l):=⟨by rw[if_pos hi];exact h,t⟩
theorem stH {F H:Oper→Prop} {T:Nat→Oper→Prop} {i:Nat} {o:Oper} {l:List Oper} (h:H o) (t:jC F H T i (i+1) l):jC F H T i i (o::l):=⟨by rw[if_neg (Nat.lt_irrefl _),if_pos rfl];exact h,t⟩
theorem stT {F H:Oper→Prop} {T:Nat→Oper→Prop} {M i:Nat} {o:Oper} {l:List Oper} (hi:M<i) (h:T i o) (t:jC F H T M (i+1) l):jC F H T M i (o::l):=⟨by rw[if_neg qB,if_neg qB];exact h,t⟩
def kg:List SqT→List (List ByteArray)
 | []=>[]
 | p::l=>p.1::p.2::kg l
theorem oc:∀ ps:List SqT,(kg ps).length=ps.length*2
 | []=>rfl
 | p::l=>by simp[kg,oc l];omega
theorem ux:∀ (ps:List SqT) (k:Nat) (hk:k<ps.length),(kg ps)[k*2]? = some ps[k].1∧(kg ps)[k*2+1]? = some ps[k].2
 | [],i,hi=>by simp at hi
 | x::l,0,_=>by simp[kg]
 | x::l,i+1,hi=>by
  have:=ux l i (by simpa using hi);rw[show(i+1)*2=i*2+1+1 by omega,show i*2+1+1+1=(i*2+1)+1+1 by omega]
  simpa [kg] using this
section
variable {md:Region.Mode} {ops:Array Oper} {Q:Exit→Act→World→Prop} {nt:Nat} {ins:List Nat} {kd:Nat→Kq} {w0:World} {o:Oper}
theorem DZ (s s':Nat) (u u' v:Value) (hg:o.guard=none) (h:az md ops ins o s=true) (h':az md ops ins o s'=true) (hs:kd s=.val u) (hs':kd s'=.val u') (x6:∀ (a:Act) w,a.eval (.tmp s)=u→a.eval (.tmp s')=u'→(execOp a.eval o).run Tryz.prog w=.ok (.value v) w) (hk:∀ d,o.dst=some d→kd d=.val v):StQ md ops Q nt ins kd w0 o:=
 cB.plain hg fun a w K x7 hJ h9 eE hK=>by
  have hv:=dv h h9 eE;have hv':=dv h' h9 eE;change (kd s).holds _ w at hv;change (kd s').holds _ w at hv';rw[hs] at hv;rw[hs'] at hv';unfold Oper.wp;rw[x6 a w hv hv'];exact hK _ _ (aa.refl w) (fun d hd=>by show(kd d).holds _ w;rw[hk d hd];exact rfl)
theorem Az (b off n c i:Nat) (hi:i<n) (w:World):(Instr.indexAt 190 (.slice (some ⟨b,off,none⟩) n c) (.int .i64 (i:Int))).run Tryz.prog w=.ok (.pointer (some ⟨b,off+i,none⟩)) w:=by
 simp[Instr.indexAt,go_sem,hi]
theorem Bt (s s':Nat) (b off n c i:Nat) (hi:i<n) (ho:o.op=.indexAddr 190 (.tmp s) (.tmp s')) (hg:o.guard=none) (h:az md ops ins o s=true) (h':az md ops ins o s'=true) (hs:kd s=.val (.slice (some ⟨b,off,none⟩) n c)) (hs':kd s'=.val (.int .i64 (i:Int))) (hk:∀ d,o.dst=some d→kd d=.val (.pointer (some ⟨b,off+i,none⟩))):StQ md ops Q nt ins kd w0 o:=
 DZ s s' _ _ _ hg h h' hs hs' (fun a w e1 e2=>by
  unfold execOp;simp only[ho,e1,e2,Sem.run_bind,Az b off n c i hi,Result.andThen_ok]
  rfl) hk
end
theorem pH:aG 26:=fun _ _=>by kernel_rfl
theorem EI (n:Nat) (hn:n≤1000000) (w:World):(binOp .add 3 (.int .i64 (n:Int)) (.int .i64 1)).run Tryz.prog w=.ok (.int .i64 ((n+1:Nat):Int)) w:=by
 simp[binOp,go_sem];simp[IntKind.wrap,IntKind.signed,IntKind.bits];omega
theorem wu {f:Operand→Value} (x:Operand):(#[x]:Array Operand).map f=#[f x]:=by simp
theorem Aj {f:Operand→Value} (x y:Operand):(#[x,y]:Array Operand).map f=#[f x,f y]:=by simp
def Kz (B:Nat) (o sv:Value) (i b off:Nat) (x y:List ByteArray) (s:Nat):Kq:=
 if s=3∨s=13 then .val o else if s=0∨s=14∨s=19 then .val sv else if s=4∨s=15∨s=20 then .val (.int .i64 (i:Nat)) else if s=16 then .val (.pointer (some ⟨b,off+i,none⟩)) else if s=17 then .strs x else if s=18 then .ows B x else
 if s=21 then .val (.int .i64 ((i+1:Nat):Int)) else if s=22 then .val (.pointer (some ⟨b,off+(i+1),none⟩)) else if s=23 then .strs y else if s=24 then .ows B y else if s=25 then .oq B x y else if s=26 then .orow B x y else .any
theorem jN (ps:List SqT) (hn:ps.length≤100) (hb:∀ p∈ps,p.1.length≤1000000∧p.2.length≤1000000) (v:Value) (w:World) (hv:SdL w v (kg ps)):
  Calls Tryz.prog 147 #[v] w fun e w'=>∃ v',e=.returned v'∧(∃ p n c,v'=.slice p n c)∧SqL w' v' ps∧aa w w':=by
 have HV:=hid (fun wz (kz:aa w wz)=>hv.keeps kz);obtain⟨p,c,rfl,KY,KT,_⟩:=hv.shape;unfold maxLen at KT;have HL:=hid (oc ps);have HG:=hid (ux ps);have HB:=hid hb;have HT:Hid (ps.take ps.length=ps):=hid (List.take_length);have H7:=oc ps;generalize kg ps=xs at*;rw[H7] at*;clear hv hb H7;go_enter Tryz.func147,Tryz.ntmps147;go_wp2
 go_loopw [3,4] (fun o i' wr=>∃ (k:Nat),k≤ps.length∧i'=.int .i64 ((k*2:Nat):Int)∧SqO wr w.heap.size o (ps.take k)∧aa w wr) (fun _ i' _=>ps.length*2-(intOf i').toNat)
 case atStart=>exact⟨0,qB,rfl,by simpa using SqO.empty w,(aa.refl w).alloc _⟩
 case round=>
  obtain⟨k,hk,rfl,eE,kw⟩:=hrel;have HO:=hid eE;obtain⟨po,no,co,rfl⟩:=eE.sh;clear eE
  by_cases x6:k<ps.length
  ·have x7:((k*2:Nat):Int)+1<(ps.length*2:Nat):=qB
   have KZ:=kw.size
   go_upto_region 5 with fail
   have kd:=(aa.refl wr).drew;have H8:=HV.out _ (kw.trans kd);obtain⟨g1,g2⟩:=HG.out k x6;obtain⟨q1,e1⟩:=List.getElem?_eq_some_iff.1 g1;obtain⟨q2,e2⟩:=List.getElem?_eq_some_iff.1 g2;obtain⟨b,off,p1,n1,c1,rfl,z1,hx⟩:=H8.get (k*2) q1;obtain⟨b',off',p2,n2,c2,e3,z2,hy⟩:=H8.get (k*2+1) q2
   cases e3
   rw[e1] at hx;rw[e2] at hy;obtain⟨l1,l2⟩:=HB.out ps[k] (zo x6)
   refine lh (M:=14) (L:=16) (nt:=29) (ins:=[0,3,4]) (ds0:=[13,14,15,16,17,18,19,20,21,22,23,24,25,26]) (ds:=[13,14,15,16,17,18,19,20,21,22,23,24,25,26,27,3]) qA qA (fun s v w'=>(Kz w.heap.size (.slice po no co) (.slice (some ⟨b,off,none⟩) (ps.length*2) c) (k*2) b off ps[k].1 ps[k].2 s).holds v w') (fun _ _ _ _ h hv=>Kq.keeps h hv)
    (fun m f w'=>SqO w' w.heap.size (f (if m=14 then 27 else 3)) (ps.take (k+1))∧aa w w') ?_ qA rfl ?_ ?_
   ·refine stF qC (ai 3 (.inl rfl) rfl qA (dd rfl)) ?_
    refine stF qC (ai 0 (.inl rfl) rfl qA (dd rfl)) ?_;refine stF qC (ai 4 (.inl rfl) rfl qA (dd rfl)) ?_;refine stF qC (Bt 14 15 b off (ps.length*2) c (k*2) qB rfl rfl qA qA rfl rfl (dd rfl)) ?_;refine stF qC (aJ 16 _ _ _ rfl rfl qA rfl z1 hx (dd rfl)) ?_;refine stF qC (dV 26 _ _ rfl pH rfl (fun a w1 h1 x8=>?_)) ?_
    ·have h9:aj w1 (a.eval (.tmp 17)) ps[k].1:=x8 17 qA
     rw[wu];refine(eX _ _ w1 h9.1 l1).mono ?_;rintro e w2 ⟨b3,n3,c3,rfl,h3,k3⟩;exact⟨_,rfl,k3,fun d hd=>by cases hd;exact h3.mono (zx (kw.trans kd).size h1.size)⟩
    refine stF qC (ai 0 (.inl rfl) rfl qA (dd rfl)) ?_;refine stF qC (ai 4 (.inl rfl) rfl qA (dd rfl)) ?_;refine stF qC (aD 20 (.int .i64 ((k*2:Nat):Int)) (.int .i64 ((k*2+1:Nat):Int)) rfl qA rfl (fun a w1 h1=>?_) (dd rfl)) ?_
    ·unfold execOp
     have KR:a.eval (.const (.int .i64 1))=.int .i64 1:=rfl;simp only[h1,KR,Sem.run_bind,EI (k*2) qB];rfl
    refine stF qC (Bt 19 21 b off (ps.length*2) c (k*2+1) qB rfl rfl qA qA rfl rfl (dd rfl)) ?_;refine stF qC (aJ 22 _ _ _ rfl rfl qA rfl z2 hy (dd rfl)) ?_;refine stF qC (dV 26 _ _ rfl pH rfl (fun a w1 h1 x8=>?_)) ?_
    ·have h9:aj w1 (a.eval (.tmp 23)) ps[k].2:=x8 23 qA
     rw[wu];refine(eX _ _ w1 h9.1 l2).mono ?_;rintro e w2 ⟨b3,n3,c3,rfl,h3,k3⟩;exact⟨_,rfl,k3,fun d hd=>by cases hd;exact h3.mono (zx (kw.trans kd).size h1.size)⟩
    refine stF qC (Bq w.heap.size 18 24 ps[k].1 ps[k].2 rfl rfl qA qA rfl rfl (dd rfl)) ?_;refine stF qC (JO w.heap.size 25 ps[k].1 ps[k].2 rfl rfl qA rfl (dd rfl)) ?_;refine stH ?_ (stT qC ?_ True.intro)
    ·intro a w1 K KU h1 KV x9 hK
     have H9:a.eval (.tmp 13)=.slice po no co:=x9 13 qC
     have KP:∃ p a' b',a.eval (.tmp 26)=.slice p 1 1∧At w1 p [a',b']∧aA w1 w.heap.size a' ps[k].1∧aA w1 w.heap.size b' ps[k].2:=x9 26 qC
     obtain⟨p9,a9,b9,e9,t9,y9,z9⟩:=KP;have hw:aa wr w1:=kd.trans h1;refine JA (.tmp 13) (.tmp 26) rfl w.heap.size _ _ H9 (HO.out.keeps hw) p9 1 a9 b9 _ _ e9 t9 y9 z9 (kw.trans hw).size (by simp;omega) ?_;intro v' w' j1 j2 j3;refine hK v' w' ⟨?_,(kw.trans hw).grown j2 j3⟩
     show SqO w' w.heap.size v' (ps.take (k+1))
     rw[show ps.take (k+1)=ps.take k++[ps[k]] by rw[List.take_add_one,zn x6];rfl];exact j1
    ·intro a w1 K KU hF hK
     unfold Oper.wp execOp;simp only[Sem.run_pure];exact hK _ _ ⟨hF.1,hF.2⟩
   ·intro s hs
    have:s=0∨s=3∨s=4:=by simpa using hs
    rcases this with rfl | rfl | rfl<;>rfl
   ·intro f w' hF
    obtain⟨hq,KS⟩:=hF;have HQ:=hid hq;obtain⟨p9,n9,c9,e9⟩:=hq.sh;simp only[aN,Act.put,za,zb,zc];clear hq;go_wp2_with fail;go_roundw
    case rel=>exact⟨k+1,qB,by go_num,HQ.out,KS⟩
    case measure=>simp[intOf];omega
  ·obtain rfl:k=ps.length:=qB
   have x7:¬(((ps.length*2:Nat):Int)+1<(ps.length*2:Nat)):=qB;go_wp2_with fail;go_ret;have h:=HO.out;rw[HT.out] at h;exact⟨_,rfl,⟨_,_,_,rfl⟩,h.sql qB (fun q hq=>⟨by have:=(HB.out q hq).1;omega,by have:=(HB.out q hq).2;omega⟩),kw⟩
end
section
open Go.RowKit
theorem aj.box {w:World} {v x:Value} {l:List ByteArray} {r i:Nat} {T:TypeId} {cs:List Value} (h:aj w v l) (hb:aR w r T cs) (hi:i<cs.length) (hs:∃ p n c,cs[i]=.slice p n c):aj (w.setCell ⟨r,i,none⟩ x) v l:=by
 refine⟨?_,h.2.set _ _⟩;obtain⟨p,cap,hv,h1,h2,h3,h4⟩:=h.1;refine⟨p,cap,hv,h1,h2,h3,fun j hj=>?_⟩;obtain⟨b,off,f,hp,hc,hr⟩:=h4 j hj;refine⟨b,off,f,hp,fun c hc'=>?_,hr⟩;have h5:=hc c hc';rw[World.cell?_setCell_other]
 ·exact h5
 ·intro e
  obtain⟨q,n,m,e2⟩:=hs;rw[←e,hb.cell i hi,e2] at h5;obtain rfl:c=0:=qB;rw[hr] at h5
  cases h5
theorem aR.next {w:World} {r r' i:Nat} {T T':TypeId} {cs ds:List Value} {x:Value} (h:aR w r T cs) (h':aR w r' T' ds) (eE:r≠r'):aR (w.setCell ⟨r',i,none⟩ x) r T cs:=
 aZ h (al.grown (h'.grown i x)) (fun j e hi=>by
  have e1:r=j:=by simpa [Value.ownBlock] using e
  have e2:j=r':=by simpa using hi
  omega)
theorem lF {F G:Oper→Prop} {L i:Nat} {o:Oper} {l:List Oper} (hi:i<L) (h:F o) (t:oU F G L (i+1) l):oU F G L i (o::l):=⟨by rw[if_neg qB];exact h,t⟩
theorem lG {F G:Oper→Prop} {L:Nat} {o:Oper} (h:G o):oU F G L L [o]:=⟨by rw[if_pos rfl];exact h,True.intro⟩
theorem Gl {f:Operand→Value} (x y z u:Operand):(#[x,y,z,u]:Array Operand).map f=#[f x,f y,f z,f u]:=by simp
theorem kT (r:Nat) (a b:Value) (p q:Option Addr) (n c m d:Nat) (w:World) (hb:aR w r 29 [a,b]):(Instr.storeAt 29 (.pointer (some ⟨r,0,none⟩)) (.agg #[.slice p n c,.slice q m d])).run Tryz.prog w=.ok () ((w.setCell ⟨r,0,none⟩ (.slice p n c)).setCell ⟨r,1,none⟩ (.slice q m d)):=by
 have a0:=hb.cell 0 qD;have a1:=hb.cell 1 qD;have f0:=hb.froz 0;have f1:=hb.froz 1;simp only[zl,zj] at a0 a1;simp[Instr.storeAt,go_sem,a0,a1,f0,f1]
def Iy (B:Nat):Kq:=.pr (fun v w=>∃ r,v=.pointer (some ⟨r,0,none⟩)∧B≤r∧aR w r 29 [.slice none 0 0,.slice none 0 0]) (fun _ _ _ k ⟨r,e,h1,h2⟩=>⟨r,e,h1,h2.keeps k⟩)
section
variable {md:Region.Mode} {ops:Array Oper} {Q:Exit→Act→World→Prop} {nt:Nat} {ins:List Nat} {kd:Nat→Kq} {w0:World} {o:Oper}
theorem JK (B:Nat) (ho:o.op=.alloc 29) (hg:o.guard=none) (hB:B≤w0.heap.size) (hk:∀ d,o.dst=some d→kd d=Iy B):StQ md ops Q nt ins kd w0 o:=
 cB.plain hg fun a w K x7 hJ x6 h9 hK=>by
  have eE:∀ (b:Act) wz,(execOp b.eval o).run Tryz.prog wz=.ok (.value (.pointer (some ⟨wz.heap.size,0,none⟩))) (wz.alloc (.cells #[.slice none 0 0,.slice none 0 0] 29)):=fun b wz=>by
   unfold execOp;rw[ho]
   kernel_rfl
  unfold Oper.wp;rw[eE a w];refine hK _ _ ((aa.refl w).alloc _) (fun d hd=>?_)
  show(kd d).holds _ _
  rw[hk d hd];exact⟨_,rfl,zx hB hJ.size,aR.made w _ [.slice none 0 0,.slice none 0 0] qD qD⟩
theorem aM (b:Nat) (w:World):(Instr.fieldAt 29 (.pointer (some ⟨b,0,none⟩)) 0).run Tryz.prog w=.ok (.pointer (some ⟨b,0,none⟩)) w:=qA
theorem aL (b:Nat) (w:World):(Instr.fieldAt 29 (.pointer (some ⟨b,0,none⟩)) 1).run Tryz.prog w=.ok (.pointer (some ⟨b,1,none⟩)) w:=qA
end
def Kx (B b0:Nat) (lg main:ByteArray) (L R L' R':List ByteArray) (s:Nat):Kq:=
 if s=0∨s=11∨s=16 then .val (.string lg) else if s=2∨s=14∨s=19 then .val (.string main) else if s=4∨s=12 then .val (.pointer (some ⟨b0,0,none⟩)) else if s=17 then .val (.pointer (some ⟨b0,1,none⟩)) else
 if s=13 then .strs L else if s=18 then .strs R else if s=15 then .strs L' else if s=20 then .strs R' else if s=21 then .sq L' R' else if s=7 then Iy B else .any
def Il (w:World) (x y:List ByteArray) (e:Ending) (w':World):Prop:=∃ a b,e=.returned (.agg #[a,b])∧aj w' a x∧aj w' b y∧aa w w'
structure MoB (w wz:World) (r:Nat) (x y:Value) (X Y:List ByteArray):Prop where
 box:aR wz r 29 [x,y]
 sx:aj wz x X
 sy:aj wz y Y
 res:aR wz (w.heap.size+1) 29 [.slice none 0 0,.slice none 0 0]
 kp:aa w wz
 hr:w.heap.size+2≤r
theorem MoB.keeps {w wz w':World} {r:Nat} {x y:Value} {X Y:List ByteArray} (h:MoB w wz r x y X Y) (k:aa wz w'):MoB w w' r x y X Y:=⟨h.box.keeps k,h.sx.keeps k,h.sy.keeps k,h.res.keeps k,h.kp.trans k,h.hr⟩
theorem MoB.cells {w wz:World} {r:Nat} {x y:Value} {X Y:List ByteArray} (h:MoB w wz r x y X Y):wz.cell? ⟨r,0,none⟩=some x∧wz.cell? ⟨r,1,none⟩=some y∧wz.frozen? ⟨r,0,none⟩=false∧wz.frozen? ⟨r,1,none⟩=false:=
 ⟨h.box.cell 0 qD,h.box.cell 1 qD,h.box.froz 0,h.box.froz 1⟩
theorem MoB.rcells {w wz:World} {r:Nat} {x y:Value} {X Y:List ByteArray} (h:MoB w wz r x y X Y):wz.cell? ⟨w.heap.size+1,0,none⟩=some (.slice none 0 0)∧wz.cell? ⟨w.heap.size+1,1,none⟩=some (.slice none 0 0)∧wz.frozen? ⟨w.heap.size+1,0,none⟩=false∧wz.frozen? ⟨w.heap.size+1,1,none⟩=false:=
 ⟨h.res.cell 0 qD,h.res.cell 1 qD,h.res.froz 0,h.res.froz 1⟩
theorem MoB.set0 {w wz:World} {r:Nat} {x y x':Value} {X Y X':List ByteArray} (h:MoB w wz r x y X Y) (hx:aj wz x' X'):MoB w (wz.setCell ⟨r,0,none⟩ x') r x' y X' Y:=by
 have hr:=h.hr;have hs:=h.sx.sh;exact⟨h.box.set 0 x',hx.box h.box qD hs,h.sy.box h.box qD hs,h.res.next h.box qB,h.kp.setCell (p:=⟨r,0,none⟩) (by show w.heap.size≤r;omega) _,hr⟩
theorem MoB.set1 {w wz:World} {r:Nat} {x y y':Value} {X Y Y':List ByteArray} (h:MoB w wz r x y X Y) (hy:aj wz y' Y'):MoB w (wz.setCell ⟨r,1,none⟩ y') r x y' X Y':=by
 have hr:=h.hr;have hs:=h.sy.sh;exact⟨h.box.set 1 y',h.sx.box h.box qD hs,hy.box h.box qD hs,h.res.next h.box qB,h.kp.setCell (p:=⟨r,1,none⟩) (by show w.heap.size≤r;omega) _,hr⟩
theorem MoB.fin {w wz:World} {r:Nat} {x y:Value} {X Y:List ByteArray} (h:MoB w wz r x y X Y):
  (((wz.setCell ⟨w.heap.size+1,0,none⟩ x).setCell ⟨w.heap.size+1,1,none⟩ y).cell? ⟨w.heap.size+1,0,none⟩=some x∧((wz.setCell ⟨w.heap.size+1,0,none⟩ x).setCell ⟨w.heap.size+1,1,none⟩ y).cell? ⟨w.heap.size+1,1,none⟩=some y)∧
  Il w X Y (.returned (.agg #[x,y])) ((wz.setCell ⟨w.heap.size+1,0,none⟩ x).setCell ⟨w.heap.size+1,1,none⟩ y):=by
 have b1:=h.res.set 0 x;have b2:=b1.set 1 y;refine⟨⟨b2.cell 0 qD,b2.cell 1 qD⟩,_,_,rfl,(h.sx.box h.res qD ⟨_,_,_,rfl⟩).box b1 qD ⟨_,_,_,rfl⟩,(h.sy.box h.res qD ⟨_,_,_,rfl⟩).box b1 qD ⟨_,_,_,rfl⟩,?_⟩;exact(h.kp.setCell (p:=⟨w.heap.size+1,0,none⟩) (by show w.heap.size≤w.heap.size+1;omega) _).setCell (p:=⟨w.heap.size+1,1,none⟩) (by show w.heap.size≤w.heap.size+1;omega) _
noncomputable def mdQ (L:Nat) (ss tt:List ByteArray) (main:ByteArray):SqT:=if main=⟨#[]⟩ then (eJ L ss main,eQ L tt main) else if bg (txF main) then oE L ss tt main else oG L ss tt main
theorem pI:aG 192:=fun _ _=>by kernel_rfl
theorem mN (lg main:ByteArray) (ss tt:List ByteArray) (hs:aW ss) (ht:aW tt) (a b:Value) (w:World) (ha:aj w a ss) (hb:aj w b tt) (hl:ss.length≤1000∧tt.length≤1000) (hm:main=⟨#[]⟩∨∃ t,ck main t∧(t.kind=5∨t.kind=6)):
  Calls Tryz.prog 148 #[.string lg,.agg #[a,b],.string main] w (Il w (mdQ (lgN lg) ss tt main).1 (mdQ (lgN lg) ss tt main).2):=by
 obtain⟨p,n,c,rfl⟩:=ha.sh;obtain⟨q,m,d,rfl⟩:=hb.sh;have k1:=(aa.refl w).alloc (.cells #[.slice p n c,.slice q m d] 29);have b1:=aR.made w 29 [.slice p n c,.slice q m d] qD qD
 have Lf:(w.alloc (.cells #[.slice p n c,.slice q m d] 29)).heap.size=w.heap.size+1:=by simp
 have k2:=(aa.refl (w.alloc (.cells #[.slice p n c,.slice q m d] 29))).alloc (.cells #[.slice none 0 0,.slice none 0 0] 29);have b2:=aR.made (w.alloc (.cells #[.slice p n c,.slice q m d] 29)) 29 [.slice none 0 0,.slice none 0 0] qD qD;rw[Lf] at b2
 have Lg:((w.alloc (.cells #[.slice p n c,.slice q m d] 29)).alloc (.cells #[.slice none 0 0,.slice none 0 0] 29)).heap.size=w.heap.size+2:=by simp
 have K2:=k1.trans k2;have KV:=hid (b1.keeps k2);have KU:=hid b2;have HA:=hid (ha.keeps K2);have HC:=hid (hb.keeps K2);have HS:=hid hs;have HT:=hid ht;have HM:=hid hm;have HZ:=hid Lg;clear ha hb b1 b2 k1 k2 hs ht hm Lf Lg;go_enter Tryz.func148,Tryz.ntmps148
 go_upto_region 1 with fail
 generalize (w.alloc (.cells #[.slice p n c,.slice q m d] 29)).alloc (.cells #[.slice none 0 0,.slice none 0 0] 29)=w1 at*
 go_cut [7] from 11 to 21 (fun p7 wx=>∃ r x y,p7=.pointer (some ⟨r,0,none⟩)∧w.heap.size+2≤r∧aR wx r 29 [x,y]∧aj wx x (eJ (lgN lg) ss main)∧aj wx y (eQ (lgN lg) tt main)∧aR wx (w.heap.size+1) 29 [.slice none 0 0,.slice none 0 0]∧aa w wx)
 case first=>
  have kd:=(aa.refl w1).drew;have c0:=(KV.out.keeps kd).cell 0 qD;have c1:=(KV.out.keeps kd).cell 1 qD;simp only[zj,zl] at c0 c1
  refine la (L:=12) (nt:=64) (ins:=[0,2,4]) (ds:=[11,12,13,14,15,16,17,18,19,20,21,7]) qA qA (fun s v w'=>(Kx (w.heap.size+2) w.heap.size lg main ss tt (eJ (lgN lg) ss main) (eQ (lgN lg) tt main) s).holds v w') (fun _ _ _ _ h hv=>Kq.keeps h hv)
   (fun f w'=>∃ r x y,f 7=.pointer (some ⟨r,0,none⟩)∧w.heap.size+2≤r∧aR w' r 29 [x,y]∧aj w' x (eJ (lgN lg) ss main)∧aj w' y (eQ (lgN lg) tt main)∧aR w' (w.heap.size+1) 29 [.slice none 0 0,.slice none 0 0]∧aa w w') ?_ qA rfl ?_ ?_
  ·have Lj:=zx (Nat.le_of_eq HZ.out.symm) kd.size
   refine lF qC (ai 0 (.inl rfl) rfl qA (dd rfl)) ?_;refine lF qC (aD 4 (.pointer (some ⟨w.heap.size,0,none⟩)) (.pointer (some ⟨w.heap.size,0,none⟩)) rfl qA rfl (fun a w1 h1=>by unfold execOp;simp only[h1,Sem.run_bind,aM w.heap.size];rfl) (dd rfl)) ?_;refine lF qC (aJ 12 _ _ _ rfl rfl qA rfl c0 (HA.out.keeps kd) (dd rfl)) ?_;refine lF qC (ai 2 (.inl rfl) rfl qA (dd rfl)) ?_;refine lF qC (dV 192 _ _ rfl pI rfl (fun a w1 h1 H9=>?_)) ?_
   ·have g1:a.eval (.tmp 11)=.string lg:=H9 11 qA
    have g2:aj w1 (a.eval (.tmp 13)) ss:=H9 13 qA;have g3:a.eval (.tmp 14)=.string main:=H9 14 qA;have g4:a.eval (.const (.int .i64 5))=.int .i64 5:=rfl;rw[Gl,g1,g3,g4];refine(pM lg ss HS.out _ 5 (.inl rfl) main w1 g2.1 hl.1).mono ?_;rintro e w2 ⟨v3,rfl,h3,k3⟩;exact⟨_,rfl,k3,fun d hd=>by cases hd;rw[gz] at h3;exact h3⟩
   refine lF qC (ai 0 (.inl rfl) rfl qA (dd rfl)) ?_;refine lF qC (aD 4 (.pointer (some ⟨w.heap.size,0,none⟩)) (.pointer (some ⟨w.heap.size,1,none⟩)) rfl qA rfl (fun a w1 h1=>by unfold execOp;simp only[h1,Sem.run_bind,aL w.heap.size];rfl) (dd rfl)) ?_;refine lF qC (aJ 17 _ _ _ rfl rfl qA rfl c1 (HC.out.keeps kd) (dd rfl)) ?_;refine lF qC (ai 2 (.inl rfl) rfl qA (dd rfl)) ?_;refine lF qC (dV 192 _ _ rfl pI rfl (fun a w1 h1 H9=>?_)) ?_
   ·have g1:a.eval (.tmp 16)=.string lg:=H9 16 qA
    have g2:aj w1 (a.eval (.tmp 18)) tt:=H9 18 qA;have g3:a.eval (.tmp 19)=.string main:=H9 19 qA;have g4:a.eval (.const (.int .i64 6))=.int .i64 6:=rfl;rw[Gl,g1,g3,g4];refine(pM lg tt HT.out _ 6 (.inr rfl) main w1 g2.1 hl.2).mono ?_;rintro e w2 ⟨v3,rfl,h3,k3⟩;exact⟨_,rfl,k3,fun d hd=>by cases hd;rw[hO] at h3;exact h3⟩
   refine lF qC (eP 15 20 (eJ (lgN lg) ss main) (eQ (lgN lg) tt main) rfl rfl qA qA rfl rfl (dd rfl)) ?_;refine lF qC (JK (w.heap.size+2) rfl rfl Lj (dd rfl)) ?_;refine lG ?_;intro a w2 K Ln h1 Lb hK
   have h7:∃ r,a.eval (.tmp 7)=.pointer (some ⟨r,0,none⟩)∧w.heap.size+2≤r∧aR w2 r 29 [.slice none 0 0,.slice none 0 0]:=Lb 7 qC
   have Lh:∃ x y,a.eval (.tmp 21)=.agg #[x,y]∧aj w2 x (eJ (lgN lg) ss main)∧aj w2 y (eQ (lgN lg) tt main):=Lb 21 qC
   obtain⟨r,e7,hr,x8⟩:=h7;obtain⟨x,y,e21,hx,hy⟩:=Lh;obtain⟨px,nx,cx,rfl⟩:=hx.sh;obtain⟨py,ny,cy,rfl⟩:=hy.sh;have b3:=x8.set 0 (.slice px nx cx);have b4:=b3.set 1 (.slice py ny cy);have Ll:=(KU.out.keeps kd).keeps h1;have KT:w.heap.size+1≠r:=qB;unfold Oper.wp execOp;simp only[e7,e21,Sem.run_bind,kT r _ _ px py nx cx ny cy w2 x8,Result.andThen_ok]
   show K (a.put none undef) _
   refine hK undef _ ⟨r,_,_,by simpa using e7,hr,b4,(hx.box x8 (i:=0) qD ⟨_,_,_,rfl⟩).box b3 (i:=1) qD ⟨_,_,_,rfl⟩,(hy.box x8 (i:=0) qD ⟨_,_,_,rfl⟩).box b3 (i:=1) qD ⟨_,_,_,rfl⟩,(Ll.next x8 KT).next b3 KT,?_⟩;exact(((K2.trans kd).trans h1).setCell (p:=⟨r,0,none⟩) (by show w.heap.size≤r;omega) _).setCell (p:=⟨r,1,none⟩) (by show w.heap.size≤r;omega) _
  ·intro s hs
   have:s=0∨s=2∨s=4:=by simpa using hs
   rcases this with rfl | rfl | rfl<;>rfl
  ·intro f w' hF
   obtain⟨r,x,y,e7,hr,j1,j2,j3,j4,j5⟩:=hF;have HJ:=hid (And.intro hr (And.intro j1 (And.intro j2 (And.intro j3 (And.intro j4 j5)))));clear hr j1 j2 j3 j4 j5;simp only[aN,Act.put,za,zb,zc,e7];go_wp2_with fail
   go_meet
   exact⟨r,x,y,rfl,HJ.out⟩
 case rest=>
  obtain⟨r,x,y,rfl,hr,j1,j2,j3,j4,j5⟩:=hcut;obtain⟨px,nx,cx,rfl⟩:=j2.sh;obtain⟨py,ny,cy,rfl⟩:=j3.sh;have h9:Hid (mdQ (lgN lg) ss tt main=if main=⟨#[]⟩ then (eJ (lgN lg) ss main,eQ (lgN lg) tt main) else if bg (txF main) then oE (lgN lg) ss tt main else oG (lgN lg) ss tt main):=hid rfl;generalize mdQ (lgN lg) ss tt main=R at*;have La:MoB w wc r (.slice px nx cx) (.slice py ny cy) (eJ (lgN lg) ss main) (eQ (lgN lg) tt main):=⟨j1,j2,j3,j4,j5,hr⟩
  have l1:(eJ (lgN lg) ss main).length≤2000:=by have:=iO (lgN lg) bg ss main;unfold eJ;omega
  have l2:(eQ (lgN lg) tt main).length≤2000:=by have:=iO (lgN lg) bR tt main;unfold eQ;omega
  have HB:=hid La;clear j1 j2 j3 j4 j5 KV KU HA HC HS HT HZ La
  rcases HM.out with h0 | ⟨t,ht,hk⟩
  ·subst h0
   rw[if_pos rfl] at h9;obtain⟨c0,c1,f0,f1⟩:=HB.out.cells;obtain⟨d0,d1,g0,g1⟩:=HB.out.rcells;go_wp2_with fail;obtain⟨⟨y0,y1⟩,hR⟩:=HB.out.fin;refine bodyPost_ret (v:=.agg #[.slice px nx cx,.slice py ny cy]) (by simp[results,Tryz.results148,go_sem,y0,y1]) rfl ?_;rw[h9.out];exact hR
  ·have KT:main≠⟨#[]⟩:=fun e=>by
    subst e;have h1:=ht.2.1;have h2:=my t;rw[←h1] at h2;exact absurd h2 qC
   rw[if_neg KT] at h9
   have Lk:(main.toList==[])=false:=by
    cases main with | mk dd=>cases dd with | mk l=>cases l with
     | nil=>exact absurd rfl KT
     | cons x l=>rw[ByteArray.toList_eq];rfl
   obtain⟨c0,c1,f0,f1⟩:=HB.out.cells;obtain⟨d0,d1,g0,g1⟩:=HB.out.rcells;have HG:=hid (fun wz=>gJ main wz (by have:=ht.small;omega));unfold pk at HG;rw[fp.2 ⟨_,ht⟩] at HG;have KS:=hid ht;have HK:=hid hk;clear ht hk KT;have e2:=Gu lg;have K0:Hid (paI main=txS (bH t)):=hid (by rw[←gi KS.out];rfl);have KZ:Hid (bg (txF main)=bg t):=hid (by rw[gi KS.out]);unfold oE oG at h9;rw[K0.out,KZ.out] at h9;clear K0 KZ;have m1:=aX (eJ (lgN lg) ss main) main;generalize eJ (lgN lg) ss main=X at*;generalize eQ (lgN lg) tt main=Y at*;clear hl HM;go_wp2_with fail;refine(HG.out _).mono ?_;rintro e w2 ⟨v2,rfl,k2,Lc⟩;obtain⟨g,cap,p3,n3,c3,rfl,Lm,Li,h0,z0,-,Lo,Le⟩:=oV KS.out HK.out (Lc t KS.out);have KY:=hid (eI (bH t) (jZ KS.out.1) (by have:=KS.out.2.2;have:=jY (t:=t);omega) _ w2 Le);unfold maxLen at Li;clear Lc Le c0 c1 f0 f1 d0 d1 g0 g1;have KU:=hid (HB.out.keeps k2);clear HB;go_wp2_with fail;refine KY.out.mono ?_;rintro e w3 ⟨s3,rfl,Ld,k3⟩;obtain rfl:=iB Ld;have x9:=hid (KU.out.keeps k3);have z3:=k3.cell z0;clear Ld KU z0;generalize txS (bH t)=pt at*
   rcases HK.out with h5 | h6
   ·have x8:bg t=true:=by cases t<;>simp[Fm.kind] at h5<;>rfl
    rw[if_pos x8] at h9;rw[h5] at z3;clear x8 h5 HK;obtain⟨c0,c1,f0,f1⟩:=x9.out.cells;have HI:=hid (bX Y _ pt w3 x9.out.sy qB);go_wp2_with fail;refine HI.out.mono ?_;rintro e w4 ⟨v4,rfl,KP,k4⟩;obtain⟨p4,n4,c4,rfl⟩:=KP.sh;clear c0 c1 f0 f1;have H7:=x9.out.keeps k4;obtain⟨c0,c1,f0,f1⟩:=H7.cells;have x6:=hid (H7.set1 KP);clear H7 KP HI x9 z3 k4
    by_cases x7:lgN lg=5
    ·rw[decide_eq_true x7] at e2
     rw[if_pos x7] at h9;clear x7
     go_upto_if 44 with fail
     clear c0 c1 f0 f1;generalize w4.setCell ⟨r,1,none⟩ (.slice p4 n4 c4)=w5 at*;obtain⟨c0,c1,f0,f1⟩:=x6.out.cells;have HI:=hid (bX X _ main w5 x6.out.sx qB);go_wp2_with fail;refine HI.out.mono ?_;rintro e w6 ⟨v6,rfl,KR,k6⟩;obtain⟨p6,n6,c6,rfl⟩:=KR.sh;clear c0 c1 f0 f1;have H8:=x6.out.keeps k6;obtain⟨c0,c1,f0,f1⟩:=H8.cells;have eE:=hid (H8.set0 KR);clear H8 KR HI x6 k6
     go_upto_region 10 with fail
     clear c0 c1 f0 f1;generalize w6.setCell ⟨r,0,none⟩ (.slice p6 n6 c6)=w7 at*;obtain⟨c0,c1,f0,f1⟩:=eE.out.cells;obtain⟨d0,d1,g0,g1⟩:=eE.out.rcells;go_wp2_with fail;obtain⟨⟨y0,y1⟩,hR⟩:=eE.out.fin;refine bodyPost_ret (v:=.agg #[.slice p6 n6 c6,.slice p4 n4 c4]) (by simp[results,Tryz.results148,go_sem,y0,y1]) rfl ?_;rw[h9.out];exact hR
    ·rw[decide_eq_false x7] at e2
     rw[if_neg x7] at h9;clear x7
     go_upto_if 44 with fail
     clear c0 c1 f0 f1;generalize w4.setCell ⟨r,1,none⟩ (.slice p4 n4 c4)=w5 at*;have eE:=hid x6.out;clear x6;obtain⟨c0,c1,f0,f1⟩:=eE.out.cells;obtain⟨d0,d1,g0,g1⟩:=eE.out.rcells;go_wp2_with fail;obtain⟨⟨y0,y1⟩,hR⟩:=eE.out.fin;refine bodyPost_ret (v:=.agg #[.slice px nx cx,.slice p4 n4 c4]) (by simp[results,Tryz.results148,go_sem,y0,y1]) rfl ?_;rw[h9.out];exact hR
   ·have x8:bg t=false:=by cases t<;>simp[Fm.kind] at h6<;>rfl
    rw[if_neg (by rw[x8];simp)] at h9;rw[h6] at z3;clear x8 h6 HK;obtain⟨c0,c1,f0,f1⟩:=x9.out.cells;have HI:=hid (bX X _ pt w3 x9.out.sx qB);go_wp2_with fail;refine HI.out.mono ?_;rintro e w4 ⟨v4,rfl,KP,k4⟩;obtain⟨p4,n4,c4,rfl⟩:=KP.sh;clear c0 c1 f0 f1;have H7:=x9.out.keeps k4;obtain⟨c0,c1,f0,f1⟩:=H7.cells;have x6:=hid (H7.set0 KP);clear H7 KP HI x9 z3 k4
    by_cases x7:lgN lg=5
    ·rw[decide_eq_true x7] at e2
     rw[if_pos x7] at h9;clear x7
     go_upto_if 57 with fail
     clear c0 c1 f0 f1;generalize w4.setCell ⟨r,0,none⟩ (.slice p4 n4 c4)=w5 at*;obtain⟨c0,c1,f0,f1⟩:=x6.out.cells;have HI:=hid (bX Y _ main w5 x6.out.sy qB);go_wp2_with fail;refine HI.out.mono ?_;rintro e w6 ⟨v6,rfl,KR,k6⟩;obtain⟨p6,n6,c6,rfl⟩:=KR.sh;clear c0 c1 f0 f1;have H8:=x6.out.keeps k6;obtain⟨c0,c1,f0,f1⟩:=H8.cells;have eE:=hid (H8.set1 KR);clear H8 KR HI x6 k6
     go_upto_region 14 with fail
     clear c0 c1 f0 f1;generalize w6.setCell ⟨r,1,none⟩ (.slice p6 n6 c6)=w7 at*;obtain⟨c0,c1,f0,f1⟩:=eE.out.cells;obtain⟨d0,d1,g0,g1⟩:=eE.out.rcells;go_wp2_with fail;obtain⟨⟨y0,y1⟩,hR⟩:=eE.out.fin;refine bodyPost_ret (v:=.agg #[.slice p4 n4 c4,.slice p6 n6 c6]) (by simp[results,Tryz.results148,go_sem,y0,y1]) rfl ?_;rw[h9.out];exact hR
    ·rw[decide_eq_false x7] at e2
     rw[if_neg x7] at h9;clear x7
     go_upto_if 57 with fail
     clear c0 c1 f0 f1;generalize w4.setCell ⟨r,0,none⟩ (.slice p4 n4 c4)=w5 at*;have eE:=hid x6.out;clear x6;obtain⟨c0,c1,f0,f1⟩:=eE.out.cells;obtain⟨d0,d1,g0,g1⟩:=eE.out.rcells;go_wp2_with fail;obtain⟨⟨y0,y1⟩,hR⟩:=eE.out.fin;refine bodyPost_ret (v:=.agg #[.slice p4 n4 c4,.slice py ny cy]) (by simp[results,Tryz.results148,go_sem,y0,y1]) rfl ?_;rw[h9.out];exact hR
end
section
open Go.RowKit
open scoped Classical in
theorem wQ (ss:List ByteArray) (x:ByteArray) (v:Value) (w:World) (hv:au w v ss):Calls Tryz.prog 98 #[v,.string x] w fun e w'=>e=.returned (.bool (inS ss x))∧w=w':=by
 refine(fP ss x v w hv).mono ?_;rintro e w' ⟨rfl,rfl⟩;refine⟨?_,rfl⟩
 congr 2
 rw[Bool.eq_iff_iff,decide_eq_true_eq,dU]
theorem SqL.none0 (w:World) (p:Option Addr):SqL w (.slice p 0 0) []:=⟨⟨p,0,rfl,qD,by simp[maxLen],qD,fun i h=>by simp at h⟩,fun h=>by simp at h⟩
theorem Fb:txS .fls=⟨#[70]⟩:=(iB qC).symm
theorem mm {s:ByteArray} (h:s≠⟨#[]⟩):(s.toList==[])=false:=by
 cases s with | mk dd=>cases dd with | mk l=>cases l with
  | nil=>exact absurd rfl h
  | cons x l=>rw[ByteArray.toList_eq];rfl
theorem GA (r c:Int) (w:World):(binOp .eql 2 (.int .i64 r) (.int .i64 c)).run Tryz.prog w=.ok (.bool (r==c)) w:=qA
section
variable {md:Region.Mode} {ops:Array Oper} {Q:Exit→Act→World→Prop} {nt:Nat} {ins:List Nat} {kd:Nat→Kq} {w0:World} {o:Oper}
theorem lK {F:Oper→Prop} {o:Oper} {l:List Oper} (h:F o) (t:oT F l):oT F (o::l):=⟨h,t⟩
theorem zO:aG 54:=fun _ _=>by kernel_rfl
theorem xJ:aG 147:=fun _ _=>by kernel_rfl
theorem jS (s s':Nat) (x:List ByteArray) (y:ByteArray) (ho:o.op=.call { callee:=.value (.func 54),args:=#[.tmp s,.tmp s'],argTypes:=#[27,9] }) (hg:o.guard=none) (h:az md ops ins o s=true) (h':az md ops ins o s'=true) (hs:kd s=.strs x) (hs':kd s'=.val (.string y)) (hl:x.length≤1000000) (hk:∀ d,o.dst=some d→kd d=.strs (ae x y)):StQ md ops Q nt ins kd w0 o:=
 dV 54 _ _ ho zO hg (fun a w1 _ hv=>by
  have g1:=hv s h;have g2:=hv s' h';rw[hs] at g1;rw[hs'] at g2;have g1:aj w1 (a.eval (.tmp s)) x:=g1;have g2:a.eval (.tmp s')=.string y:=g2;rw[Aj,g2];refine(bX x _ y w1 g1 hl).mono ?_;rintro e w2 ⟨v3,rfl,h3,k3⟩
  exact⟨_,rfl,k3,fun d hd=>by rw[hk d hd];exact h3⟩)
theorem ki (s:Nat) (ps:List SqT) (ho:o.op=.call { callee:=.value (.func 147),args:=#[.tmp s],argTypes:=#[190] }) (hg:o.guard=none) (h:az md ops ins o s=true) (hs:kd s=.sds (kg ps)) (hn:ps.length≤100) (hb:∀ p∈ps,p.1.length≤1000000∧p.2.length≤1000000) (hk:∀ d,o.dst=some d→kd d=.sqs ps):StQ md ops Q nt ins kd w0 o:=
 dV 147 _ _ ho xJ hg (fun a w1 _ hv=>by
  have g1:=hv s h;rw[hs] at g1;have g1:SdL w1 (a.eval (.tmp s)) (kg ps):=g1;rw[wu];refine(jN ps hn hb _ w1 g1).mono ?_;rintro e w2 ⟨v3,rfl,_,h3,k3⟩
  exact⟨_,rfl,k3,fun d hd=>by rw[hk d hd];exact h3⟩)
end
end
end Go.Proofs.YtagoboblkadelaaGreat
