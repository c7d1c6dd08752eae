import Derived.Test.YtagoboblkadelaaGreatZZA
import Derived.Lib.SliceRun
import Derived.Deep.RegionHeld3
/- own -/
namespace Go.Proofs.YtagoboblkadelaaGreat
set_option maxHeartbeats 2000000
section
open Go.RowKit
theorem bt (s t:ByteArray):bts (s++t)=bts s++bts t:=by simp[bts]
theorem lo (a b:Fm):(Fm.imp a b).isNeg=b.isFls:=by cases b<;>rfl
theorem Gh (a b:Fm):(Fm.imp a b).lev=if b.isFls then 3 else 0:=rfl
theorem bG (t:Fm) (v:Value) (w:World) (hv:Nds w v t.enc):
  Calls Tryz.prog 223 #[v] w fun e w'=>e=.returned (.int .i64 t.lev)∧w=w':=by
 have eE:=hv;obtain⟨b,off,n,cap,rfl,h0,h1,h2,h3,hc,_⟩:=hv.root
 cases t with
 | imp x y=>
  replace hc:w.cell? ⟨b,off,none⟩=some (.int .i64 4):=hc
  have hn:=fo (.imp x y) _ _ eE;rw[lo] at hn;rw[Gh]
  cases hf:y.isFls
  ·rw[hf] at hn
   have HN:=hid hn;clear hn;go_enter Tryz.func223,Tryz.ntmps223
   go_wp2_with (go_at_call 224;refine HN.out.mono ?_;rintro e w' ⟨rfl,rfl⟩)
   go_ret;exact⟨rfl,rfl⟩
  ·rw[hf] at hn
   have HN:=hid hn;clear hn;go_enter Tryz.func223,Tryz.ntmps223
   go_wp2_with (go_at_call 224;refine HN.out.mono ?_;rintro e w' ⟨rfl,rfl⟩)
   go_ret;exact⟨rfl,rfl⟩
 | var _=>
  replace hc:w.cell? ⟨b,off,none⟩=some (.int .i64 0):=hc
  go_enter Tryz.func223,Tryz.ntmps223;go_wp2;go_ret;exact⟨rfl,rfl⟩
 | fls=>
  replace hc:w.cell? ⟨b,off,none⟩=some (.int .i64 1):=hc
  go_enter Tryz.func223,Tryz.ntmps223;go_wp2;go_ret;exact⟨rfl,rfl⟩
 | and _ _=>
  replace hc:w.cell? ⟨b,off,none⟩=some (.int .i64 2):=hc
  go_enter Tryz.func223,Tryz.ntmps223;go_wp2;go_ret;exact⟨rfl,rfl⟩
 | or _ _=>
  replace hc:w.cell? ⟨b,off,none⟩=some (.int .i64 3):=hc
  go_enter Tryz.func223,Tryz.ntmps223;go_wp2;go_ret;exact⟨rfl,rfl⟩
 | box _=>
  replace hc:w.cell? ⟨b,off,none⟩=some (.int .i64 5):=hc
  go_enter Tryz.func223,Tryz.ntmps223;go_wp2;go_ret;exact⟨rfl,rfl⟩
 | dia _=>
  replace hc:w.cell? ⟨b,off,none⟩=some (.int .i64 6):=hc
  go_enter Tryz.func223,Tryz.ntmps223;go_wp2;go_ret;exact⟨rfl,rfl⟩
theorem cE {w:World} {B B':Nat} {T1 T2:TypeId} {s s' n m:Nat} {v u:Value} {xs ys:List Value} (h1:w.ownsRow B T1 s v n xs) (h2:w.ownsRow B' T2 s' u m ys) (eE:T1≠T2) {k:Nat} (hv:v.ownBlock=some k):u.ownBlock≠some k:=by
 intro hu
 rcases h1.2 with ⟨rfl,_⟩ | ⟨g,cap,cur,rfl,_,hg,_⟩
 ·simp[Value.ownBlock] at hv
 rcases h2.2 with ⟨rfl,_⟩ | ⟨g',cap',cur',rfl,_,hg',_⟩
 ·simp[Value.ownBlock] at hu
 simp[Value.ownBlock] at hv hu;subst hv;subst hu;rw[hg] at hg';injection hg' with e;injection e with _ e2 _;exact eE e2
theorem At.lit1 (w:World) (u:Value) (E:TypeId):At (w.alloc (.cells #[u] E)) (some ⟨w.heap.size,0,none⟩) [u]:=by
 intro j hj
 simp at hj
 subst hj;exact⟨_,_,rfl,qD⟩
theorem l9 (pr:ByteArray→Bool) (f:FuncId) (cp:Array Value) (a:List ByteArray) (v:Value) (w:World) (hv:au w v a) (h9:aG f)
  (hf:∀ x w1,x∈a→aa w w1→Calls Tryz.prog f (#[.string x]++cp) w1 fun e w2=>e=.returned (.bool (pr x))∧aa w1 w2):
  Calls Tryz.prog 195 #[v,.func (.func f) #[] cp] w fun e w'=>e=.returned (.int .i64 (idxOf pr a 0))∧aa w w':=by
 have x6:=hv;obtain⟨p,cap,rfl,H7,x9,_,x8⟩:=hv.at;unfold maxLen at x9;have HF:=hid hf;clear hf
 have x7:∀ args w,(callFunc f args).run Tryz.prog w=.ok (.enter f args) w:=h9
 clear h9;go_enter Tryz.func195,Tryz.ntmps195;go_wp2
 go_loopw [4,8] (fun r i' wr=>∃ k:Nat,k≤a.length∧idxOf pr a 0=idxOf pr (a.drop k) k∧aa w wr∧i'=.int .i64 k∧r=.int .i64 0) (fun _ i _=>a.length-(intOf i).toNat)
 case atStart=>exact⟨0,qB,qD,aa.refl w,rfl,rfl⟩
 case round=>
  obtain⟨k,hk,hs,kw,rfl,rfl⟩:=hrel;have Hs:=hid hs;clear hs
  by_cases eE:k<a.length
  ·obtain⟨b,off,rfl,h1⟩:=(x6.keeps kw).get k eE
   have hd:=hid (ea pr a k eE);clear x6
   cases hp:pr a[k]
   all_goals
    have Hp:=hid hp;clear hp
    go_wp2_with ((with_reducible refine(HF.out a[k] wr (zo eE) kw).mono ?_);rintro e w2 ⟨rfl,k2⟩;rw[Hp.out])
   ·go_roundw
    case rel=>exact⟨k+1,qB,by rw[Hs.out,hd.out,Hp.out];rfl,kw.trans k2,by go_num,rfl⟩
    case measure=>simp[intOf];omega
   ·go_ret
    exact⟨aK (by rw[Hs.out,hd.out,Hp.out];rfl),kw.trans k2⟩
  ·go_wp2
   go_ret;exact⟨aK (by rw[Hs.out,eT _ _ _ qB]),kw⟩
theorem tF (pr:ByteArray→Bool) (f:FuncId) (cp:Array Value) (a:List ByteArray) (v:Value) (w:World) (hv:au w v a) (eE:aG f)
  (hf:∀ x w1,x∈a→aa w w1→Calls Tryz.prog f (#[.string x]++cp) w1 fun e w2=>e=.returned (.bool (pr x))∧aa w1 w2):
  Calls Tryz.prog 153 #[v,.func (.func f) #[] cp] w fun e w'=>e=.returned (.bool (a.any pr))∧aa w w':=by
 have H:=hid (l9 pr f cp a v w hv eE hf);clear hv hf eE;have he:=hid (fI pr a 0);go_enter Tryz.func153,Tryz.ntmps153
 go_wp2_with (go_at_call 195;refine H.out.mono ?_;rintro e w2 ⟨rfl,k2⟩)
 go_ret;exact⟨ab he.out,k2⟩
theorem aA.store {w:World} {B:Nat} {g cap:Nat} {a:List ByteArray} (h:aA w B (.slice (some ⟨g,0,none⟩) a.length cap) a) (i:Nat) (x:ByteArray):
  aA (w.setCell ⟨g,i,none⟩ (.string x)) B (.slice (some ⟨g,0,none⟩) a.length cap) (a.set i x)∧w.grownBy (w.setCell ⟨g,i,none⟩ (.string x)) (some g):=by
 have h':w.ownsRow B 9 1 (.slice (some ⟨g,0,none⟩) a.length cap) a.length (aq a):=h;have:=h'.stored i (.string x);refine⟨?_,this.2⟩;unfold aA;rw[List.length_set,show aq (a.set i x)=(aq a).set i (.string x) by simp[aq,List.map_set]];exact this.1
theorem jm (s:ByteArray):s.toList=bts s:=ByteArray.toList_eq s
theorem dT (s t:ByteArray):(s.toList==t.toList)=decide (bts s=bts t):=by rw[jm,jm,Bool.eq_iff_iff];simp
theorem aA.cut {w:World} {B g cap:Nat} {a:List ByteArray} (h:aA w B (.slice (some ⟨g,0,none⟩) a.length cap) a) (k:Nat) (hk:k≤a.length):aA w B (.slice (some ⟨g,0,none⟩) k cap) (a.take k):=by
 obtain⟨hl,h | ⟨g',cap',cur,hv,hb,hg,x6,eE,h9,ht⟩⟩:=h
 ·cases h.1
 cases hv
 have e:(a.take k).length=k:=by simp;omega
 unfold aA;rw[e];refine⟨by simp[aq];omega,.inr ⟨g,cap,cur,rfl,hb,hg,qB,eE,h9,?_⟩⟩;rw[show aq (a.take k)=(aq a).take k by simp[aq,List.map_take],←ht,List.take_take,Nat.min_eq_left qB,Nat.mul_one]
theorem aA.zeroed {B g cap:Nat} (x:ByteArray):∀ (m o:Nat) (w:World) (a:List ByteArray),aA w B (.slice (some ⟨g,0,none⟩) a.length cap) a→
  ∃ a':List ByteArray,a'.length=a.length∧a'.take o=a.take o∧aA (w.setCells g o (List.replicate m (.string x))) B (.slice (some ⟨g,0,none⟩) a.length cap) a'∧w.grownBy (w.setCells g o (List.replicate m (.string x))) (some g)
 | 0,o,w,a,h=>⟨a,rfl,rfl,h,World.grownBy.refl _ _⟩
 | m+1,o,w,a,h=>by
  have h1:=h.store o x;obtain⟨a',h2,h3,h4,h5⟩:=aA.zeroed x m (o+1) _ (a.set o x) (by rw[List.length_set];exact h1.1);rw[List.length_set] at h2 h4;refine⟨a',h2,?_,h4,an h1.2 h5⟩;have h6:=congrArg (List.take o) h3;rw[List.take_take,List.take_take,Nat.min_eq_left qB] at h6;rw[h6];apply List.ext_getElem?;intro i
  by_cases hi:i<o
  ·simp[hi,Nat.ne_of_gt hi]
  ·simp[List.getElem?_take,hi]
theorem rQ {α:Type} (pr:α→Bool):∀ (l:List α) (k:Nat),(idxOf pr l k = -1∧∀ x∈l,pr x=false)∨∃ (j:Nat) (h:j<l.length),idxOf pr l k=((k+j:Nat):Int)∧pr l[j]=true∧∀ x∈l.take j,pr x=false
 | [],k=>.inl ⟨rfl,qD⟩
 | x :: l,k=>by
  cases hx:pr x
  ·rcases rQ pr l (k+1) with ⟨h1,h2⟩ | ⟨j,hj,h1,h2,h3⟩
   ·exact .inl ⟨by simp[idxOf,hx,h1],by intro y hy;rcases List.mem_cons.1 hy with rfl | hy;exact hx;exact h2 y hy⟩
   ·refine .inr ⟨j+1,by simp;omega,by simp[idxOf,hx,h1];omega,by simpa using h2,?_⟩
    intro y hy;rw[List.take_succ_cons] at hy
    rcases List.mem_cons.1 hy with rfl | hy
    ·exact hx
    ·exact h3 y hy
  ·exact .inr ⟨0,qD,by simp[idxOf,hx],by simpa using hx,qD⟩
def iP (pr:ByteArray→Bool) (a:List ByteArray) (k:Nat):List ByteArray:=(a.take k).filter fun x=>!pr x
theorem lu (pr:ByteArray→Bool) (a:List ByteArray) (k:Nat) (h:k<a.length):iP pr a (k+1)=iP pr a k++if pr a[k] then [] else [a[k]]:=by
 unfold iP;rw[zq h,List.filter_append]
 cases h2:pr a[k]<;>simp[h2]
theorem vH (pr:ByteArray→Bool) (a:List ByteArray) (k:Nat):(iP pr a k).length≤k:=by
 unfold iP;exact zx (List.length_filter_le _ _) (by simp;omega)
theorem D9 (pr:ByteArray→Bool) (a:List ByteArray):iP pr a a.length=a.filter fun x=>!pr x:=by unfold iP;rw[List.take_length]
theorem Ae (pr:ByteArray→Bool) (a:List ByteArray) (j:Nat) (h:∀ x∈a.take j,pr x=false):iP pr a j=a.take j:=by
 unfold iP
 exact List.filter_eq_self.2 fun x hx=>by simp[h x hx]
def cY (pr:ByteArray→Bool) (a:List ByteArray) (k:Nat):List ByteArray:=iP pr a k++a.drop (iP pr a k).length
theorem bL (pr:ByteArray→Bool) (a:List ByteArray) (k:Nat) (h:k≤a.length):(cY pr a k).length=a.length:=by
 have:=vH pr a k;simp[cY];omega
theorem zJ (pr:ByteArray→Bool) (a:List ByteArray) (k:Nat) (h:k<a.length):(cY pr a k)[k]? = some a[k]:=by
 have:=vH pr a k;unfold cY;rw[List.getElem?_append_right this,List.getElem?_drop,show(iP pr a k).length+(k-(iP pr a k).length)=k by omega,zn h]
theorem zK (pr:ByteArray→Bool) (a:List ByteArray) (k:Nat) (h:k<a.length) (hp:pr a[k]=false):(cY pr a k).set (iP pr a k).length a[k]=cY pr a (k+1):=by
 have h1:=vH pr a k;have h2:=lu pr a k h;rw[hp] at h2;unfold cY;rw[h2];simp only[Bool.false_eq_true,if_false,ze,zh,List.length_nil];rw[List.set_append_right _ _ (zm _),Nat.sub_self,zz];rw[List.drop_eq_getElem_cons (show(iP pr a k).length<a.length by omega)];simp only[zb,List.cons_append,List.nil_append]
theorem xy (pr:ByteArray→Bool) (a:List ByteArray) (k:Nat) (h:k<a.length) (hp:pr a[k]=true):cY pr a (k+1)=cY pr a k∧iP pr a (k+1)=iP pr a k:=by
 have h2:=lu pr a k h;rw[hp] at h2;simp only[if_true,List.append_nil] at h2;exact⟨by unfold cY;rw[h2],h2⟩
theorem aA.cellAt {w:World} {B g cap:Nat} {a:List ByteArray} (h:aA w B (.slice (some ⟨g,0,none⟩) a.length cap) a) {i:Nat} {x:ByteArray} (hx:a[i]? = some x):w.cell? ⟨g,i,none⟩=some (.string x)∧w.frozen? ⟨g,i,none⟩=false:=by
 have hi:i<a.length:=by
  rcases Nat.lt_or_ge i a.length with h | h
  ·exact h
  ·rw[List.getElem?_eq_none h] at hx;cases hx
 exact⟨by rw[World.ownsRow.cellAt h i qB];simp[aq,hx],World.ownsRow.frozenAt h i⟩
set_option maxRecDepth 20000 in
theorem uW (pr:ByteArray→Bool) (f:FuncId) (cp:Array Value) (a:List ByteArray) (g cap:Nat) (w0 w:World) (x6:aA w w0.heap.size (.slice (some ⟨g,0,none⟩) a.length cap) a) (kw0:aa w0 w) (hl:a.length≤1000000000) (x9:aG f)
  (hf:∀ x w1,x∈a→aa w0 w1→Calls Tryz.prog f (#[.string x]++cp) w1 fun e w2=>e=.returned (.bool (pr x))∧aa w1 w2):
  Calls Tryz.prog 220 #[.slice (some ⟨g,0,none⟩) a.length cap,.func (.func f) #[] cp] w fun e w'=>∃ v',e=.returned v'∧aA w' w0.heap.size v' (a.filter fun x=>!pr x)∧aa w0 w':=by
 have hI:=l9 pr f cp a _ w (x6.strs qB) x9 (fun x w1 hx k=>hf x w1 hx (kw0.trans k))
 obtain⟨_,_,KS,KU,La,_⟩:∃ q c,w0.heap.size≤g∧a.length≤cap∧cap≤maxLen∧q=c:=by
  obtain⟨p,c,e,h1,h2,_⟩:=At.of_own x6
  cases e
  exact⟨0,0,(aA.len x6 g rfl).1,h1,h2,rfl⟩
 unfold maxLen at La;have HI:=hid hI;clear hI;have HF:=hid hf;clear hf;have HO:=hid x6;clear x6;have HK:=hid kw0;clear kw0
 have K0:∀ args w,(callFunc f args).run Tryz.prog w=.ok (.enter f args) w:=x9
 clear x9
 rcases rQ pr a 0 with ⟨hi,hall⟩ | ⟨j0,KT,hi,hp0,hbef⟩
 ·rw[hi] at HI
  have x7:(a.filter fun x=>!pr x)=a:=List.filter_eq_self.2 fun x hx=>by simp[hall x hx]
  rw[x7];clear hall x7 hi;go_enter Tryz.func220,Tryz.ntmps220;go_wp2_with fail;refine HI.out.mono ?_;rintro e w1 ⟨rfl,k1⟩;go_wp2_with fail;go_ret;exact⟨_,rfl,HO.out.keeps k1,HK.out.trans k1⟩
 ·rw[show((0+j0:Nat):Int)=(j0:Int) by omega] at hi
  rw[hi] at HI
  have H9:iP pr a (j0+1)=a.take j0:=by
   rw[lu pr a j0 KT,hp0,Ae pr a j0 hbef];simp
  have KY:cY pr a (j0+1)=a:=by
   unfold cY;rw[H9];simp[Nat.min_eq_left (Nat.le_of_lt KT)]
  have KZ:(iP pr a (j0+1)).length=j0:=by rw[H9];simp;omega
  have HS:=hid (And.intro KY KZ);clear H9 KY KZ hbef hp0 hi
  have Lb:((j0:Int) == -1)=false:=by simp
  go_enter Tryz.func220,Tryz.ntmps220;go_wp2_with fail;refine HI.out.mono ?_;rintro e w1 ⟨rfl,k1⟩;go_wp2_with fail
  go_loopw [5,6] (fun iv jv wr=>∃ k n:Nat,k≤a.length∧n<k∧n=(iP pr a k).length∧iv=.int .i64 n∧jv=.int .i64 k∧aA wr w0.heap.size (.slice (some ⟨g,0,none⟩) a.length cap) (cY pr a k)∧aa w0 wr) (fun _ jv _=>a.length-(intOf jv).toNat)
  case atStart=>exact⟨j0+1,j0,qB,qB,HS.out.2.symm,rfl,by go_num,by rw[HS.out.1];exact HO.out.keeps k1,HK.out.trans k1⟩
  case round=>
   obtain⟨k,n,hk,Lh,hn,rfl,rfl,eE,kw⟩:=hrel;have HN:=hid hn;clear hn
   by_cases x8:k<a.length
   ·have H8:(k:Int)<a.length:=qB
    have hc:=aA.cellAt (a:=cY pr a k) (by rw[bL pr a k hk];exact eE) (zJ pr a k x8)
    obtain⟨xo,Ld⟩:∃ xo,(cY pr a k)[n]? = some xo:=⟨_,zn (by rw[bL pr a k hk];omega)⟩
    have hd:=aA.cellAt (a:=cY pr a k) (by rw[bL pr a k hk];exact eE) Ld;obtain⟨Le,Lf⟩:=hc;obtain⟨KP,KR⟩:=hd;have HR:=hid eE;clear eE;have hq:=hid (zK pr a k x8);have KV:=hid (xy pr a k x8);have Lc:=hid (lu pr a k x8)
    cases hp:pr a[k]
    all_goals
     have Hp:=hid hp;clear hp
     go_wp2_with ((with_reducible refine(HF.out a[k] wr (zo x8) kw).mono ?_);rintro e w2 ⟨rfl,k2⟩;replace KP:=k2.cell KP;replace KR:=(k2.both.2 g n (by first | exact(aA.len HR.out g rfl).2 | omega)).trans KR;replace HR:=hid (HR.out.keeps k2);replace kw:=kw.trans k2;rw[Hp.out])
    ·go_roundw
     case rel=>
      refine⟨k+1,n+1,qB,qB,?_,by go_num,by go_num,?_,?_⟩
      ·rw[Lc.out,Hp.out,HN.out];simp
      ·have:=aA.store (a:=cY pr a k) (by rw[bL pr a k hk];exact HR.out) n a[k]
       rw[bL pr a k hk] at this;have h2:=this.1;rw[HN.out,hq.out Hp.out,←HN.out] at h2;exact h2
      ·have:=aA.store (a:=cY pr a k) (by rw[bL pr a k hk];exact HR.out) n a[k]
       exact kw.grown this.2 (by rintro _ ⟨⟩;exact KS)
     case measure=>simp[intOf];omega
    ·go_roundw
     case rel=>exact⟨k+1,n,qB,qB,by rw[(KV.out Hp.out).2];exact HN.out,rfl,by go_num,by rw[(KV.out Hp.out).1];exact HR.out,kw⟩
     case measure=>simp[intOf];omega
   ·obtain rfl:k=a.length:=qB
    have H8:¬(a.length:Int)<a.length:=qB;have hz:=aA.zeroed (a:=cY pr a a.length) ⟨#[]⟩ (a.length-n) n wr (by rw[bL pr a _ hk];exact eE)
    have h9:∀ j,j<a.length→∃ x,(cY pr a a.length)[j]? = some x:=fun j hj=>⟨_,zn (by rw[bL pr a _ hk];exact hj)⟩
    have Lg:∀ ty,(Builtin.clear_ #[27] ty #[.slice (some ⟨g,n,none⟩) (a.length-n) (cap-n)]).run Tryz.prog wr=.ok (.tuple #[]) (wr.setCells g n (List.replicate (a.length-n) (.string ⟨#[]⟩))):=
     fun ty=>Lib.run_clear_slice wr _ _ ty _ Tryz.underlying27 (fun _=>Tryz.zeroValue9 _) rfl rfl g n _ _ qB
      (fun j hj=>by
       obtain⟨x,hx⟩:=h9 (n+j) qB
       rw[(aA.cellAt (a:=cY pr a a.length) (by rw[bL pr a _ hk];exact eE) hx).1];rfl)
      (fun j hj=>by
       obtain⟨x,hx⟩:=h9 (n+j) qB
       rw[(aA.cellAt (a:=cY pr a a.length) (by rw[bL pr a _ hk];exact eE) hx).2])
    have HZ:=hid hz;clear hz h9 eE;go_wp2;go_ret;obtain⟨a',h1,h2,h3,h4⟩:=HZ.out;rw[bL pr a _ hk] at h1 h3;refine⟨_,rfl,?_,?_⟩
    ·have H7:a'.take n=a.filter fun x=>!pr x:=by
      rw[h2,←D9,HN.out];unfold cY;rw[List.take_left]
     rw[←H7];have:=aA.cut (a:=a') (by rw[h1];exact h3) n qB
     simpa using this
    ·have:=kw.grown h4 (by rintro _ ⟨⟩;exact KS)
     simpa using this
def aY (a:List Bool):List Value:=a.map (Value.bool)
def cN (w:World) (v:Value) (a:List Bool):Prop:=∃ p cap,v=.slice p a.length cap∧a.length≤cap∧cap≤maxLen∧At w p (aY a)∧a.length≤2147483648
theorem cN.keeps {w w':World} {v:Value} {a:List Bool} (h:cN w v a) (k:aa w w'):cN w' v a:=by
 obtain⟨p,cap,hv,h1,h2,h3,h4⟩:=h;exact⟨p,cap,hv,h1,h2,h3.keeps k,h4⟩
theorem At.bool {w:World} {p:Option Addr} {a:List Bool} (h:At w p (aY a)) (i:Nat) (hi:i<a.length):
  ∃ b off,p=some ⟨b,off,none⟩∧w.cell? ⟨b,off+i,none⟩=some (.bool a[i]):=by
 obtain⟨b,off,hp,hc⟩:=h i (by simpa [aY] using hi);exact⟨b,off,hp,by simpa [aY] using hc⟩
def cl (w:World) (B:Nat) (v:Value) (a:List Bool):Prop:=w.ownsRow B 4 1 v a.length (aY a)
theorem cl.bools {w:World} {B:Nat} {v:Value} {a:List Bool} (h:cl w B v a) (hl:a.length≤2147483648):cN w v a:=by
 obtain⟨p,cap,h1,h2,h3,h4⟩:=At.of_own h;exact⟨p,cap,h1,h2,h3,h4,hl⟩
theorem cl.keeps {w w':World} {B:Nat} {v:Value} {a:List Bool} (h:cl w B v a) (k:aa w w'):cl w' B v a:=bw h k
theorem cl.mono {w:World} {B B':Nat} {v:Value} {a:List Bool} (h:cl w B v a) (k:B'≤B):cl w B' v a:=fU h k
theorem tC (a:List Bool):∀ u∈aY a,u.oneCell'=true:=by
 intro u hu;unfold aY at hu;obtain⟨x,_,rfl⟩:=List.mem_map.1 hu;rfl
theorem Hw:(Tryz.prog.info? 4).map (fun i=>(i.zero,i.size,i.bytes))=some (some (.bool false),1,1):=qA
theorem Jq {w:World} {o:Oper} {a:Act} {K:Act→World→Prop} {Q:Exit→Act→World→Prop} (s x:Operand)
  (ho:o.op=.call { callee:=.builtin .append,args:=#[s,x],argTypes:=#[149,149] }) (base:Nat) (v:Value) (xs:List Bool) (hs:a.eval s=v) (h9:cl w base v xs)
  (u:Value) (ys:List Bool) (hx:a.eval x=u) (hu:cN w u ys) (eE:base≤w.heap.size) (x7:xs.length+ys.length≤2147483648)
  (h:∀ v' w',cl w' base v' (xs++ys)→w.grownBy w' v.ownBlock→(∀ k,v.ownBlock=some k→base≤k)→K (a.put o.dst v') w'):o.wp Tryz.prog a w K Q:=by
 obtain⟨i0,hi,x8,x9,H7⟩:=info_parts Hw;obtain⟨p,cap,rfl,_,_,x6,_⟩:=hu;refine bI s x _ ho _ i0 _ 1 1 Tryz.underlying149 hi x8 x9 H7 rfl qC base v _ _ hs h9 p _ cap _ hx (by simp[aY]) x6 (tC _) (by unfold maxLen;omega) qB eE ?_;intro v' w' h1 h2 h3;refine h v' w' ?_ h2 h3;unfold cl;rw[ze,show aY (xs++ys)=aY xs++aY ys by simp[aY]];exact h1
theorem J1 {w:World} {ops:Array Oper} {o:Oper} {a:Act} {K:Act→World→Prop} {Q:Exit→Act→World→Prop} {E:Prop} (x7:o.guard=none) (s x:Operand)
  (ho:o.op=.call { callee:=.builtin .append,args:=#[s,x],argTypes:=#[149,149] }) (base:Nat) (v:Value) (xs:List Bool) (hs:a.eval s=v) (x6:cl w base v xs)
  (u:Value) (ys:List Bool) (hx:a.eval x=u) (hu:cN w u ys) (eE:base≤w.heap.size) (h9:xs.length+ys.length≤2147483648)
  (h:∀ v' w',cl w' base v' (xs++ys)→w.grownBy w' v.ownBlock→(∀ k,v.ownBlock=some k→base≤k)→K (a.put o.dst v') w'):if Region.wanted o (yielded ops a.tmps)=true then Oper.wp Tryz.prog o a w K Q else E:=by
 rw[if_pos (by simp[Region.wanted,x7])];exact Jq s x ho base v xs hs x6 u ys hx hu eE h9 h
theorem cN.lit1 (w:World) (x:Bool):cN (w.alloc (.cells #[.bool x] 4)) (.slice (some ⟨w.heap.size,0,none⟩) 1 1) [x]:=by
 refine⟨_,1,rfl,qD,by simp[maxLen],?_,qD⟩;intro j hj;simp[aY] at hj;subst hj;exact⟨_,_,rfl,by simp[aY]⟩
theorem cl.nil (w:World) (B:Nat):cl w B (.slice none 0 0) []:=World.ownsRow_nil w B _ 1
theorem cl.len {w:World} {B:Nat} {v:Value} {a:List Bool} (h:cl w B v a):∀ k,v.ownBlock=some k→B≤k∧k<w.heap.size:=World.ownsRow.lt h
theorem cl.shape {w:World} {B:Nat} {v:Value} {a:List Bool} (h:cl w B v a) (hp:0<a.length):∃ g cap,v=.slice (some ⟨g,0,none⟩) a.length cap∧B≤g∧g<w.heap.size∧a.length≤cap∧cap≤maxLen:=by
 rcases h.2 with ⟨_,h0⟩ | ⟨g,cap,cur,rfl,hb,hg,hn,hm,_⟩
 ·omega
 ·exact⟨g,cap,rfl,hb,(Array.getElem?_eq_some_iff.1 hg).1,hn,hm⟩
theorem cl.cell {w:World} {B:Nat} {g n cap:Nat} {a:List Bool} (h:cl w B (.slice (some ⟨g,0,none⟩) n cap) a) (i:Nat) (hi:i<a.length):
  w.cell? ⟨g,i,none⟩=some (.bool a[i])∧w.frozen? ⟨g,i,none⟩=false:=by
 obtain⟨g',cap',hv,_⟩:=h.shape qB
 cases hv
 have h':w.ownsRow B 4 1 (.slice (some ⟨g,0,none⟩) a.length cap) a.length (aY a):=h;refine⟨?_,h'.frozenAt i⟩;rw[h'.cellAt i qB];simp[aY,hi]
theorem cl.store {w:World} {B:Nat} {g n cap:Nat} {a:List Bool} (h:cl w B (.slice (some ⟨g,0,none⟩) n cap) a) (i:Nat) (hi:i<a.length) (x:Bool):
  cl (w.setCell ⟨g,i,none⟩ (.bool x)) B (.slice (some ⟨g,0,none⟩) n cap) (a.set i x)∧w.grownBy (w.setCell ⟨g,i,none⟩ (.bool x)) (some g):=by
 obtain⟨g',cap',hv,_⟩:=h.shape qB
 cases hv
 have h':w.ownsRow B 4 1 (.slice (some ⟨g,0,none⟩) a.length cap) a.length (aY a):=h;have:=h'.stored i (.bool x);refine⟨?_,this.2⟩;unfold cl;rw[List.length_set,show aY (a.set i x)=(aY a).set i (.bool x) by simp[aY,List.map_set]];exact this.1
end
section
open Go.RowKit
section
variable {P:Program} {md:Region.Mode} {ops:Array Oper} {Q:Exit→Act→World→Prop}
def fX (md:Region.Mode) (o:Oper) (j:Nat):Bool:=o.after.any fun e=>Region.binds md e&&e.on==j
def fe (ops:Array Oper) (j d:Nat):Bool:=(ops[j]?).bind (·.dst)==some d
def Eb (md:Region.Mode) (ops:Array Oper) (L nt:Nat) (ins:List Nat):Bool:=
 ops.size==L+1&&((List.range (L+1)).all fun i=>match ops[i]? with
  | some o=>o.guard.isNone&&o.after.all (fun e=>!Region.binds md e||decide (e.on<i))&&
    (if i==L then (List.range L).all (fun j=>fX md o j) else match o.dst with
     | some d=>decide (d<nt)&&!ins.contains d&&(List.range L).all (fun j=>j==i||!fe ops j d)
     | none=>false)
  | none=>false)
def uR (P:Program) (md:Region.Mode) (ops:Array Oper) (Q:Exit→Act→World→Prop) (nt:Nat) (ins:List Nat) (V:Nat→Value→World→Prop) (R:World→World→Prop) (J:World→Prop) (o:Oper):Prop:=
 ∀ (a:Act) (w:World) (K:Act→World→Prop),a.tmps.size=nt→J w→(∀ s,ins.contains s=true→V s (a.eval (.tmp s)) w)→(∀ j d,fX md o j=true→fe ops j d=true→V d (a.eval (.tmp d)) w)→
  (∀ v w',R w w'→(∀ d,o.dst=some d→V d v w')→K (a.put o.dst v) w')→Oper.wp P o a w K Q
def uQ (P:Program) (ops:Array Oper) (Q:Exit→Act→World→Prop) (L nt:Nat) (ins:List Nat) (V:Nat→Value→World→Prop) (J:World→Prop) (o:Oper):Prop:=
 ∀ (a:Act) (w:World) (K:Act→World→Prop),a.tmps.size=nt→a.defers=[]→J w→(∀ s,ins.contains s=true→V s (a.eval (.tmp s)) w)→(∀ j d,j<L→fe ops j d=true→V d (a.eval (.tmp d)) w)→
  (∀ a' w',Q .normal a' w'→K a' w')→Oper.wp P o a w K Q
def rj (F G:Oper→Prop) (L:Nat):Nat→List Oper→Prop
 | _,[]=>True
 | i,o::l=>(if i=L then G o else F o)∧rj F G L (i+1) l
theorem pX {F G:Oper→Prop} {L:Nat}:∀ (l:List Oper) (k i:Nat) (o:Oper),rj F G L k l→l[i]? = some o→if k+i=L then G o else F o
 | [],_,_,_,_,h=>by simp at h
 | x::l,k,0,o,h,e=>by
  simp at e
  subst e;exact h.1
 | x::l,k,i+1,o,h,e=>by
  have:=pX l (k+1) i o h.2 (by simpa using e);rwa[show k+1+i=k+(i+1) by omega] at this
theorem eL {listed:Array Bool} {i:Nat} (h:i<listed.size):listed.getD i true=listed.getD i false:=by
 simp[Array.getD,h]
theorem jG (fuel:Nat) (listed:Array Bool) (a:Act) (w:World) (h:∀ j,j<ops.size→listed.getD j true=true) (hQ:Q .normal a w):wpAny P md ops Q fuel listed a w:=by
 have hr:Region.ready md ops listed=[]:=by
  rw[List.eq_nil_iff_forall_not_mem];intro j hj;obtain⟨h1,o,ho,_⟩:=mem_ready.1 hj;rw[h j (Array.getElem?_eq_some_iff.1 ho).1] at h1
  cases h1
 cases fuel with
 | zero=>exact⟨hr,hQ⟩
 | succ n=>exact⟨fun _=>hQ,fun i hi=>by rw[hr] at hi;cases hi⟩
theorem gV {p q:Nat→Bool}:∀ (l:List Nat),(∀ x,p x=true→q x=true)→(∃ x∈l,q x=true∧p x=false)→(l.filter p).length<(l.filter q).length
 | [],_,⟨x,h,_⟩=>by cases h
 | y :: l,hpq,hx=>by
  have eE:∀ l:List Nat,(l.filter p).length≤(l.filter q).length:=by
   intro l
   induction l with
   | nil=>simp
   | cons z l ih=>
    rw[List.filter_cons,List.filter_cons]
    cases hp:p z
    ·cases q z<;>simp<;>omega
    ·rw[hpq z hp];simp;omega
  obtain⟨x,hm,h1,h2⟩:=hx;rw[List.filter_cons,List.filter_cons]
  rcases List.mem_cons.1 hm with rfl | hm
  ·rw[h1,h2]
   have:=eE l
   simp;omega
  ·have ih:=gV l hpq ⟨x,hm,h1,h2⟩
   cases hp:p y
   ·cases q y<;>simp<;>omega
   ·rw[hpq y hp];simp;omega
theorem wL (a:Act) (d:Nat) (v:Value) (h:d<a.tmps.size):(a.put (some d) v).eval (.tmp d)=v:=by
 simp[Act.put,Act.eval,h]
theorem sR (a:Act) (d s:Nat) (v:Value) (h:s≠d):(a.put (some d) v).eval (.tmp s)=a.eval (.tmp s):=by
 simp only[Act.put,Act.eval,Array.getD_eq_getD_getElem?];rw[Array.getElem?_setIfInBounds_ne (Ne.symm h)]
theorem kO (a:Act) (d:Option Nat) (v:Value):(a.put d v).tmps.size=a.tmps.size:=by
 cases d<;>simp[Act.put]
theorem jA (a:Act) (d:Option Nat) (v:Value):(a.put d v).defers=a.defers:=by
 cases d<;>simp[Act.put]
theorem zD {L nt:Nat} {ins:List Nat} (H7:Eb md ops L nt ins=true) (V:Nat→Value→World→Prop) (R:World→World→Prop) (Lc:∀ s v w w',R w w'→V s v w→V s v w') (J:World→Prop) (hJ:∀ w w',R w w'→J w→J w')
  (hs:rj (uR P md ops Q nt ins V R J) (uQ P ops Q L nt ins V J) L 0 ops.toList):
  ∀ (fuel:Nat) (listed:Array Bool) (a:Act) (w:World),listed.size=L+1→listed.getD L false=false→((List.range (L+1)).filter fun i=>!listed.getD i false).length≤fuel→a.tmps.size=nt→a.defers=[]→J w→
   (∀ s,ins.contains s=true→V s (a.eval (.tmp s)) w)→(∀ j d,j<L→listed.getD j false=true→fe ops j d=true→V d (a.eval (.tmp d)) w)→wpAny P md ops Q fuel listed a w:=by
 unfold Eb at H7;rw[zk,beq_iff_eq,zt] at H7;obtain⟨Ll,KU⟩:=H7
 have KZ:∀ i o,ops[i]? = some o→i<L+1∧o.guard=none∧(∀ e∈o.after,Region.binds md e=true→e.on<i)∧(if i=L then ∀ j,j<L→fX md o j=true else ∃ d,o.dst=some d∧d<nt∧ins.contains d=false∧∀ j,j<L→j≠i→fe ops j d=false):=by
  intro i o ho
  have hi:i<L+1:=by rw[←Ll];exact(Array.getElem?_eq_some_iff.1 ho).1
  have h:=KU i (List.mem_range.2 hi);rw[ho] at h;simp only[zk] at h;obtain⟨⟨h1,h2⟩,h3⟩:=h;refine⟨hi,by simpa using h1,fun e he hb=>?_,?_⟩
  ·rw[Array.all_eq_true_iff_forall_mem] at h2
   have:=h2 e he;rw[hb] at this
   simpa using this
  ·by_cases x7:i=L
   ·subst x7
    rw[if_pos rfl];simp only[beq_self_eq_true,if_true,zt] at h3
    exact fun j hj=>h3 j (List.mem_range.2 hj)
   ·rw[if_neg x7]
    rw[if_neg (by simpa using x7)] at h3
    cases hd:o.dst with
    | none=>rw[hd] at h3;simp at h3
    | some d=>
     rw[hd] at h3;simp only[zk,decide_eq_true_eq,Bool.not_eq_true',zt,Bool.or_eq_true,beq_iff_eq] at h3;exact⟨d,rfl,h3.1.1,h3.1.2,fun j hj KP=>(h3.2 j (List.mem_range.2 hj)).resolve_left KP⟩
 have KV:∀ i o,ops[i]? = some o→if i=L then uQ P ops Q L nt ins V J o else uR P md ops Q nt ins V R J o:=by
  intro i o ho;have:=pX ops.toList 0 i o hs (by simpa using ho);rwa[Nat.zero_add] at this
 intro fuel
 induction fuel with
 | zero=>
  intro listed a w KR hL hf
  have:L∈(List.range (L+1)).filter fun i=>!listed.getD i false:=List.mem_filter.2 ⟨List.mem_range.2 qB,by rw[hL];rfl⟩
  have:=List.length_pos_of_mem this;omega
 | succ fuel ih=>
  intro listed a w KR hL hf KS K0 KT x9 x6
  have Lj:∀ n i,i≤n→i≤L→listed.getD i false=false→∃ j,j∈Region.ready md ops listed:=by
   intro n
   induction n with
   | zero=>
    intro i hi x7 KY;have ho:ops[i]? = some ops[i]:=Array.getElem?_eq_getElem qB;refine⟨i,mem_ready.2 ⟨by rw[eL qB];exact KY,_,ho,fun e he hb=>?_⟩⟩;have:=(KZ i _ ho).2.2.1 e he hb;omega
   | succ n ihn=>
    intro i hi x7 KY;have ho:ops[i]? = some ops[i]:=Array.getElem?_eq_getElem qB
    by_cases h9:∀ e∈ops[i].after,Region.binds md e=true→listed.getD e.on false=true
    ·exact⟨i,mem_ready.2 ⟨by rw[eL qB];exact KY,_,ho,h9⟩⟩
    ·simp only[Classical.not_forall] at h9
     obtain⟨e,he,hb,hn⟩:=h9;have Lb:=(KZ i _ ho).2.2.1 e he hb;exact ihn e.on qB qB (by simpa using hn)
  refine⟨fun h0=>?_,fun i hi=>?_⟩
  ·obtain⟨j,hj⟩:=Lj L L (zm _) (zm _) hL
   rw[h0] at hj
   cases hj
  ·obtain⟨Lb,o,ho,x8⟩:=mem_ready.1 hi
   obtain⟨x7,hg,Lf,eE⟩:=KZ i o ho
   have Ld:listed.getD i false=false:=by rw[←eL qB];exact Lb
   refine wpOp_step ho (fun K' hK=>?_);rw[if_pos (by simp[Region.wanted,hg])];have hG:=KV i o ho
   by_cases he:i=L
   ·rw[if_pos he] at hG eE
    refine hG a w K' KS K0 KT x9 (fun j d hj hd=>?_) (fun a' w' hq=>hK a' w' ?_)
    ·have h1:=eE j hj
     unfold fX at h1;rw[Array.any_eq_true'] at h1;obtain⟨e,H8,hb⟩:=h1;rw[zk,beq_iff_eq] at hb;have:=x8 e H8 hb.1;rw[hb.2] at this;exact x6 j d hj this hd
    ·refine jG _ _ _ _ (fun j hj=>?_) hq
     by_cases H9:j=i
     ·subst H9
      simp[Array.getD,KR,x7]
     ·rw[getD_set_ne true (Ne.symm H9)]
      have h1:=eE j qB;unfold fX at h1;rw[Array.any_eq_true'] at h1;obtain⟨e,H8,hb⟩:=h1;rw[zk,beq_iff_eq] at hb;have:=x8 e H8 hb.1;rw[hb.2] at this;rw[eL qB];exact this
   ·rw[if_neg he] at hG eE
    obtain⟨d,hd,Lh,Lg,Li⟩:=eE;refine hG a w K' KS KT x9 (fun j d' hj hd'=>?_) (fun v w' hR hV=>hK _ _ ?_)
    ·unfold fX at hj
     rw[Array.any_eq_true'] at hj;obtain⟨e,H8,hb⟩:=hj;rw[zk,beq_iff_eq] at hb;have h1:=x8 e H8 hb.1;have h2:=Lf e H8 hb.1;rw[hb.2] at h1 h2;exact x6 j d' qB h1 hd'
    ·rw[hd]
     have Le:=hV d hd
     have Lk:d<a.tmps.size:=by rw[KS];exact Lh
     refine ih (listed.setIfInBounds i true) (a.put (some d) v) w' (by simpa using KR) (by rw[getD_set_ne false he];exact hL) ?_ (by rw[kO];exact KS) (by rw[jA];exact K0) (hJ _ _ hR KT) (fun s hs=>?_) (fun j d' hj hl hd'=>?_)
     ·have:((List.range (L+1)).filter fun k=>!(listed.setIfInBounds i true).getD k false).length<((List.range (L+1)).filter fun k=>!listed.getD k false).length:=by
       refine gV _ (fun k hk=>?_) ⟨i,List.mem_range.2 x7,by rw[Ld];rfl,?_⟩
       ·by_cases La:i=k
        ·subst La;rw[Ld];rfl
        ·rwa[getD_set_ne false La] at hk
       ·simp[Array.getD,KR,x7]
      omega
     ·have KP:s≠d:=fun e=>by rw[e,Lg] at hs;cases hs
      rw[sR a d s v KP];exact Lc _ _ _ _ hR (x9 s hs)
     ·by_cases H9:j=i
      ·subst H9
       have:d'=d:=by
        unfold fe at hd';rw[ho] at hd';simp[hd] at hd';exact hd'.symm
       subst this;rw[wL a d' v Lk];exact Le
      ·have KP:d'≠d:=fun e=>by
        subst e;rw[Li j hj H9] at hd'
        cases hd'
       rw[sR a d d' v KP];rw[getD_set_ne false (Ne.symm H9)] at hl;exact Lc _ _ _ _ hR (x6 j d' hj hl hd')
theorem dN {id:Nat} {a:Act} {w:World} {L nt:Nat} {ins:List Nat} (hm:P.follows .mixedOrders=true) (eE:Eb .any ops L nt ins=true) (V:Nat→Value→World→Prop) (R:World→World→Prop) (x9:∀ s v w w',R w w'→V s v w→V s v w') (J:World→Prop) (hJ:∀ w w',R w w'→J w→J w')
  (hs:rj (uR P .any ops Q nt ins V R J) (uQ P ops Q L nt ins V J) L 0 ops.toList) (x8:a.tmps.size=nt) (x7:a.defers=[]) (x6:J w.drew) (h9:∀ s,ins.contains s=true→V s (a.eval (.tmp s)) w.drew):(Code.region id ops true).wp P Q a w:=by
 refine wp_region_any hm (zD eE V R x9 J hJ hs _ _ _ _ ?_ ?_ ?_ x8 x7 x6 h9 (fun j d hj hl=>?_))
 ·unfold Eb at eE
  rw[zk,beq_iff_eq] at eE;simp[eE.1]
 ·simp[Array.getD]
 ·have H7:ops.size=L+1:=by
   unfold Eb at eE;rw[zk,beq_iff_eq] at eE;exact eE.1
  rw[H7];exact zx (List.length_filter_le _ _) qD
 ·simp[Array.getD] at hl
end
end
section
open Go.RowKit
section
variable {P:Program} {md:Region.Mode} {ops:Array Oper} {Q:Exit→Act→World→Prop}
def ym (md:Region.Mode) (ops:Array Oper) (L nt:Nat) (ds:List Nat):Bool:=
 ops.size==L&&((List.range L).all fun i=>match ops[i]? with
  | some o=>o.guard.isNone&&o.after.all (fun e=>!Region.binds md e||decide (e.on<i))&&(match o.dst with
   | some d=>decide (d<nt)&&ds.contains d
   | none=>true)
  | none=>false)
def Hg (P:Program) (md:Region.Mode) (Q:Exit→Act→World→Prop) (nt:Nat) (I:(Nat→Bool)→(Nat→Value)→World→Prop) (i:Nat) (o:Oper):Prop:=
 ∀ (lst:Nat→Bool) (a:Act) (w:World) (K:Act→World→Prop),a.tmps.size=nt→a.defers=[]→lst i=false→(∀ j,fX md o j=true→lst j=true)→I lst (fun s=>a.eval (.tmp s)) w→
  (∀ v w',I (fun j=>lst j||j==i) (fun s=>if o.dst=some s then v else a.eval (.tmp s)) w'→K (a.put o.dst v) w')→Oper.wp P o a w K Q
def te (F:Nat→Oper→Prop):Nat→List Oper→Prop
 | _,[]=>True
 | i,o::l=>F i o∧te F (i+1) l
theorem tf {F:Nat→Oper→Prop}:∀ (l:List Oper) (k i:Nat) (o:Oper),te F k l→l[i]? = some o→F (k+i) o
 | [],_,_,_,_,h=>by simp at h
 | x::l,k,0,o,h,e=>by
  simp at e
  subst e;exact h.1
 | x::l,k,i+1,o,h,e=>by
  have:=tf l (k+1) i o h.2 (by simpa using e);rwa[show k+1+i=k+(i+1) by omega] at this
def aN (a:Act) (f:Nat→Value):List Nat→Act
 | []=>a
 | d::l=>aN (a.put (some d) (f d)) f l
theorem FE {a b:Act} (h1:a.tmps=b.tmps) (h2:a.defers=b.defers):a=b:=by
 cases a;cases b
 simp at h1 h2
 subst h1;subst h2;rfl
theorem lX (f:Nat→Value):∀ (ds:List Nat) (a:Act),(aN a f ds).defers=a.defers
 | [],_=>rfl
 | d::l,a=>by rw[aN,lX f l,jA]
theorem sQ (f:Nat→Value):∀ (ds:List Nat) (a:Act) (s:Nat),s<a.tmps.size→(aN a f ds).tmps[s]? = if s∈ds then some (f s) else a.tmps[s]?
 | [],a,s,_=>by simp[aN]
 | d :: l,a,s,hs=>by
  rw[aN,sQ f l _ s (by rw[kO];exact hs)]
  by_cases h:s∈l
  ·rw[if_pos h,if_pos (zw _ h)]
  ·rw[if_neg h]
   by_cases e:s=d
   ·subst e
    rw[if_pos qD];simp[Act.put,hs]
   ·rw[if_neg (by simp[e,h])]
    simp[Act.put,Ne.symm e]
theorem pT (f:Nat→Value):∀ (ds:List Nat) (a:Act),(aN a f ds).tmps.size=a.tmps.size
 | [],_=>rfl
 | d::l,a=>by rw[aN,pT f l,kO]
theorem Dd {a0 a:Act} (ds:List Nat) (eE:a.tmps.size=a0.tmps.size) (hd:a.defers=a0.defers) (h:∀ s,s∉ds→a.tmps[s]? = a0.tmps[s]?):a=aN a0 (fun s=>a.eval (.tmp s)) ds:=by
 refine FE ?_ (by rw[lX];exact hd);apply Array.ext_getElem?;intro s
 by_cases hs:s<a0.tmps.size
 ·rw[sQ _ _ _ _ hs]
  by_cases c:s∈ds
  ·rw[if_pos c]
   have hs':s<a.tmps.size:=qB;rw[Array.getElem?_eq_getElem hs'];simp[Act.eval,hs']
  ·rw[if_neg c,h s c]
 ·rw[Array.getElem?_eq_none qB,Array.getElem?_eq_none (by rw[pT];omega)]
theorem C2 {L nt:Nat} {ds:List Nat} {a0:Act} (x7:ym md ops L nt ds=true) (I:(Nat→Bool)→(Nat→Value)→World→Prop) (hs:te (Hg P md Q nt I) 0 ops.toList)
  (KU:∀ l l' f w,(∀ j,j<L→l j=l' j)→I l f w→I l' f w) (hQ:∀ f w,I (fun j=>decide (j<L)) f w→Q .normal (aN a0 f ds) w) (Lf:a0.tmps.size=nt) (K0:a0.defers=[]):
  ∀ (fuel:Nat) (listed:Array Bool) (a:Act) (w:World),listed.size=L→((List.range L).filter fun i=>!listed.getD i false).length≤fuel→a.tmps.size=nt→a.defers=[]→(∀ s,s∉ds→a.tmps[s]? = a0.tmps[s]?)→
   I (fun j=>listed.getD j false) (fun s=>a.eval (.tmp s)) w→wpAny P md ops Q fuel listed a w:=by
 unfold ym at x7;rw[zk,beq_iff_eq,zt] at x7;obtain⟨Ld,KR⟩:=x7
 have KT:∀ i o,ops[i]? = some o→i<L∧o.guard=none∧(∀ e∈o.after,Region.binds md e=true→e.on<i)∧(∀ d,o.dst=some d→d<nt∧d∈ds):=by
  intro i o ho
  have hi:i<L:=by rw[←Ld];exact(Array.getElem?_eq_some_iff.1 ho).1
  have h:=KR i (List.mem_range.2 hi);rw[ho] at h;simp only[zk] at h;obtain⟨⟨h1,h2⟩,h3⟩:=h;refine⟨hi,by simpa using h1,fun e he hb=>?_,fun d hd=>?_⟩
  ·rw[Array.all_eq_true_iff_forall_mem] at h2
   have:=h2 e he;rw[hb] at this
   simpa using this
  ·rw[hd] at h3
   simpa using h3
 have fin:∀ (fuel:Nat) (listed:Array Bool) (a:Act) (w:World),listed.size=L→(∀ j,j<L→listed.getD j false=true)→a.tmps.size=nt→a.defers=[]→(∀ s,s∉ds→a.tmps[s]? = a0.tmps[s]?)→I (fun j=>listed.getD j false) (fun s=>a.eval (.tmp s)) w→wpAny P md ops Q fuel listed a w:=by
  intro fuel listed a w x9 hl H7 x6 H8 hI;refine jG fuel listed a w (fun j hj=>?_) ?_
  ·rw[eL qB];exact hl j qB
  ·have:=hQ _ w (KU _ (fun j=>decide (j<L)) _ w (fun j hj=>by rw[hl j hj];simp[hj]) hI)
   rw[←Dd ds qB (by rw[x6,K0]) H8] at this;exact this
 intro fuel
 induction fuel with
 | zero=>
  intro listed a w x9 hf H7 x6 H8 hI;refine fin 0 listed a w x9 (fun j hj=>?_) H7 x6 H8 hI
  cases h:listed.getD j false with
  | true=>rfl
  | false=>
   have:j∈(List.range L).filter fun i=>!listed.getD i false:=List.mem_filter.2 ⟨List.mem_range.2 hj,by rw[h];rfl⟩
   have:=List.length_pos_of_mem this;omega
 | succ fuel ih=>
  intro listed a w x9 hf H7 x6 H8 hI
  by_cases h9:∀ j,j<L→listed.getD j false=true
  ·exact fin _ listed a w x9 h9 H7 x6 H8 hI
  have Lb:∀ n i,i≤n→i<L→listed.getD i false=false→∃ j,j∈Region.ready md ops listed:=by
   intro n
   induction n with
   | zero=>
    intro i hi KP x8;have ho:ops[i]? = some ops[i]:=Array.getElem?_eq_getElem qB;refine⟨i,mem_ready.2 ⟨by rw[eL qB];exact x8,_,ho,fun e he hb=>?_⟩⟩;have:=(KT i _ ho).2.2.1 e he hb;omega
   | succ n ihn=>
    intro i hi KP x8;have ho:ops[i]? = some ops[i]:=Array.getElem?_eq_getElem qB
    by_cases eE:∀ e∈ops[i].after,Region.binds md e=true→listed.getD e.on false=true
    ·exact⟨i,mem_ready.2 ⟨by rw[eL qB];exact x8,_,ho,eE⟩⟩
    ·simp only[Classical.not_forall] at eE
     obtain⟨e,he,hb,hn⟩:=eE;have KY:=(KT i _ ho).2.2.1 e he hb;exact ihn e.on qB qB (by simpa using hn)
  refine⟨fun h0=>?_,fun i hi=>?_⟩
  ·simp only[Classical.not_forall] at h9
   obtain⟨j,hj,hn⟩:=h9;obtain⟨k,hk⟩:=Lb j j (zm _) hj (by simpa using hn);rw[h0] at hk
   cases hk
  ·obtain⟨KY,o,ho,KS⟩:=mem_ready.1 hi
   obtain⟨KP,hg,Le,H9⟩:=KT i o ho
   have x8:listed.getD i false=false:=by rw[←eL qB];exact KY
   refine wpOp_step ho (fun K' hK=>?_);rw[if_pos (by simp[Region.wanted,hg])];have KZ:=tf ops.toList 0 i o hs (by simpa using ho);rw[Nat.zero_add] at KZ;refine KZ (fun j=>listed.getD j false) a w K' H7 x6 x8 (fun j hj=>?_) hI (fun v w' hI'=>hK _ _ ?_)
   ·unfold fX at hj
    rw[Array.any_eq_true'] at hj;obtain⟨e,La,hb⟩:=hj;rw[zk,beq_iff_eq] at hb;have:=KS e La hb.1;rw[hb.2] at this;exact this
   ·refine ih (listed.setIfInBounds i true) (a.put o.dst v) w' (by simpa using x9) ?_ (by rw[kO];exact H7) (by rw[jA];exact x6) (fun s hs=>?_) ?_
    ·have:((List.range L).filter fun k=>!(listed.setIfInBounds i true).getD k false).length<((List.range L).filter fun k=>!listed.getD k false).length:=by
      refine gV _ (fun k hk=>?_) ⟨i,List.mem_range.2 KP,by rw[x8];rfl,?_⟩
      ·by_cases KV:i=k
       ·subst KV;rw[x8];rfl
       ·rwa[getD_set_ne false KV] at hk
      ·simp[Array.getD,x9,KP]
     omega
    ·cases hd:o.dst with
     | none=>exact H8 s hs
     | some d=>
      have Lc:d≠s:=fun e=>hs (by rw[←e];exact(H9 d hd).2)
      rw[←H8 s hs];simp[Act.put,Lc]
    ·have e1:(fun s=>(a.put o.dst v).eval (.tmp s))=fun s=>if o.dst=some s then v else a.eval (.tmp s):=by
      funext s
      cases hd:o.dst with
      | none=>simp[Act.put]
      | some d=>
       by_cases e:d=s
       ·subst e
        rw[if_pos rfl,wL a d v (by rw[H7];exact(H9 d hd).1)]
       ·rw[if_neg (by simpa using e),sR a d s v (Ne.symm e)]
     rw[e1];refine KU _ _ _ _ (fun j hj=>?_) hI'
     by_cases e:i=j
     ·subst e
      simp[Array.getD,x9,KP]
     ·rw[getD_set_ne false e]
      have:(j==i)=false:=by simpa using Ne.symm e
      rw[this,Bool.or_false]
theorem lZ {id:Nat} {a:Act} {w:World} {L nt:Nat} {ds:List Nat} (hm:P.follows .mixedOrders=true) (eE:ym .any ops L nt ds=true) (I:(Nat→Bool)→(Nat→Value)→World→Prop) (h9:∀ l l' f w,(∀ j,j<L→l j=l' j)→I l f w→I l' f w)
  (hs:te (Hg P .any Q nt I) 0 ops.toList) (x7:a.tmps.size=nt) (x6:a.defers=[]) (h0:I (fun _=>false) (fun s=>a.eval (.tmp s)) w.drew) (hQ:∀ f w,I (fun j=>decide (j<L)) f w→Q .normal (aN a f ds) w):(Code.region id ops true).wp P Q a w:=by
 have x8:ops.size=L:=by
  unfold ym at eE;rw[zk,beq_iff_eq] at eE;exact eE.1
 refine wp_region_any hm (C2 eE I hs h9 hQ x7 x6 _ _ _ _ ?_ ?_ x7 x6 (fun s _=>rfl) (h9 _ _ _ _ (fun j hj=>?_) h0))
 ·simp[x8]
 ·rw[x8]
  exact zx (List.length_filter_le _ _) qD
 ·simp[Array.getD]
end
end
section
open Go.RowKit
section
variable {P:Program} {md:Region.Mode} {ops:Array Oper} {Q:Exit→Act→World→Prop}
def Gg (md:Region.Mode) (ops:Array Oper) (L nt:Nat) (ins ds:List Nat):Bool:=
 ops.size==L&&((List.range L).all fun i=>match ops[i]? with
  | some o=>o.after.all (fun e=>!Region.binds md e||decide (e.on<i))&&(match o.dst with
   | some d=>decide (d<nt)&&ds.contains d&&!ins.contains d&&(List.range L).all (fun j=>j==i||!fe ops j d)
   | none=>true)
  | none=>false)&&ds.all fun d=>(List.range L).any fun j=>fe ops j d
def cB (P:Program) (md:Region.Mode) (ops:Array Oper) (Q:Exit→Act→World→Prop) (nt:Nat) (ins:List Nat) (V:Nat→Value→World→Prop) (w0:World) (o:Oper):Prop:=
 ∀ (a:Act) (w:World) (K:Act→World→Prop),a.tmps.size=nt→aa w0 w→(∀ s,ins.contains s=true→V s (a.eval (.tmp s)) w)→(∀ j d,fX md o j=true→fe ops j d=true→V d (a.eval (.tmp d)) w)→
  (∀ v w',aa w w'→(∀ d,o.dst=some d→V d v w')→K (a.put o.dst v) w')→if Region.wanted o (yielded ops a.tmps)=true then Oper.wp P o a w K Q else K (a.put o.dst undef) w
theorem cB.plain {nt:Nat} {ins:List Nat} {V:Nat→Value→World→Prop} {w0:World} {o:Oper} (hg:o.guard=none)
  (h:∀ (a:Act) (w:World) (K:Act→World→Prop),a.tmps.size=nt→aa w0 w→(∀ s,ins.contains s=true→V s (a.eval (.tmp s)) w)→(∀ j d,fX md o j=true→fe ops j d=true→V d (a.eval (.tmp d)) w)→
   (∀ v w',aa w w'→(∀ d,o.dst=some d→V d v w')→K (a.put o.dst v) w')→Oper.wp P o a w K Q):cB P md ops Q nt ins V w0 o:=fun a w K h1 h2 h3 h4 h5=>by
 rw[if_pos (by simp[Region.wanted,hg])];exact h a w K h1 h2 h3 h4 h5
def oT (F:Oper→Prop):List Oper→Prop
 | []=>True
 | o::l=>F o∧oT F l
theorem tg {F:Oper→Prop}:∀ (l:List Oper) (i:Nat) (o:Oper),oT F l→l[i]? = some o→F o
 | [],_,_,_,h=>by simp at h
 | x::l,0,o,h,e=>by
  simp at e
  subst e;exact h.1
 | x::l,i+1,o,h,e=>tg l i o h.2 (by simpa using e)
theorem zC {L nt:Nat} {ins ds:List Nat} {a0:Act} {w0:World} (x7:Gg md ops L nt ins ds=true) (V:Nat→Value→World→Prop) (Ld:∀ s v w w',aa w w'→V s v w→V s v w') (hs:oT (cB P md ops Q nt ins V w0) ops.toList)
  (hQ:∀ f w,aa w0 w→(∀ d,ds.contains d=true→V d (f d) w)→Q .normal (aN a0 f ds) w) (Ln:a0.tmps.size=nt) (Lf:a0.defers=[]):
  ∀ (fuel:Nat) (listed:Array Bool) (a:Act) (w:World),listed.size=L→((List.range L).filter fun i=>!listed.getD i false).length≤fuel→a.tmps.size=nt→a.defers=[]→(∀ s,s∉ds→a.tmps[s]? = a0.tmps[s]?)→
   aa w0 w→(∀ s,ins.contains s=true→V s (a.eval (.tmp s)) w)→(∀ j d,listed.getD j false=true→fe ops j d=true→V d (a.eval (.tmp d)) w)→wpAny P md ops Q fuel listed a w:=by
 unfold Gg at x7;rw[zk,zk,beq_iff_eq,zt,zt] at x7;obtain⟨⟨Ll,KS⟩,KT⟩:=x7
 have K0:∀ (i:Nat) (o:Oper),ops[i]? = some o→i<L∧(∀ e∈o.after,Region.binds md e=true→e.on<i)∧(∀ d,o.dst=some d→d<nt∧d∈ds∧ins.contains d=false∧∀ j,j<L→j≠i→fe ops j d=false):=by
  intro i o ho
  have hi:i<L:=by rw[←Ll];exact(Array.getElem?_eq_some_iff.1 ho).1
  have h:=KS i (List.mem_range.2 hi);rw[ho] at h;simp only[zk] at h;obtain⟨h2,h3⟩:=h;refine⟨hi,fun e he hb=>?_,fun d hd=>?_⟩
  ·rw[Array.all_eq_true_iff_forall_mem] at h2
   have:=h2 e he;rw[hb] at this
   simpa using this
  ·rw[hd] at h3
   simp only[zk,decide_eq_true_eq,Bool.not_eq_true',zt,Bool.or_eq_true,beq_iff_eq] at h3;exact⟨h3.1.1.1,by simpa using h3.1.1.2,h3.1.2,fun j hj KP=>(h3.2 j (List.mem_range.2 hj)).resolve_left KP⟩
 have fin:∀ (fuel:Nat) (listed:Array Bool) (a:Act) (w:World),listed.size=L→(∀ j,j<L→listed.getD j false=true)→a.tmps.size=nt→a.defers=[]→(∀ s,s∉ds→a.tmps[s]? = a0.tmps[s]?)→aa w0 w→
   (∀ j d,listed.getD j false=true→fe ops j d=true→V d (a.eval (.tmp d)) w)→wpAny P md ops Q fuel listed a w:=by
  intro fuel listed a w x8 hl x9 H8 H7 hk hV;refine jG fuel listed a w (fun j hj=>?_) ?_
  ·rw[eL qB];exact hl j qB
  ·have:=hQ (fun s=>a.eval (.tmp s)) w hk (fun d hd=>by
    have:=KT d (by simpa using hd);rw[List.any_eq_true] at this;obtain⟨j,hj,Lg⟩:=this
    exact hV j d (hl j (List.mem_range.1 hj)) Lg)
   rw[←Dd ds qB (by rw[H8,Lf]) H7] at this;exact this
 intro fuel
 induction fuel with
 | zero=>
  intro listed a w x8 hf x9 H8 H7 hk KY hV;refine fin 0 listed a w x8 (fun j hj=>?_) x9 H8 H7 hk hV
  cases h:listed.getD j false with
  | true=>rfl
  | false=>
   have:j∈(List.range L).filter fun i=>!listed.getD i false:=List.mem_filter.2 ⟨List.mem_range.2 hj,by rw[h];rfl⟩
   have:=List.length_pos_of_mem this;omega
 | succ fuel ih=>
  intro listed a w x8 hf x9 H8 H7 hk KY hV
  by_cases h9:∀ j,j<L→listed.getD j false=true
  ·exact fin _ listed a w x8 h9 x9 H8 H7 hk hV
  have Lj:∀ n i,i≤n→i<L→listed.getD i false=false→∃ j,j∈Region.ready md ops listed:=by
   intro n
   induction n with
   | zero=>
    intro i hi KR H9;have ho:ops[i]? = some ops[i]:=Array.getElem?_eq_getElem qB;refine⟨i,mem_ready.2 ⟨by rw[eL qB];exact H9,_,ho,fun e he hb=>?_⟩⟩;have:=(K0 i _ ho).2.1 e he hb;omega
   | succ n ihn=>
    intro i hi KR H9;have ho:ops[i]? = some ops[i]:=Array.getElem?_eq_getElem qB
    by_cases eE:∀ e∈ops[i].after,Region.binds md e=true→listed.getD e.on false=true
    ·exact⟨i,mem_ready.2 ⟨by rw[eL qB];exact H9,_,ho,eE⟩⟩
    ·simp only[Classical.not_forall] at eE
     obtain⟨e,he,hb,hn⟩:=eE;have Lc:=(K0 i _ ho).2.1 e he hb;exact ihn e.on qB qB (by simpa using hn)
  refine⟨fun h0=>?_,fun i hi=>?_⟩
  ·simp only[Classical.not_forall] at h9
   obtain⟨j,hj,hn⟩:=h9;obtain⟨k,hk⟩:=Lj j j (zm _) hj (by simpa using hn);rw[h0] at hk
   cases hk
  ·obtain⟨Lc,o,ho,KV⟩:=mem_ready.1 hi
   obtain⟨KR,Lm,x6⟩:=K0 i o ho
   have H9:listed.getD i false=false:=by rw[←eL qB];exact Lc
   refine wpOp_step ho (fun K' hK=>?_);have La:=tg ops.toList i o hs (by simpa using ho);refine La a w K' x9 hk KY (fun j d hj hd=>?_) (fun v w' hR Le=>hK _ _ ?_)
   ·unfold fX at hj
    rw[Array.any_eq_true'] at hj;obtain⟨e,Li,hb⟩:=hj;rw[zk,beq_iff_eq] at hb;have:=KV e Li hb.1;rw[hb.2] at this;exact hV j d this hd
   ·refine ih (listed.setIfInBounds i true) (a.put o.dst v) w' (by simpa using x8) ?_ (by rw[kO];exact x9) (by rw[jA];exact H8) (fun s hs=>?_) (hk.trans hR) (fun s hs=>?_) (fun j d hl hd=>?_)
    ·have:((List.range L).filter fun k=>!(listed.setIfInBounds i true).getD k false).length<((List.range L).filter fun k=>!listed.getD k false).length:=by
      refine gV _ (fun k hk=>?_) ⟨i,List.mem_range.2 KR,by rw[H9];rfl,?_⟩
      ·by_cases Lb:i=k
       ·subst Lb;rw[H9];rfl
       ·rwa[getD_set_ne false Lb] at hk
      ·simp[Array.getD,x8,KR]
     omega
    ·cases hd:o.dst with
     | none=>exact H7 s hs
     | some d=>
      have KP:d≠s:=fun e=>hs (by rw[←e];exact(x6 d hd).2.1)
      rw[←H7 s hs];simp[Act.put,KP]
    ·have KP:∀ d,o.dst=some d→s≠d:=fun d hd e=>by
      have:=(x6 d hd).2.2.1;rw[←e,hs] at this
      cases this
     have e1:(a.put o.dst v).eval (.tmp s)=a.eval (.tmp s):=by
      cases hd:o.dst with
      | none=>simp[Act.put]
      | some d=>exact sR a d s v (KP d hd)
     rw[e1];exact Ld _ _ _ _ hR (KY s hs)
    ·by_cases KZ:j=i
     ·subst KZ
      have KU:o.dst=some d:=by
       unfold fe at hd;rw[ho] at hd
       simpa using hd
      rw[KU,wL a d v (by rw[x9];exact(x6 d KU).1)];exact Le d KU
     ·rw[getD_set_ne false (Ne.symm KZ)] at hl
      have Lk:j<L:=by
       rcases Nat.lt_or_ge j L with h | h
       ·exact h
       ·simp[Array.getD,x8,Nat.not_lt.2 h] at hl
      have e1:(a.put o.dst v).eval (.tmp d)=a.eval (.tmp d):=by
       cases Lh:o.dst with
       | none=>simp[Act.put]
       | some d'=>
        refine sR a d' d v (fun e=>?_);have:=(x6 d' Lh).2.2.2 j Lk KZ;rw[←e,hd] at this
        cases this
      rw[e1];exact Ld _ _ _ _ hR (hV j d hl hd)
theorem ao {id:Nat} {a:Act} {w:World} {L nt:Nat} {ins ds:List Nat} (hm:P.follows .mixedOrders=true) (eE:Gg .any ops L nt ins ds=true) (V:Nat→Value→World→Prop) (x9:∀ s v w w',aa w w'→V s v w→V s v w')
  (hs:oT (cB P .any ops Q nt ins V w.drew) ops.toList) (x6:a.tmps.size=nt) (h9:a.defers=[]) (x8:∀ s,ins.contains s=true→V s (a.eval (.tmp s)) w.drew)
  (hQ:∀ f w',aa w.drew w'→(∀ d,ds.contains d=true→V d (f d) w')→Q .normal (aN a f ds) w'):(Code.region id ops true).wp P Q a w:=by
 have x7:ops.size=L:=by
  unfold Gg at eE;rw[zk,zk,beq_iff_eq] at eE;exact eE.1.1
 refine wp_region_any hm (zC eE V x9 hs hQ x6 h9 _ _ _ _ ?_ ?_ x6 h9 (fun s _=>rfl) (aa.refl w.drew) x8 (fun j d hl=>?_))
 ·simp[x7]
 ·rw[x7]
  exact zx (List.length_filter_le _ _) qD
 ·simp[Array.getD] at hl
def JT (md:Region.Mode) (ops:Array Oper) (L nt:Nat) (ins ds:List Nat):Bool:=
 ym md ops (L+1) nt ds&&(match ops[L]? with
  | some o=>(List.range L).all fun j=>fX md o j
  | none=>false)&&ds.all (fun d=>!ins.contains d&&(List.range L).any fun j=>fe ops j d)&&(List.range L).all (fun i=>(List.range L).all fun j=>j==i||(match (ops[i]?).bind (·.dst) with
  | some d=>!fe ops j d
  | none=>true))
def Jc (P:Program) (Q:Exit→Act→World→Prop) (nt:Nat) (ds:List Nat) (V:Nat→Value→World→Prop) (w0:World) (Fin:(Nat→Value)→World→Prop) (o:Oper):Prop:=
 ∀ (a:Act) (w:World) (K:Act→World→Prop),a.tmps.size=nt→aa w0 w→(∀ d,ds.contains d=true→V d (a.eval (.tmp d)) w)→
  (∀ v w',Fin (fun s=>if o.dst=some s then v else a.eval (.tmp s)) w'→K (a.put o.dst v) w')→Oper.wp P o a w K Q
def oU (F G:Oper→Prop) (L:Nat):Nat→List Oper→Prop
 | _,[]=>True
 | i,o::l=>(if i=L then G o else F o)∧oU F G L (i+1) l
theorem th {F G:Oper→Prop} {L:Nat}:∀ (l:List Oper) (k i:Nat) (o:Oper),oU F G L k l→l[i]? = some o→if k+i=L then G o else F o
 | [],_,_,_,_,h=>by simp at h
 | x::l,k,0,o,h,e=>by
  simp at e
  subst e;exact h.1
 | x::l,k,i+1,o,h,e=>by
  have:=th l (k+1) i o h.2 (by simpa using e);rwa[show k+1+i=k+(i+1) by omega] at this
theorem oS {F:Nat→Oper→Prop}:∀ (l:List Oper) (k:Nat),(∀ i o,l[i]? = some o→F (k+i) o)→te F k l
 | [],_,_=>True.intro
 | x::l,k,h=>⟨h 0 x rfl,oS l (k+1) (fun i o ho=>by
  have:=h (i+1) o (by simpa using ho)
  rwa[show k+(i+1)=k+1+i by omega] at this)⟩
theorem la {id:Nat} {a:Act} {w:World} {L nt:Nat} {ins ds:List Nat} (hm:P.follows .mixedOrders=true) (x8:JT .any ops L nt ins ds=true) (V:Nat→Value→World→Prop) (Ld:∀ s v w w',aa w w'→V s v w→V s v w') (Fin:(Nat→Value)→World→Prop)
  (hs:oU (cB P .any ops Q nt ins V w.drew) (Jc P Q nt ds V w.drew Fin) L 0 ops.toList) (Lk:a.tmps.size=nt) (Lf:a.defers=[]) (Li:∀ s,ins.contains s=true→V s (a.eval (.tmp s)) w.drew)
  (hQ:∀ f w',Fin f w'→Q .normal (aN a f ds) w'):(Code.region id ops true).wp P Q a w:=by
 unfold JT at x8;rw[zk,zk,zk] at x8;obtain⟨⟨⟨hI,hL⟩,x7⟩,H9⟩:=x8;have KR:=hI;unfold ym at KR;rw[zk,beq_iff_eq,zt] at KR;obtain⟨Lm,KS⟩:=KR;rw[zt] at x7 H9
 have Ll:∀ (i:Nat) (o:Oper),ops[i]? = some o→i<L+1∧o.guard=none∧(∀ d,o.dst=some d→d<nt∧d∈ds):=by
  intro i o ho
  have hi:i<L+1:=by rw[←Lm];exact(Array.getElem?_eq_some_iff.1 ho).1
  have h:=KS i (List.mem_range.2 hi);rw[ho] at h;simp only[zk] at h;obtain⟨⟨h1,h2⟩,h3⟩:=h;refine⟨hi,by simpa using h1,fun d hd=>?_⟩;rw[hd] at h3
  simpa using h3
 have Lg:∀ oL,ops[L]? = some oL→∀ j,j<L→fX .any oL j=true:=by
  intro oL ho j hj;rw[ho] at hL;rw[zt] at hL;exact hL j (List.mem_range.2 hj)
 let I:(Nat→Bool)→(Nat→Value)→World→Prop:=fun l f w'=>(l L=false→aa w.drew w'∧(∀ s,ins.contains s=true→V s (f s) w')∧∀ j d,j<L→l j=true→fe ops j d=true→V d (f d) w')∧(l L=true→Fin f w'∧∀ j,j<L→l j=true)
 refine lZ (L:=L+1) (nt:=nt) (ds:=ds) hm hI I (fun l l' f w' hl h=>?_) (oS _ _ (fun i o ho=>?_)) Lk Lf ?_ (fun f w' h=>hQ f w' (h.2 qD).1)
 ·refine⟨fun e=>?_,fun e=>?_⟩
  ·obtain⟨h1,h2,h3⟩:=h.1 (by rw[hl L qB];exact e)
   exact⟨h1,h2,fun j d hj KY hd=>h3 j d hj (by rw[hl j qB];exact KY) hd⟩
  ·obtain⟨h1,h2⟩:=h.2 (by rw[hl L qB];exact e)
   exact⟨h1,fun j hj=>by rw[←hl j qB];exact h2 j hj⟩
 ·rw[Nat.zero_add]
  have ho':ops[i]? = some o:=by simpa using ho
  obtain⟨Lo,hg,KT⟩:=Ll i o ho';have eE:=th ops.toList 0 i o hs ho;rw[Nat.zero_add] at eE;intro lst b w1 K Lc Ln KV x9 K0 hK
  have KP:lst L=false:=by
   cases e:lst L with
   | false=>rfl
   | true=>
    have h2:=(K0.2 e).2
    by_cases h9:i=L
    ·subst h9;rw[KV] at e;cases e
    ·rw[h2 i qB] at KV;cases KV
  obtain⟨hk,H7,hV⟩:=K0.1 KP
  by_cases h9:i=L
  ·rw[if_pos h9] at eE
   subst h9
   have x6:∀ j,j<i→lst j=true:=fun j hj=>x9 j (Lg o ho' j hj)
   refine eE b w1 K Lc hk (fun d hd=>?_) (fun v w' hF=>hK v w' ⟨fun e=>by simp at e,fun _=>⟨hF,fun j hj=>by show(lst j||j==i)=true;rw[x6 j hj];rfl⟩⟩);have:=x7 d (by simpa using hd);rw[zk,List.any_eq_true] at this;obtain⟨j,hj,Lh⟩:=this.2;exact hV j d (List.mem_range.1 hj) (x6 j (List.mem_range.1 hj)) Lh
  ·rw[if_neg h9] at eE
   have hi:i<L:=qB
   have H8:=eE b w1 K Lc hk H7 (fun j d hj hd=>by
    have h2:=x9 j hj
    have Lj:j<L:=by
     rcases Nat.lt_or_ge j L with h | h
     ·exact h
     ·exfalso
      by_cases e:j=L
      ·subst e;rw[h2] at KP;cases KP
      ·unfold fe at hd
       rw[Array.getElem?_eq_none qB] at hd
       simp at hd
    exact hV j d Lj h2 hd) (fun v w' hR Le=>hK v w' ⟨fun e=>⟨hk.trans hR,fun s hs=>?_,fun j d hj KY hd=>?_⟩,fun e=>?_⟩)
   ·rw[if_pos (by simp[Region.wanted,hg])] at H8
    exact H8
   ·by_cases hd:o.dst=some s
    ·exfalso
     have:=x7 s (KT s hd).2;rw[zk,hs] at this
     simp at this
    ·show V s (if o.dst=some s then v else b.eval (.tmp s)) w'
     rw[if_neg hd];exact Ld _ _ _ _ hR (H7 s hs)
   ·by_cases KU:j=i
    ·subst KU
     have Lb:o.dst=some d:=by
      unfold fe at hd;rw[ho'] at hd
      simpa using hd
     show V d (if o.dst=some d then v else b.eval (.tmp d)) w'
     rw[if_pos Lb];exact Le d Lb
    ·have KZ:lst j=true:=by
      have:(j==i)=false:=by simpa using KU
      have h3:(lst j||j==i)=true:=KY;rw[this,Bool.or_false] at h3;exact h3
     by_cases La:o.dst=some d
     ·exfalso
      have:=H9 i (List.mem_range.2 hi);rw[zt] at this;have:=this j (List.mem_range.2 hj);rw[ho'] at this;simp only[Option.bind_some,La,hd] at this;simp[KU] at this
     ·show V d (if o.dst=some d then v else b.eval (.tmp d)) w'
      rw[if_neg La];exact Ld _ _ _ _ hR (hV j d hj KZ hd)
   ·exfalso
    have:(L==i)=false:=by simpa using Ne.symm h9
    have h3:(lst L||L==i)=true:=e;rw[KP,this] at h3
    simp at h3
 ·exact⟨fun _=>⟨aa.refl _,Li,fun j d hj e=>by cases e⟩,fun e=>by cases e⟩
def oJ (md:Region.Mode) (ops:Array Oper):Nat→Nat→Nat→Bool
 | 0,_,_=>false
 | f+1,i,j=>match ops[i]? with
  | some o=>fX md o j||(List.range i).any fun k=>fX md o k&&oJ md ops f k j
  | none=>false
theorem sT {lst:Nat→Bool} (h9:∀ k o,ops[k]? = some o→lst k=true→∀ j,fX md o j=true→lst j=true):∀ (f i j:Nat) (o:Oper),ops[i]? = some o→(∀ j,fX md o j=true→lst j=true)→oJ md ops f i j=true→lst j=true
 | 0,_,_,_,_,_,h=>by cases h
 | f + 1,i,j,o,ho,hd,h=>by
  unfold oJ at h;rw[ho] at h;simp only[Bool.or_eq_true,List.any_eq_true,zk] at h
  rcases h with h | ⟨k,_,h1,h2⟩
  ·exact hd j h
  ·have hk:=hd k h1
   cases eE:ops[k]? with
   | none=>
    cases f with
    | zero=>cases h2
    | succ f=>
     unfold oJ at h2;rw[eE] at h2
     cases h2
   | some ok=>exact sT h9 f k j ok eE (h9 k ok eE hk) h2
def JU (md:Region.Mode) (ops:Array Oper) (M L nt:Nat) (ins ds0 ds:List Nat):Bool:=
 ym md ops L nt ds&&decide (M<L)&&((List.range L).all fun i=>decide (i<M)||(match ops[i]? with
  | some _=>(List.range i).all fun j=>oJ md ops L i j
  | none=>false))&&ds0.all (fun d=>ds.contains d&&!ins.contains d&&(List.range M).any fun j=>fe ops j d)&&(List.range M).all (fun i=>(match (ops[i]?).bind (·.dst) with
  | some d=>ds0.contains d&&(List.range M).all fun j=>j==i||!fe ops j d
  | none=>true))
def Jm (P:Program) (Q:Exit→Act→World→Prop) (nt:Nat) (Fin:Nat→(Nat→Value)→World→Prop) (i:Nat) (o:Oper):Prop:=
 ∀ (a:Act) (w:World) (K:Act→World→Prop),a.tmps.size=nt→Fin (i-1) (fun s=>a.eval (.tmp s)) w→(∀ v w',Fin i (fun s=>if o.dst=some s then v else a.eval (.tmp s)) w'→K (a.put o.dst v) w')→Oper.wp P o a w K Q
def Ja (P:Program) (Q:Exit→Act→World→Prop) (nt:Nat) (ins ds0:List Nat) (V:Nat→Value→World→Prop) (w0:World) (Fin:Nat→(Nat→Value)→World→Prop) (M:Nat) (o:Oper):Prop:=
 ∀ (a:Act) (w:World) (K:Act→World→Prop),a.tmps.size=nt→aa w0 w→(∀ s,ins.contains s=true→V s (a.eval (.tmp s)) w)→(∀ d,ds0.contains d=true→V d (a.eval (.tmp d)) w)→(∀ v w',Fin M (fun s=>if o.dst=some s then v else a.eval (.tmp s)) w'→K (a.put o.dst v) w')→Oper.wp P o a w K Q
def jC (F:Oper→Prop) (H:Oper→Prop) (T:Nat→Oper→Prop) (M:Nat):Nat→List Oper→Prop
 | _,[]=>True
 | i,o::l=>(if i<M then F o else if i=M then H o else T i o)∧jC F H T M (i+1) l
theorem tj {F H:Oper→Prop} {T:Nat→Oper→Prop} {M:Nat}:∀ (l:List Oper) (k i:Nat) (o:Oper),jC F H T M k l→l[i]? = some o→if k+i<M then F o else if k+i=M then H o else T (k+i) o
 | [],_,_,_,_,h=>by simp at h
 | x::l,k,0,o,h,e=>by
  simp at e
  subst e;exact h.1
 | x::l,k,i+1,o,h,e=>by
  have:=tj l (k+1) i o h.2 (by simpa using e);rwa[show k+1+i=k+(i+1) by omega] at this
theorem lh {id:Nat} {a:Act} {w:World} {M L nt:Nat} {ins ds0 ds:List Nat} (hm:P.follows .mixedOrders=true) (H9:JU .any ops M L nt ins ds0 ds=true) (V:Nat→Value→World→Prop) (Lk:∀ s v w w',aa w w'→V s v w→V s v w') (Fin:Nat→(Nat→Value)→World→Prop)
  (hs:jC (cB P .any ops Q nt ins V w.drew) (Ja P Q nt ins ds0 V w.drew Fin M) (Jm P Q nt Fin) M 0 ops.toList) (Lw:a.tmps.size=nt) (Ln:a.defers=[]) (Lq:∀ s,ins.contains s=true→V s (a.eval (.tmp s)) w.drew)
  (hQ:∀ f w',Fin (L-1) f w'→Q .normal (aN a f ds) w'):(Code.region id ops true).wp P Q a w:=by
 unfold JU at H9;rw[zk,zk,zk,zk,decide_eq_true_eq] at H9;obtain⟨⟨⟨⟨hI,Lg⟩,KT⟩,H7⟩,KP⟩:=H9;have La:=hI;unfold ym at La;rw[zk,beq_iff_eq,zt] at La;obtain⟨Lx,KS⟩:=La;rw[zt] at KT H7 KP
 have KV:∀ (i:Nat) (o:Oper),ops[i]? = some o→i<L∧o.guard=none:=by
  intro i o ho
  have hi:i<L:=by rw[←Lx];exact(Array.getElem?_eq_some_iff.1 ho).1
  have h:=KS i (List.mem_range.2 hi);rw[ho] at h;simp only[zk] at h;exact⟨hi,by simpa using h.1.1⟩
 have Lo:∀ (i:Nat) (o:Oper),ops[i]? = some o→M≤i→∀ j,j<i→oJ .any ops L i j=true:=by
  intro i o ho hi j hj;have:=KT i (List.mem_range.2 (KV i o ho).1);rw[Bool.or_eq_true,decide_eq_true_eq] at this
  rcases this with h | h
  ·omega
  ·rw[ho,zt] at h
   exact h j (List.mem_range.2 hj)
 let I:(Nat→Bool)→(Nat→Value)→World→Prop:=fun l f w'=>(l M=false→aa w.drew w'∧(∀ s,ins.contains s=true→V s (f s) w')∧∀ j d,j<M→l j=true→fe ops j d=true→V d (f d) w')∧
  (∀ m,M≤m→m<L→l m=true→(∀ j,j<m→l j=true)∧((m+1<L→l (m+1)=false)→Fin m f w'))∧∀ (k:Nat) (o:Oper),ops[k]? = some o→l k=true→∀ j,fX .any o j=true→l j=true
 have Lu:∀ (i:Nat) (o:Oper),ops[i]? = some o→∀ j,fX .any o j=true→j<L:=by
  intro i o ho j hj;have h:=KS i (List.mem_range.2 (KV i o ho).1);rw[ho] at h;simp only[zk] at h;unfold fX at hj;rw[Array.any_eq_true'] at hj;obtain⟨e,he,hb⟩:=hj;rw[zk,beq_iff_eq] at hb;have h2:=h.1.2;rw[Array.all_eq_true_iff_forall_mem] at h2;have:=h2 e he;rw[hb.1] at this
  simp at this
  have:=(KV i o ho).1;omega
 refine lZ (L:=L) (nt:=nt) (ds:=ds) hm hI I (fun l l' f w' hl h=>?_) (oS _ _ (fun i o ho=>?_)) Lw Ln ?_ (fun f w' h=>hQ f w' ((h.2.1 (L-1) qB qB (by simp;omega)).2 (fun h=>by omega)))
 ·refine⟨fun e=>?_,fun m h1 h2 e=>?_,fun k o ho e j hj=>?_⟩
  ·obtain⟨h1,h2,h3⟩:=h.1 (by rw[hl M Lg];exact e)
   exact⟨h1,h2,fun j d hj Lc hd=>h3 j d hj (by rw[hl j qB];exact Lc) hd⟩
  ·obtain⟨g1,g2⟩:=h.2.1 m h1 h2 (by rw[hl m h2];exact e)
   exact⟨fun j hj=>by rw[←hl j qB];exact g1 j hj,fun hn=>g2 (fun h=>by rw[hl (m+1) h];exact hn h)⟩
  ·rw[←hl j (Lu k o ho j hj)]
   exact h.2.2 k o ho (by rw[hl k (KV k o ho).1];exact e) j hj
 ·rw[Nat.zero_add]
  have ho':ops[i]? = some o:=by simpa using ho
  obtain⟨Lz,hg⟩:=KV i o ho';have eE:=tj ops.toList 0 i o hs ho;rw[Nat.zero_add] at eE;intro lst b w1 K Lf Ly KU x7 KR hK
  -- nothing behind i is done
  have x6:∀ m,M≤m→m<L→lst m=true→m<i:=by
   intro m h1 h2 e
   rcases Nat.lt_or_ge m i with h | h
   ·exact h
   ·exfalso
    by_cases Lj:m=i
    ·subst Lj;rw[KU] at e;cases e
    ·rw[(KR.2.1 m h1 h2 e).1 i qB] at KU;cases KU
  have x9:∀ k o',ops[k]? = some o'→(lst k||k==i)=true→∀ j,fX .any o' j=true→(lst j||j==i)=true:=by
   intro k o' hk e j hj;rw[Bool.or_eq_true] at e
   have:lst j=true:=by
    rcases e with e | e
    ·exact KR.2.2 k o' hk e j hj
    ·have:k=i:=eq_of_beq e
     subst this;rw[ho'] at hk
     cases hk
     exact x7 j hj
   rw[this];rfl
  by_cases K0:i<M
  ·rw[if_pos K0] at eE
   have Lt:lst M=false:=by
    cases e:lst M with
    | false=>rfl
    | true=>have:=x6 M (zm _) Lg e;omega
   obtain⟨hk,x8,hV⟩:=KR.1 Lt
   have KZ:=eE b w1 K Lf hk x8 (fun j d hj hd=>by
    have h2:=x7 j hj
    have Ls:j<M:=by
     rcases Nat.lt_or_ge j M with h | h
     ·exact h
     ·exfalso
      have Lr:j<L:=by
       rcases Nat.lt_or_ge j L with h' | h'
       ·exact h'
       ·exfalso
        unfold fe at hd;rw[Array.getElem?_eq_none qB] at hd
        simp at hd
      have:=x6 j h Lr h2;omega
    exact hV j d Ls h2 hd) (fun v w' hR Lm=>hK v w' ⟨fun e=>⟨hk.trans hR,fun s hs=>?_,fun j d hj Lc hd=>?_⟩,fun m h1 h2 e=>?_,x9⟩)
   ·rw[if_pos (by simp[Region.wanted,hg])] at KZ
    exact KZ
   ·show V s (if o.dst=some s then v else b.eval (.tmp s)) w'
    by_cases hd:o.dst=some s
    ·exfalso
     have h1:=KP i (List.mem_range.2 K0);rw[ho'] at h1;simp only[Option.bind_some,hd,zk] at h1;have h2:=H7 s (by simpa using h1.1);rw[zk,zk,hs] at h2
     simp at h2
    ·rw[if_neg hd]
     exact Lk _ _ _ _ hR (x8 s hs)
   ·show V d (if o.dst=some d then v else b.eval (.tmp d)) w'
    by_cases Lb:j=i
    ·subst Lb
     have Li:o.dst=some d:=by
      unfold fe at hd;rw[ho'] at hd
      simpa using hd
     rw[if_pos Li];exact Lm d Li
    ·have Ld:lst j=true:=by
      have:(j==i)=false:=by simpa using Lb
      have h3:(lst j||j==i)=true:=Lc;rw[this,Bool.or_false] at h3;exact h3
     by_cases Lh:o.dst=some d
     ·exfalso
      have h1:=KP i (List.mem_range.2 K0);rw[ho'] at h1;simp only[Option.bind_some,Lh,zk,zt] at h1;have:=h1.2 j (List.mem_range.2 hj);simp[hd,Lb] at this
     ·rw[if_neg Lh]
      exact Lk _ _ _ _ hR (hV j d hj Ld hd)
   ·exfalso
    have h3:(lst m||m==i)=true:=e
    have:(m==i)=false:=by simp;omega
    rw[this,Bool.or_false] at h3;have:=x6 m h1 h2 h3;omega
  ·rw[if_neg K0] at eE
   have h9:∀ j,j<i→lst j=true:=fun j hj=>sT KR.2.2 L i j o ho' x7 (Lo i o ho' qB j hj)
   have KY:∀ v w',Fin i (fun s=>if o.dst=some s then v else b.eval (.tmp s)) w'→I (fun j=>lst j||j==i) (fun s=>if o.dst=some s then v else b.eval (.tmp s)) w':=by
    intro v w' hF;refine⟨fun e=>?_,fun m h1 h2 e=>?_,x9⟩
    ·exfalso
     have h3:(lst M||M==i)=false:=e
     by_cases Ll:M=i
     ·subst Ll;simp at h3
     ·rw[h9 M qB] at h3;simp at h3
    ·have Lj:m≤i:=by
      have h3:(lst m||m==i)=true:=e;rw[Bool.or_eq_true] at h3
      rcases h3 with h3 | h3
      ·have:=x6 m h1 h2 h3;omega
      ·have:=eq_of_beq h3;omega
     refine⟨fun j hj=>by show(lst j||j==i)=true;rw[h9 j qB];rfl,fun hn=>?_⟩
     by_cases Le:m=i
     ·subst Le;exact hF
     ·exfalso
      have h4:(lst (m+1)||m+1==i)=false:=hn qB
      by_cases e2:m+1=i
      ·rw[e2] at h4;simp at h4
      ·rw[h9 (m+1) qB] at h4;simp at h4
   by_cases H8:i=M
   ·rw[if_pos H8] at eE
    subst H8;obtain⟨hk,x8,hV⟩:=KR.1 KU;refine eE b w1 K Lf hk x8 (fun d hd=>?_) (fun v w' hF=>hK v w' (KY v w' hF));have:=H7 d (by simpa using hd);rw[zk,List.any_eq_true] at this;obtain⟨j,hj,Lp⟩:=this.2;exact hV j d (List.mem_range.1 hj) (h9 j (List.mem_range.1 hj)) Lp
   ·rw[if_neg H8] at eE
    have hF:=(KR.2.1 (i-1) qB qB (h9 (i-1) qB)).2 (fun _=>by rw[show i-1+1=i by omega];exact KU);exact eE b w1 K Lf hF (fun v w' hF=>hK v w' (KY v w' hF))
 ·exact⟨fun _=>⟨aa.refl _,Lq,fun j d hj e=>by cases e⟩,(fun m h1 h2 e=>by cases e),(fun k o ho e=>by cases e)⟩
end
end
section
open Go.RowKit
theorem je {Q:Exit→Act→World→Prop} {o:Oper} {a:Act} {w:World} {K:Act→World→Prop} (f:FuncId) (args:Array Operand) (ats:Array TypeId) (ho:o.op=.call { callee:=.value (.func f),args:=args,argTypes:=ats }) (hE:aG f) (vs:Array Value) (eE:args.map a.eval=vs)
  (hc:Calls Tryz.prog f vs w fun e w'=>∃ v,e=.returned v∧K (a.put o.dst v) w'):Oper.wp Tryz.prog o a w K Q:=by
 unfold Oper.wp execOp;simp only[ho]
 have e1:(do let d ←resolve a.eval { callee:=.value (.func f),args:=args,argTypes:=ats } o.type;invoke d.target d.args).run Tryz.prog w=.ok (.enter f vs) w:=by
  subst eE;have:=hE (args.map a.eval) w;simp only[resolve,Deferred.ofValue,Act.eval,Sem.run_bind,Sem.run_pure,Result.andThen_ok,invoke] at*
  simpa using this
 rw[e1];refine Calls.mono hc ?_;rintro e w' ⟨v,rfl,hk⟩;exact hk
end
end Go.Proofs.YtagoboblkadelaaGreat
