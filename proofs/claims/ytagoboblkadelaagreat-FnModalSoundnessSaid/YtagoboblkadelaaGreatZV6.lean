import Derived.Test.YtagoboblkadelaaGreatZV9
import Derived.Test.YtagoboblkadelaaGreatZRB
/- own -/
namespace Go.Proofs.YtagoboblkadelaaGreat
open Go.RowKit
def bS:Fm→List Fm
 | .and x y=>[x,y]
 | .or x y=>[x,y]
 | .imp x y=>[x,y]
 | .box x=>[x]
 | .dia x=>[x]
 | _=>[]
theorem bW.noneN (w:World):bW w (.slice Option.none 0 0) []:=⟨Option.none,0,rfl,zm _,by simp[maxLen],qD,fun i hi=>by simp at hi⟩
theorem CA (t:Fm) (v:Value) (w:World) (hv:Nds w v t.enc):
  Calls Tryz.prog 222 #[v] w fun e w'=>∃ u,e=.returned u∧bW w' u ((bS t).map Fm.enc)∧aa w w':=by
 have h9:=hv;obtain⟨b,off,n,cap,rfl,h0,h1,h2,h3,hc,_⟩:=hv.root
 cases t with
 | var _=>
  replace hc:w.cell? ⟨b,off,none⟩=some (.int .i64 0):=hc
  have hp:=dH 0 w;rw[show bZ 0=0 from rfl] at hp;go_enter Tryz.func222,Tryz.ntmps222
  go_wp2_with (go_at_call 216;refine hp.mono ?_;rintro e w' ⟨rfl,rfl⟩)
  go_ret;exact⟨_,rfl,bW.noneN _,aa.refl _⟩
 | fls=>
  replace hc:w.cell? ⟨b,off,none⟩=some (.int .i64 1):=hc
  have hp:=dH 1 w;rw[show bZ 1=0 from rfl] at hp;go_enter Tryz.func222,Tryz.ntmps222
  go_wp2_with (go_at_call 216;refine hp.mono ?_;rintro e w' ⟨rfl,rfl⟩)
  go_ret;exact⟨_,rfl,bW.noneN _,aa.refl _⟩
 | and x y=>
  replace hc:w.cell? ⟨b,off,none⟩=some (.int .i64 2):=hc
  have hp:=dH 2 w;rw[show bZ 2=2 from rfl] at hp;go_enter Tryz.func222,Tryz.ntmps222;go_wp2_with fail;refine hp.mono ?_;rintro e w' ⟨rfl,rfl⟩;go_wp2_with fail;refine(bu _ _ x y.enc _ _ h9 rfl).mono ?_;rintro e w' ⟨v1,rfl,eE,rfl⟩;go_wp2_with fail;refine(dt _ _ x y _ _ h9 rfl).mono ?_;rintro e w' ⟨v2,rfl,x6,rfl⟩;obtain⟨p1,n1,c1,rfl⟩:=eE.shape;obtain⟨p2,n2,c2,rfl⟩:=x6.shape;go_wp2_with fail;go_ret;exact⟨_,rfl,bW.lit2 eE x6,(aa.refl w).alloc _⟩
 | or x y=>
  replace hc:w.cell? ⟨b,off,none⟩=some (.int .i64 3):=hc
  have hp:=dH 3 w;rw[show bZ 3=2 from rfl] at hp;go_enter Tryz.func222,Tryz.ntmps222;go_wp2_with fail;refine hp.mono ?_;rintro e w' ⟨rfl,rfl⟩;go_wp2_with fail;refine(bu _ _ x y.enc _ _ h9 rfl).mono ?_;rintro e w' ⟨v1,rfl,eE,rfl⟩;go_wp2_with fail;refine(dt _ _ x y _ _ h9 rfl).mono ?_;rintro e w' ⟨v2,rfl,x6,rfl⟩;obtain⟨p1,n1,c1,rfl⟩:=eE.shape;obtain⟨p2,n2,c2,rfl⟩:=x6.shape;go_wp2_with fail;go_ret;exact⟨_,rfl,bW.lit2 eE x6,(aa.refl w).alloc _⟩
 | imp x y=>
  replace hc:w.cell? ⟨b,off,none⟩=some (.int .i64 4):=hc
  have hp:=dH 4 w;rw[show bZ 4=2 from rfl] at hp;go_enter Tryz.func222,Tryz.ntmps222;go_wp2_with fail;refine hp.mono ?_;rintro e w' ⟨rfl,rfl⟩;go_wp2_with fail;refine(bu _ _ x y.enc _ _ h9 rfl).mono ?_;rintro e w' ⟨v1,rfl,eE,rfl⟩;go_wp2_with fail;refine(dt _ _ x y _ _ h9 rfl).mono ?_;rintro e w' ⟨v2,rfl,x6,rfl⟩;obtain⟨p1,n1,c1,rfl⟩:=eE.shape;obtain⟨p2,n2,c2,rfl⟩:=x6.shape;go_wp2_with fail;go_ret;exact⟨_,rfl,bW.lit2 eE x6,(aa.refl w).alloc _⟩
 | box x=>
  replace hc:w.cell? ⟨b,off,none⟩=some (.int .i64 5):=hc
  have hp:=dH 5 w;rw[show bZ 5=1 from rfl] at hp;go_enter Tryz.func222,Tryz.ntmps222;go_wp2_with fail;refine hp.mono ?_;rintro e w' ⟨rfl,rfl⟩;go_wp2_with fail;refine(bu _ ⟨5,0⟩ x [] _ _ h9 (by simp[Fm.enc])).mono ?_;rintro e w' ⟨v1,rfl,eE,rfl⟩;obtain⟨p1,n1,c1,rfl⟩:=eE.shape;go_wp2_with fail;go_ret;exact⟨_,rfl,bW.lit1 eE,(aa.refl w).alloc _⟩
 | dia x=>
  replace hc:w.cell? ⟨b,off,none⟩=some (.int .i64 6):=hc
  have hp:=dH 6 w;rw[show bZ 6=1 from rfl] at hp;go_enter Tryz.func222,Tryz.ntmps222;go_wp2_with fail;refine hp.mono ?_;rintro e w' ⟨rfl,rfl⟩;go_wp2_with fail;refine(bu _ ⟨6,0⟩ x [] _ _ h9 (by simp[Fm.enc])).mono ?_;rintro e w' ⟨v1,rfl,eE,rfl⟩;obtain⟨p1,n1,c1,rfl⟩:=eE.shape;go_wp2_with fail;go_ret;exact⟨_,rfl,bW.lit1 eE,(aa.refl w).alloc _⟩
theorem Cz {t:Fm} (h:t.wf):∀ x∈bS t,x.wf:=by
 cases t<;>simp[bS,Fm.wf] at h ⊢<;>first | exact h | (intro x hx;rcases hx with rfl | rfl<;>simp_all) | simp_all
theorem Ao (t:Fm):∀ x∈bS t,x.enc.length≤t.enc.length:=by
 cases t<;>simp[bS,Fm.enc]<;>omega
theorem sL (t:Fm):(bS t).length≤2:=by cases t<;>simp[bS]
set_option maxRecDepth 20000 in
theorem ue (t:Fm) (hw:t.wf) (hl:t.enc.length≤100000000) (v:Value) (w:World) (hv:Nds w v t.enc):
  Calls Tryz.prog 198 #[v] w fun e w'=>∃ u ss,e=.returned u∧aA w' w.heap.size u ss∧ry ss (bS t)∧aa w w':=by
 have hP:=hid (CA t v w hv);have KV:=hid (Cz hw);have H9:=hid (Ao t);have h2:=sL t;generalize hg:bS t=G at*;clear hg;go_enter Tryz.func198,Tryz.ntmps198;go_wp2_with fail;refine hP.out.mono ?_;rintro e w1 ⟨v1,rfl,x6,k1⟩;obtain⟨p,m,cap,rfl⟩:=bW.shapeL x6
 have hm:m=G.length:=by obtain⟨_,_,e,_⟩:=x6;cases e;simp
 have HM:=hid hm;clear hm
 have KZ:m≤2:=by have:=HM.out;omega
 go_wp2
 go_loopw [3,9] (fun r i' wr=>∃ k:Nat,k≤m∧i'=.int .i64 k∧(∃ ss,aA wr w1.heap.size r ss∧ry ss (G.take k))∧aa w1 wr) (fun _ i _=>m-(intOf i).toNat)
 case atStart=>exact⟨0,qB,rfl,⟨[],aA.nil _ _,rfl⟩,aa.refl _⟩
 case round=>
  obtain⟨k,hk,rfl,⟨ss,x9,eE⟩,kw⟩:=hrel
  by_cases KY:k<m
  ·have x8:k<G.length:=by have:=HM.out;omega
   have KP:(k:Int)<m:=qB;obtain⟨b,off,u1,hp,x7,h9⟩:=(bW.keeps x6 kw).get k (by simpa using x8)
   replace h9:Nds wr u1 G[k].enc:=by simpa using h9
   subst hp;have hT:=hid (gR G[k] (KV.out _ (zo _)) (by have:=H9.out G[k] (zo _);omega) u1 wr h9);obtain⟨q1,n1,c1,rfl⟩:=h9.shape
   have K0:ss.length≤2:=by have:=eE.length;simp at this;have:=HM.out;omega
   have La:=k1.size;have KS:=kw.size;go_wp2_with fail;refine hT.out.mono ?_;rintro e w2 ⟨s,rfl,hs,k2⟩;have KT:=k2.size
   go_wp2_with (at_builtin;refine iE rfl (.tmp 13) (.tmp 16) rfl w1.heap.size _ ss rfl ((x9.keeps k2).keeps ((aa.refl w2).alloc _)) _ [s] rfl (au.lit1 w2 s) (by simp;omega) (by simp;omega) ?_;intro v3 w3 KU H7 KR)
   go_roundw
   case rel=>exact⟨k+1,qB,by go_num,⟨_,KU,by rw[←List.take_append_getElem x8];exact eE.append (by simp[ry,hs])⟩,(((kw.trans k2).alloc _).grown H7 (fun q hq=>by have:=KR q hq;omega))⟩
   case measure=>simp[intOf];omega
  ·go_wp2
   go_ret
   have H8:k=G.length:=by have:=HM.out;omega
   subst H8;exact⟨_,_,rfl,x9.mono k1.size,by rw[List.take_length] at eE;exact eE,k1.trans kw⟩
end Go.Proofs.YtagoboblkadelaaGreat
