import Derived.Test.YtagoboblkadelaaGreatZK8
import Derived.Test.YtagoboblkadelaaGreatZR
import Derived.Sort.Walk0
import Derived.Test.YtagoboblkadelaaGreatZRK
/- own -/
namespace Go.Proofs.YtagoboblkadelaaGreat
set_option maxRecDepth 100000
set_option maxHeartbeats 2000000
section
open Go.RowKit
theorem xW {b:Fm} (h:b.isFls=true):b=.fls:=by cases b<;>simp[Fm.isFls] at h<;>rfl
theorem mg {P:Fm→List UInt8→Prop} (t:Fm) (hw:t.wf) (hl:t.lev=3)
  (hv:∀ v,v<6→P (.var v) [UInt8.ofNat (112+v)]) (hf:P .fls [70]) (ht:P (.imp .fls .fls) [84])
  (hn:∀ a,a.wf→a.enc.length<(Fm.imp a .fls).enc.length→P (.imp a .fls) (126::a.txt 3))
  (hb:∀ a,a.wf→a.enc.length<(Fm.box a).enc.length→P (.box a) (91::93::a.txt 3))
  (hd:∀ a,a.wf→a.enc.length<(Fm.dia a).enc.length→P (.dia a) (60::62::a.txt 3))
  : (∀ x:Fm,x.wf→x.enc.length<t.enc.length→True)→P t t.body:=by
 intro _
 cases t with
 | var v=>exact hv v hw
 | fls=>exact hf
 | and a b=>simp[Fm.lev] at hl
 | or a b=>simp[Fm.lev] at hl
 | imp a b=>
  have h9:b.isFls=true:=by
   simp only[Fm.lev] at hl;split at hl
   ·assumption
   ·omega
  obtain rfl:=xW h9
  by_cases ha:a.isFls=true
  ·obtain rfl:=xW ha
   exact ht
  ·have:=hn a hw.1 (by simp only[Fm.enc,zh,ze];omega)
   have eE:(Fm.imp a .fls).body=126::a.txt 3:=by
    show(if Fm.fls.isFls=true then (if a.isFls=true then [84] else _) else _)=_
    rw[if_pos (show Fm.fls.isFls=true from rfl),if_neg ha];rfl
   rw[eE];exact this
 | box a=>exact hb a hw (by simp only[Fm.enc,zh];omega)
 | dia a=>exact hd a hw (by simp only[Fm.enc,zh];omega)
theorem Ce (t:Fm) (hw:t.wf):bh 178 0 t t.body:=by
 have:=(oK (fun l t X=>bh (match l with | 0=>178 | 1=>208 | 2=>239 | _=>256) l t X)
  (fun t hw hl hs=>by
   have hs':∀ x:Fm,x.wf→x.enc.length<t.enc.length→bh 256 3 x (x.txt 3):=hs
   clear hs
   refine mg (P:=fun u X=>(∀ x:Fm,x.wf→x.enc.length<u.enc.length→bh 256 3 x (x.txt 3))→bh 256 3 u X) t hw hl
    (fun v hv _=>Ku v hv) (fun _=>Ko) (fun _=>Kt) (fun a h1 h2 h=>Kp a (h a h1 h2)) (fun a h1 h2 h=>Km a (h a h1 h2)) (fun a h1 h2 h=>Kn a (h a h1 h2)) (fun _ _ _=>trivial) hs')
  (fun t h=>Ks t h) (fun x0 xs h hs=>Kl x0 xs h hs) (fun x0 xs h hs=>iOr x0 xs h hs) (fun t X h=>F6 t X h) (fun a b h1 h2=>F7 a b h1 h2) t.enc.length t (zm _) hw).1
 rw[Fm.txt0] at this;exact this
theorem CR (t:Fm) (hw:t.wf):bh 210 0 t t.body:=by
 have:=(oK (fun l t X=>bh (match l with | 0=>210 | 1=>240 | 2=>257 | _=>264) l t X)
  (fun t hw hl hs=>by
   have hs':∀ x:Fm,x.wf→x.enc.length<t.enc.length→bh 264 3 x (x.txt 3):=hs
   clear hs
   refine mg (P:=fun u X=>(∀ x:Fm,x.wf→x.enc.length<u.enc.length→bh 264 3 x (x.txt 3))→bh 264 3 u X) t hw hl
    (fun v hv _=>KI v hv) (fun _=>lH _ _ (.inl ⟨rfl,rfl⟩)) (fun _=>lH _ _ (.inr (.inl ⟨rfl,rfl⟩))) (fun a h1 h2 h=>lH _ _ (.inr (.inr (.inl ⟨a,rfl,rfl,h a h1 h2⟩))))
    (fun a h1 h2 h=>lH _ _ (.inr (.inr (.inr (.inl ⟨a,rfl,rfl,h a h1 h2⟩))))) (fun a h1 h2 h=>lH _ _ (.inr (.inr (.inr (.inr (.inl ⟨a,rfl,rfl,h a h1 h2⟩)))))) (fun _ _ _=>trivial) hs')
  (fun t h=>lH t _ (.inr (.inr (.inr (.inr (.inr ⟨rfl,h⟩)))))) (fun x0 xs h hs=>KG x0 xs h hs) (fun x0 xs h hs=>sOr x0 xs h hs) (fun t X h=>GD t X h) (fun a b h1 h2=>GF a b h1 h2) t.enc.length t (zm _) hw).1
 rw[Fm.txt0] at this;exact this
theorem cG.new (w:World) (s:ByteArray) (T:TypeId) (hs:s.size≤2147483648):cG (w.alloc (.cells #[.string s,.int .i64 0,.bool false] T)) w.heap.size s 0 false:=
 ⟨qD,qD,qD,qD,qD,Nat.zero_le _,hs⟩
theorem ye (t:Fm) (hw:t.wf) (s:ByteArray) (w:World) (hb:bts s=t.body) (hs:s.size≤2147483648) (hl:t.enc.length≤100000000):
  Calls Tryz.prog 179 #[.string s] w fun e w'=>∃ v,e=.returned (.tuple #[v,.int .i64 (-1)])∧aU w' w.heap.size v t.enc∧aa w w':=by
 have h0:=cG.new w s 206 hs
 have eE:t.body.length=s.size:=by rw[←hb];show s.data.toList.length=s.data.size;simp
 have HR:=hid (CR t hw _ _ s 0 [] h0 (by simpa using hb) ⟨fun _=>by simp,fun _=>by simp,fun _=>by simp⟩ hl)
 have x6:decide ((s.size:Int)<s.size)=false:=by simp
 have k0:=(aa.refl w).alloc (.cells #[.string s,.int .i64 0,.bool false] 206);have HL:=hid eE;clear eE;clear hb h0;go_enter Tryz.func179,Tryz.ntmps179;go_wp2_with fail;refine HR.out.mono ?_;rintro e w1 ⟨v1,rfl,h9,h1,g1⟩;rw[Nat.zero_add,HL.out] at h1;have kw:=k0.grown g1 (fun k hk=>by cases hk;exact zm _);obtain⟨c0,c1,c2,f1,f2,le,sz⟩:=h1;go_wp2_with fail
 go_ret2
 exact⟨_,rfl,h9.mono qD,kw⟩
theorem nU (t:Fm) (hw:t.wf) (s:ByteArray) (w:World) (hb:bts s=t.body) (hs:s.size≤200) (hl:t.enc.length≤40):
  Calls Tryz.prog 128 #[.string s] w fun e w'=>∃ v,e=.returned (.tuple #[v,.int .i64 0,.int .i64 0])∧aU w' w.heap.size v t.enc∧aa w w':=by
 have h0:=cG.new w s 185 qB
 have eE:t.body.length=s.size:=by rw[←hb];show s.data.toList.length=s.data.size;simp
 have HR:=hid (Ce t hw _ _ s 0 [] h0 (by simpa using hb) ⟨fun _=>by simp,fun _=>by simp,fun _=>by simp⟩ qB)
 have x9:decide ((s.size:Int)<s.size)=false:=by simp
 have hs':decide ((s.size:Int)>200)=false:=by simp;omega
 have k0:=(aa.refl w).alloc (.cells #[.string s,.int .i64 0,.bool false] 185);have HL:=hid eE;clear eE;clear hb h0;go_enter Tryz.func128,Tryz.ntmps128;go_wp2_with fail;refine HR.out.mono ?_;rintro e w1 ⟨v1,rfl,h9,h1,g1⟩;rw[Nat.zero_add,HL.out] at h1;have kw:=k0.grown g1 (fun k hk=>by cases hk;exact zm _);obtain⟨c0,c1,c2,f1,f2,le,sz⟩:=h1
 obtain⟨p1,n1,q1,rfl⟩:∃ p n c,v1=.slice p n c:=by obtain⟨p,c,e,_⟩:=At.of_own h9;exact⟨p,_,c,e⟩
 have x6:n1=t.enc.length:=by obtain⟨p,c,e,_⟩:=At.of_own h9;cases e;rfl
 have x8:decide ((n1:Int)>40)=false:=by simp;omega
 have x7:=hid x6;clear x6;go_wp2_with fail;refine bodyPost_ret (v:=.tuple #[.slice p1 n1 q1,.int .i64 0,.int .i64 0]) (by simp[results,Tryz.results128,go_sem]) rfl ?_;exact⟨_,rfl,h9.mono qD,kw⟩
theorem An (t:Fm) (hw:t.wf) (s:ByteArray) (w:World) (hb:bts s=t.body) (hs:s.size≤200) (hl:t.enc.length≤40):
  Calls Tryz.prog 82 #[.string s] w (jh w t.enc):=by
 have HR:=hid (nU t hw s w hb hs hl);clear hb hs hl;go_enter Tryz.func82,Tryz.ntmps82;go_wp2_with fail;refine HR.out.mono ?_;rintro e w1 ⟨v1,rfl,eE,k1⟩;go_wp2_with fail;go_ret;exact⟨_,rfl,eE,k1⟩
end
section
open Fm
def prs:Nat→Nat→Fm→List UInt8→Option (Fm×List UInt8)
 | 0,_,_,_=>none
 | n+1,0,_,X=>match prs n 1 fls X with
  | some (a,62::r)=>(match prs n 0 fls r with | some (b,r')=>some (imp a b,r') | none=>none)
  | some (a,r)=>some (a,r)
  | none=>none
 | n+1,1,_,X=>match prs n 2 fls X with | some (a,r)=>prs n 5 a r | none=>none
 | n+1,2,_,X=>match prs n 3 fls X with | some (a,r)=>prs n 4 a r | none=>none
 | n+1,3,_,X=>match X with
  | 126::r=>(match prs n 3 fls r with | some (a,r')=>some (imp a fls,r') | none=>none)
  | 91::93::r=>(match prs n 3 fls r with | some (a,r')=>some (box a,r') | none=>none)
  | 60::62::r=>(match prs n 3 fls r with | some (a,r')=>some (dia a,r') | none=>none)
  | 70::r=>some (fls,r)
  | 84::r=>some (imp fls fls,r)
  | 40::r=>(match prs n 0 fls r with | some (a,41::r')=>some (a,r') | _=>none)
  | c::r=>if 112≤c.toNat∧c.toNat<118 then some (var (c.toNat-112),r) else none
  | []=>none
 | n+1,4,acc,X=>match X with
  | 38::r=>(match prs n 3 fls r with | some (b,r')=>prs n 4 (.and acc b) r' | none=>none)
  | r=>some (acc,r)
 | n+1,_,acc,X=>match X with
  | 124::r=>(match prs n 2 fls r with | some (b,r')=>prs n 5 (.or acc b) r' | none=>none)
  | r=>some (acc,r)
def Prs (l:Nat) (t:Fm) (X:List UInt8):Prop:=∃ N,∀ n,N≤n→∀ r,fH l r→prs n l fls (X++r)=some (t,r)
theorem Ex (n:Nat) (acc:Fm) (r:List UInt8) (h:r.head? ≠ some 38):prs (n+1) 4 acc r=some (acc,r):=by
 cases r with
 | nil=>rfl
 | cons c r=>
  have hc:c≠38:=fun e=>h (by rw[e];rfl)
  simp[prs,hc]
theorem Ez (n:Nat) (acc:Fm) (r:List UInt8) (h:r.head? ≠ some 124):prs (n+1) 5 acc r=some (acc,r):=by
 cases r with
 | nil=>rfl
 | cons c r=>
  have hc:c≠124:=fun e=>h (by rw[e];rfl)
  simp[prs,hc]
theorem Ew (xs:List Fm):∀ acc,(∀ x∈xs,Prs 3 x (x.txt 3))→∃ N,∀ n,N≤n→∀ r,fH 2 r→prs n 4 acc (behind 38 3 xs++r)=some (xs.foldl Fm.and acc,r):=by
 induction xs with
 | nil=>
  intro acc _;refine⟨1,fun n hn r hr=>?_⟩
  obtain⟨m,rfl⟩:∃ m,n=m+1:=⟨n-1,qB⟩
  exact Ex m acc r (hr.1 qB)
 | cons x xs ih=>
  intro acc h;obtain⟨N1,h1⟩:=h x (List.mem_cons_self ..);obtain⟨N2,h2⟩:=ih (Fm.and acc x) (fun y hy=>h y (zw _ hy));refine⟨max N1 N2+1,fun n hn r hr=>?_⟩
  obtain⟨m,rfl⟩:∃ m,n=m+1:=⟨n-1,qB⟩
  have e1:=h1 m qB (behind 38 3 xs++r) (E5 _);have e2:=h2 m qB r hr;simp only[behind,List.cons_append,zz,prs,e1,e2,List.foldl_cons]
theorem nM (xs:List Fm) (r:List UInt8) (hr:fH 1 r):fH 2 (behind 124 2 xs++r):=by
 cases xs with
 | nil=>exact hr.up qB
 | cons x xs=>exact⟨fun _=>by simp[behind],fun e=>by omega,fun e=>by omega⟩
theorem Ey (xs:List Fm):∀ acc,(∀ x∈xs,Prs 2 x (x.txt 2))→∃ N,∀ n,N≤n→∀ r,fH 1 r→prs n 5 acc (behind 124 2 xs++r)=some (xs.foldl Fm.or acc,r):=by
 induction xs with
 | nil=>
  intro acc _;refine⟨1,fun n hn r hr=>?_⟩
  obtain⟨m,rfl⟩:∃ m,n=m+1:=⟨n-1,qB⟩
  exact Ez m acc r (hr.2.1 qB)
 | cons x xs ih=>
  intro acc h;obtain⟨N1,h1⟩:=h x (List.mem_cons_self ..);obtain⟨N2,h2⟩:=ih (Fm.or acc x) (fun y hy=>h y (zw _ hy));refine⟨max N1 N2+1,fun n hn r hr=>?_⟩
  obtain⟨m,rfl⟩:∃ m,n=m+1:=⟨n-1,qB⟩
  have e1:=h1 m qB (behind 124 2 xs++r) (nM xs r hr);have e2:=h2 m qB r hr;simp only[behind,List.cons_append,zz,prs,e1,e2,List.foldl_cons]
theorem BC (t:Fm) (hw:t.wf):Prs 0 t t.body:=by
 have:=(oK Prs
  (fun t hw hl hs=>by
   refine mg (P:=fun u X=>(∀ x:Fm,x.wf→x.enc.length<u.enc.length→Prs 3 x (x.txt 3))→Prs 3 u X) t hw hl ?_ ?_ ?_ ?_ ?_ ?_ (fun _ _ _=>trivial) hs
   ·intro v hv _
    refine⟨1,fun n hn r _=>?_⟩
    obtain⟨m,rfl⟩:∃ m,n=m+1:=⟨n-1,qB⟩
    have hv':v=0∨v=1∨v=2∨v=3∨v=4∨v=5:=qB
    rcases hv' with rfl | rfl | rfl | rfl | rfl | rfl<;>rfl
   ·intro _
    refine⟨1,fun n hn r _=>?_⟩
    obtain⟨m,rfl⟩:∃ m,n=m+1:=⟨n-1,qB⟩
    rfl
   ·intro _
    refine⟨1,fun n hn r _=>?_⟩
    obtain⟨m,rfl⟩:∃ m,n=m+1:=⟨n-1,qB⟩
    rfl
   ·intro a ha hl h
    obtain⟨N,h⟩:=h a ha hl;refine⟨N+1,fun n hn r hr=>?_⟩
    obtain⟨m,rfl⟩:∃ m,n=m+1:=⟨n-1,qB⟩
    have e:=h m qB r hr;simp only[List.cons_append,prs,e]
   ·intro a ha hl h
    obtain⟨N,h⟩:=h a ha hl;refine⟨N+1,fun n hn r hr=>?_⟩
    obtain⟨m,rfl⟩:∃ m,n=m+1:=⟨n-1,qB⟩
    have e:=h m qB r hr;simp only[List.cons_append,prs,e]
   ·intro a ha hl h
    obtain⟨N,h⟩:=h a ha hl;refine⟨N+1,fun n hn r hr=>?_⟩
    obtain⟨m,rfl⟩:∃ m,n=m+1:=⟨n-1,qB⟩
    have e:=h m qB r hr
    simp only[List.cons_append,prs,e])
  (fun t h=>by
   obtain⟨N,h⟩:=h;refine⟨N+1,fun n hn r hr=>?_⟩
   obtain⟨m,rfl⟩:∃ m,n=m+1:=⟨n-1,qB⟩
   have e:=h m qB (41::r) ⟨fun _=>by simp,fun _=>by simp,fun _=>by simp⟩
   simp only[List.cons_append,zz,List.nil_append,prs,e])
  (fun x0 xs h hs=>by
   obtain⟨N1,h1⟩:=h;obtain⟨N2,h2⟩:=Ew xs x0 hs;refine⟨max N1 N2+1,fun n hn r hr=>?_⟩
   obtain⟨m,rfl⟩:∃ m,n=m+1:=⟨n-1,qB⟩
   have e1:=h1 m qB (behind 38 3 xs++r) (E5 _);have e2:=h2 m qB r hr
   simp only[zz,prs,e1,e2])
  (fun x0 xs h hs=>by
   obtain⟨N1,h1⟩:=h;obtain⟨N2,h2⟩:=Ey xs x0 hs;refine⟨max N1 N2+1,fun n hn r hr=>?_⟩
   obtain⟨m,rfl⟩:∃ m,n=m+1:=⟨n-1,qB⟩
   have e1:=h1 m qB (behind 124 2 xs++r) (nM xs r hr);have e2:=h2 m qB r hr
   simp only[zz,prs,e1,e2])
  (fun t X h=>by
   obtain⟨N,h⟩:=h;refine⟨N+1,fun n hn r hr=>?_⟩
   obtain⟨m,rfl⟩:∃ m,n=m+1:=⟨n-1,qB⟩
   have e:=h m qB r (hr.up qB);have eE:=hr.2.2 rfl;simp only[prs,e]
   cases r with
   | nil=>rfl
   | cons c r=>
    have hc:c≠62:=fun e=>eE (by rw[e];rfl)
    split
    ·rename_i he;simp at he;exact absurd he.2.1 hc
    ·rename_i he;simp at he;obtain⟨rfl,rfl⟩:=he;rfl
    ·rename_i he;simp at he)
  (fun a b h1 h2=>by
   obtain⟨N1,h1⟩:=h1;obtain⟨N2,h2⟩:=h2;refine⟨max N1 N2+1,fun n hn r hr=>?_⟩
   obtain⟨m,rfl⟩:∃ m,n=m+1:=⟨n-1,qB⟩
   have e1:=h1 m qB (62::(b.body++r)) ⟨fun _=>by simp,fun _=>by simp,fun e=>by omega⟩;have e2:=h2 m qB r hr
   simp only[zz,List.cons_append,prs,e1,e2])
  t.enc.length t (zm _) hw).1
 rwa[txt0] at this
theorem Dn {t u:Fm} (ht:t.wf) (hu:u.wf) (h:t.body=u.body):t=u:=by
 obtain⟨N1,h1⟩:=BC t ht;obtain⟨N2,h2⟩:=BC u hu;have e1:=h1 (max N1 N2) qB [] ⟨fun _=>by simp,fun _=>by simp,fun _=>by simp⟩;have e2:=h2 (max N1 N2) qB [] ⟨fun _=>by simp,fun _=>by simp,fun _=>by simp⟩;rw[h,e2] at e1
 simp at e1
 exact e1.symm
theorem gB (b:Bool) (s:List UInt8):(par b s).length≤s.length+2:=by unfold par;split<;>simp
theorem xr:∀ t:Fm,t.body.length+3≤5*t.enc.length:=by
 intro t
 induction t with
 | var v=>simp[body,enc]
 | fls=>simp[body,enc]
 | and a b iha ihb=>
  have h1:=gB (decide (a.lev<2)) a.body;have h2:=gB (decide (b.lev<3)) b.body;simp only[body,enc,ze,zh];omega
 | or a b iha ihb=>
  have h1:=gB (decide (a.lev<1)) a.body;have h2:=gB (decide (b.lev<2)) b.body;simp only[body,enc,ze,zh];omega
 | imp a b iha ihb=>
  have h1:=gB (decide (a.lev<1)) a.body;have h2:=gB (decide (a.lev<3)) a.body;have hb:=enc_pos b;simp only[body,enc,ze,zh]
  split
  ·split
   ·simp;omega
   ·simp only[zh];omega
  ·simp only[ze,zh];omega
 | box a iha=>
  have h2:=gB (decide (a.lev<3)) a.body;simp only[body,enc,zh];omega
 | dia a iha=>
  have h2:=gB (decide (a.lev<3)) a.body;simp only[body,enc,zh];omega
theorem my (t:Fm):0<t.body.length:=by
 cases t with
 | imp a b=>
  simp only[body]
  split
  ·split<;>simp
  ·simp only[ze,zh];omega
 | _=>simp only[body,ze,zh];omega
end
section
open Go.RowKit
theorem Av (zs:List (List UInt8)):(List.range zs.length).map (zs.toArray[·]!)=zs:=by
 apply List.ext_getElem
 ·simp
 ·intro i h1 h2
  simp at h1
  simp[h1]
theorem pB (zs:List (List UInt8)):(Lib.compact zs).Sublist zs:=by
 have h:((List.range zs.length).filter (Lib.keeps zs.toArray)).Sublist (List.range zs.length):=List.filter_sublist;have h2:=h.map (zs.toArray[·]!);rw[Av] at h2;exact h2
theorem yt (zs:List (List UInt8)) (j:Nat) (hj:j<zs.length):zs.toArray[j]! ∈ Lib.compact zs:=by
 induction j with
 | zero=>exact List.mem_map.2 ⟨0,List.mem_filter.2 ⟨List.mem_range.2 hj,by simp[Lib.keeps]⟩,rfl⟩
 | succ j ih=>
  cases hk:Lib.keeps zs.toArray (j+1)
  ·have:zs.toArray[j+1]! = zs.toArray[j]! := by simpa [Lib.keeps] using hk
   rw[this];exact ih qB
  ·exact List.mem_map.2 ⟨j+1,List.mem_filter.2 ⟨List.mem_range.2 hj,hk⟩,rfl⟩
theorem xw (zs:List (List UInt8)) (x:List UInt8):x∈Lib.compact zs↔x∈zs:=by
 constructor
 ·exact fun h=>(pB zs).subset h
 ·intro h
  obtain⟨j,hj,rfl⟩:=List.getElem_of_mem h;have:=yt zs j hj;rwa[getElem!_pos _ _ (by simpa using hj),List.getElem_toArray] at this
theorem oP (zs:List (List UInt8)) (x:List UInt8):x∈du zs↔x∈zs:=by
 rw[du,xw];exact(List.mergeSort_perm zs _).mem_iff
end
def Asc (l:List (List UInt8)):Prop:=l.Pairwise (· < ·)
theorem ek (a:List UInt8):¬a<a:=List.lt_irrefl a
theorem jc {a b c:List UInt8} (h:a<b) (k:b<c):a<c:=List.lt_trans h k
theorem rm {a b:List UInt8} (h:¬a<b) (k:a≠b):b<a:=by
 rcases Std.lt_trichotomy (α:=List UInt8) a b with h1 | h1 | h1
 ·exact absurd h1 h
 ·exact absurd h1 k
 ·exact h1
theorem Fe {a b:List UInt8}:a≤b↔¬b<a:=Iff.rfl
theorem Asc.ext:∀ {l m:List (List UInt8)},Asc l→Asc m→(∀ x,x∈l↔x∈m)→l=m
 | [],[],_,_,_=>rfl
 | [],y::m,_,_,h=>absurd ((h y).2 (List.mem_cons_self ..)) qD
 | x::l,[],_,_,h=>absurd ((h x).1 (List.mem_cons_self ..)) qD
 | x :: l,y::m,h1,h2,h=>by
  have a1:=List.pairwise_cons.1 h1;have a2:=List.pairwise_cons.1 h2;have hx:=(h x).1 (List.mem_cons_self ..);have hy:=(h y).2 (List.mem_cons_self ..)
  have x7:x=y:=by
   rcases List.mem_cons.1 hx with e | hx'
   ·exact e
   ·rcases List.mem_cons.1 hy with e | hy'
    ·exact e.symm
    ·exact absurd (jc (a2.1 x hx') (a1.1 y hy')) (ek _)
  subst x7
  rw[Asc.ext (l:=l) (m:=m) a1.2 a2.2 (fun z=>by
   have hz:=h z;constructor
   ·intro h9
    have eE:z≠x:=fun e=>by subst e;exact ek _ (a1.1 z h9)
    have:=hz.1 (zw _ h9)
    rcases List.mem_cons.1 this with e | e
    ·exact absurd e eE
    ·exact e
   ·intro x6
    have eE:z≠x:=fun e=>by subst e;exact ek _ (a2.1 z x6)
    have:=hz.2 (zw _ x6)
    rcases List.mem_cons.1 this with e | e
    ·exact absurd e eE
    ·exact e)]
def gS:List (List UInt8)→List UInt8→List (List UInt8)
 | [],x=>[x]
 | y::l,x=>if y<x then y::gS l x else if y=x then y::l else x::y::l
theorem kh:∀ (l:List (List UInt8)) (x z:List UInt8),z∈gS l x↔z∈l∨z=x
 | [],x,z=>by simp[gS]
 | y :: l,x,z=>by
  unfold gS
  split
  ·rw[List.mem_cons,kh l x z,List.mem_cons,or_assoc]
  ·split
   ·rename_i e
    subst e;constructor
    ·exact .inl
    ·rintro(h | h)
     ·exact h
     ·subst h;exact List.mem_cons_self ..
   ·rw[List.mem_cons,or_comm]
theorem rS:∀ {l:List (List UInt8)} (x:List UInt8),Asc l→Asc (gS l x)
 | [],x,_=>by simp[gS,Asc]
 | y :: l,x,h=>by
  have a:=List.pairwise_cons.1 h;unfold gS
  split
  ·rename_i hlt
   refine List.pairwise_cons.2 ⟨fun z hz=>?_,rS x a.2⟩
   rcases(kh l x z).1 hz with h1 | h1
   ·exact a.1 z h1
   ·subst h1;exact hlt
  ·rename_i hlt
   split
   ·exact h
   ·rename_i hne
    have eE:=rm hlt hne;refine List.pairwise_cons.2 ⟨fun z hz=>?_,h⟩
    rcases List.mem_cons.1 hz with e | e
    ·subst e;exact eE
    ·exact jc eE (a.1 z e)
theorem Bj:∀ (l:List (List UInt8)) (x:List UInt8) (k:Nat),k≤l.length→(∀ j (h:j<l.length),j<k→l[j]<x)→(∀ h:k<l.length,¬l[k]<x)→
  gS l x=if l[k]? = some x then l else l.take k++[x]++l.drop k
 | [],x,k,hk,_,_=>by
  obtain rfl:k=0:=by simpa using hk
  simp[gS]
 | y::l,x,0,_,_,h=>by
  have h0:=h qD;simp only[zj] at h0;unfold gS;rw[if_neg h0];simp only[List.getElem?_cons_zero,Option.some.injEq,List.take_zero,List.nil_append,List.drop_zero]
  split<;>rfl
 | y::l,x,k+1,hk,h1,h2=>by
  have h0:=h1 0 qD qB;simp only[zj] at h0;unfold gS
  rw[if_pos h0,Bj l x k (by simpa using hk) (fun j hj h9=>by
   have:=h1 (j+1) (by simpa using hj) qB
   simpa using this) (fun eE=>by
   have:=h2 (by simpa using eE)
   simpa using this)]
  simp only[List.getElem?_cons_succ,List.take_succ_cons,List.drop_succ_cons]
  split<;>simp
theorem CP (bs:List (List UInt8)):(bs.mergeSort fun x y=>decide (x≤y)).Pairwise (· ≤ ·):=by
 have h:=List.pairwise_mergeSort (le:=fun x y:List UInt8=>decide (x≤y)) (fun a b c h1 h2=>by
  simp only[decide_eq_true_eq] at*
  exact Std.le_trans h1 h2) (fun a b=>by
  simp only[Bool.or_eq_true,decide_eq_true_eq]
  exact Std.le_total) bs
 exact h.imp (fun h=>by simpa using h)
theorem xv {zs:List (List UInt8)} (h:zs.Pairwise (· ≤ ·)):Asc (Lib.compact zs):=by
 unfold Lib.compact Lib.compactUpTo Asc;rw[List.pairwise_map,List.pairwise_filter,List.pairwise_iff_getElem];intro i j hi hj x7;simp only[List.length_range] at hi hj;simp only[List.getElem_range];intro _ hk
 have eE:∀ p q,p≤q→q<zs.length→zs.toArray[p]! ≤ zs.toArray[q]! := fun p q x6 hq=>by
  rcases Nat.eq_or_lt_of_le x6 with e | e
  ·subst e;exact Std.le_refl _
  ·have:=List.pairwise_iff_getElem.1 h p q qB hq e
   simpa [hq,show p<zs.length by omega] using this
 have h1:=eE i (j-1) qB qB;have h3:=eE (j-1) j qB hj
 have h9:zs.toArray[j]! ≠ zs.toArray[j-1]! := by
  unfold Lib.keeps at hk
  rcases of_decide_eq_true hk with e | e
  ·omega
  ·exact e
 have h4:=rm (Fe.1 h3) h9
 by_cases e:zs.toArray[i]! = zs.toArray[j-1]!
 ·rw[e];exact h4
 ·exact jc (rm (Fe.1 h1) (Ne.symm e)) h4
theorem oO (bs:List (List UInt8)):Asc (du bs):=xv (CP bs)
section
open Go.RowKit
theorem A4 (s:ByteArray):(bts s).length=s.size:=rfl
theorem a7 {t:Fm} {l:Nat} {s:ByteArray} (h:bts s=t.txt l) (hl:t.enc.length≤100000000):s.size≤600000000:=by
 have h1:=gB (decide (t.lev<l)) t.body;have h2:=xr t;rw[←A4,h];unfold Fm.txt;omega
def jJ (t:Fm):Prop:=t.enc.length≤100000000→∀ (l:Nat) (k:Int),k=(l:Int)→∀ (v:Value) (w:World),Nds w v t.enc→
 Calls Tryz.prog 199 #[v,.int .i64 k] w fun e w'=>∃ s,e=.returned (.string s)∧bts s=t.txt l∧aa w w'
def ie (t:Fm):Prop:=t.enc.length≤100000000→∀ (k:Int),¬((t.lev:Int)<k)→∀ (v:Value) (w:World),Nds w v t.enc→
 Calls Tryz.prog 199 #[v,.int .i64 k] w fun e w'=>∃ s,e=.returned (.string s)∧bts s=t.body∧aa w w'
theorem jJ.of {t:Fm} (h:ie t):jJ t:=by
 intro hL l k hk v w hv
 by_cases hl:(t.lev:Int)<k
 ·have hb:=hid (h hL 0 qB v w hv)
  have hr:t.txt l=40::(t.body++[41]):=by simp only[Fm.txt,Fm.par];rw[decide_eq_true qB];rfl
  rw[hr];clear hr hk;go_enter Tryz.func199,Tryz.ntmps199;go_wp2_with fail;refine(bG t _ _ hv).mono ?_;rintro e w' ⟨rfl,rfl⟩;go_wp2_with fail;refine hb.out.mono ?_;rintro e w1 ⟨s,rfl,hs,k1⟩;have z1:=a7 (l:=0) (by rw[Fm.txt0];exact hs) hL;go_wp2_with fail;go_ret;exact⟨_,rfl,by simp only[bt,hs];rfl,k1⟩
 ·have hr:t.txt l=t.body:=by simp only[Fm.txt,Fm.par];rw[decide_eq_false qB];rfl
  rw[hr];exact h hL k hl v w hv
theorem FK (x y:Fm) (hx:jJ x) (hy:jJ y):ie (.and x y):=by
 intro hL k hk v w hv;simp only[Fm.enc,zh,ze] at hL;have x6:=hv;obtain⟨b,off,n,cap,rfl,h0,h1,h2,h3,hc,_⟩:=hv.root
 replace hc:w.cell? ⟨b,off,none⟩=some (.int .i64 2):=hc
 have HX:=hid (hx qB);clear hx;have HY:=hid (hy qB);clear hy;go_enter Tryz.func199,Tryz.ntmps199;go_wp2_with fail;refine(bG _ _ _ hv).mono ?_;rintro e w' ⟨rfl,rfl⟩;go_wp2_with fail;refine(bu _ _ x y.enc _ _ x6 rfl).mono ?_;rintro e w' ⟨v1,rfl,x7,rfl⟩;go_wp2_with fail;refine(HX.out 2 _ rfl _ _ x7).mono ?_;rintro e w1 ⟨s1,rfl,eE,k1⟩;have z1:=a7 eE qB;go_wp2_with fail;refine(dt _ _ x y _ _ (x6.keeps k1) rfl).mono ?_;rintro e w' ⟨v2,rfl,x8,rfl⟩;go_wp2_with fail;refine(HY.out 3 _ rfl _ _ x8).mono ?_;rintro e w2 ⟨s2,rfl,h9,k2⟩;have z2:=a7 h9 qB;go_wp2_with fail;go_ret;exact⟨_,rfl,by simp only[bt,eE,h9,Fm.body,Fm.txt,zz];rfl,k1.trans k2⟩
theorem Iw (x y:Fm) (hx:jJ x) (hy:jJ y):ie (.or x y):=by
 intro hL k hk v w hv;simp only[Fm.enc,zh,ze] at hL;have x6:=hv;obtain⟨b,off,n,cap,rfl,h0,h1,h2,h3,hc,_⟩:=hv.root
 replace hc:w.cell? ⟨b,off,none⟩=some (.int .i64 3):=hc
 have HX:=hid (hx qB);clear hx;have HY:=hid (hy qB);clear hy;go_enter Tryz.func199,Tryz.ntmps199;go_wp2_with fail;refine(bG _ _ _ hv).mono ?_;rintro e w' ⟨rfl,rfl⟩;go_wp2_with fail;refine(bu _ _ x y.enc _ _ x6 rfl).mono ?_;rintro e w' ⟨v1,rfl,x7,rfl⟩;go_wp2_with fail;refine(HX.out 1 _ rfl _ _ x7).mono ?_;rintro e w1 ⟨s1,rfl,eE,k1⟩;have z1:=a7 eE qB;go_wp2_with fail;refine(dt _ _ x y _ _ (x6.keeps k1) rfl).mono ?_;rintro e w' ⟨v2,rfl,x8,rfl⟩;go_wp2_with fail;refine(HY.out 2 _ rfl _ _ x8).mono ?_;rintro e w2 ⟨s2,rfl,h9,k2⟩;have z2:=a7 h9 qB;go_wp2_with fail;go_ret;exact⟨_,rfl,by simp only[bt,eE,h9,Fm.body,Fm.txt,zz];rfl,k1.trans k2⟩
theorem FL (x:Fm) (hx:jJ x):ie (.box x):=by
 intro hL k hk v w hv;simp only[Fm.enc,zh] at hL;have h9:=hv;obtain⟨b,off,n,cap,rfl,h0,h1,h2,h3,hc,x7⟩:=hv.root
 replace hc:w.cell? ⟨b,off,none⟩=some (.int .i64 5):=hc
 have HX:=hid (hx qB);clear hx;go_enter Tryz.func199,Tryz.ntmps199;go_wp2_with fail;refine(bG _ _ _ hv).mono ?_;rintro e w' ⟨rfl,rfl⟩;go_wp2_with fail;refine(bu _ ⟨5,0⟩ x [] _ _ h9 (by simp[Fm.enc])).mono ?_;rintro e w' ⟨v1,rfl,x6,rfl⟩;go_wp2_with fail;refine(HX.out 3 _ rfl _ _ x6).mono ?_;rintro e w1 ⟨s1,rfl,eE,k1⟩;have z1:=a7 eE qB;go_wp2_with fail;go_ret;exact⟨_,rfl,by simp only[bt,eE,Fm.body,Fm.txt];rfl,k1⟩
theorem FM (x:Fm) (hx:jJ x):ie (.dia x):=by
 intro hL k hk v w hv;simp only[Fm.enc,zh] at hL;have h9:=hv;obtain⟨b,off,n,cap,rfl,h0,h1,h2,h3,hc,x7⟩:=hv.root
 replace hc:w.cell? ⟨b,off,none⟩=some (.int .i64 6):=hc
 have HX:=hid (hx qB);clear hx;go_enter Tryz.func199,Tryz.ntmps199;go_wp2_with fail;refine(bG _ _ _ hv).mono ?_;rintro e w' ⟨rfl,rfl⟩;go_wp2_with fail;refine(bu _ ⟨6,0⟩ x [] _ _ h9 (by simp[Fm.enc])).mono ?_;rintro e w' ⟨v1,rfl,x6,rfl⟩;go_wp2_with fail;refine(HX.out 3 _ rfl _ _ x6).mono ?_;rintro e w1 ⟨s1,rfl,eE,k1⟩;have z1:=a7 eE qB;go_wp2_with fail;go_ret;exact⟨_,rfl,by simp only[bt,eE,Fm.body,Fm.txt];rfl,k1⟩
theorem FN:ie .fls:=by
 intro hL k hk v w hv;simp only[Fm.enc,zh] at hL;have h9:=hv;obtain⟨b,off,n,cap,rfl,h0,h1,h2,h3,hc,eE⟩:=hv.root
 replace hc:w.cell? ⟨b,off,none⟩=some (.int .i64 1):=hc
 go_enter Tryz.func199,Tryz.ntmps199;go_wp2_with fail;refine(bG _ _ _ hv).mono ?_;rintro e w' ⟨rfl,rfl⟩;go_wp2_with fail;go_ret;exact⟨_,rfl,rfl,aa.refl _⟩
theorem FO (x y:Fm) (hf:y.isFls=false) (hx:jJ x) (hy:jJ y):ie (.imp x y):=by
 intro hL k hk v w hv;simp only[Fm.enc,zh,ze] at hL;have eE:=hv;obtain⟨b,off,n,cap,rfl,h0,h1,h2,h3,hc,x9⟩:=hv.root
 replace hc:w.cell? ⟨b,off,none⟩=some (.int .i64 4):=hc
 have HX:=hid (hx qB);clear hx;have HY:=hid (hy qB);clear hy
 have hB:(Fm.imp x y).body=x.txt 1++62::y.body:=by simp[Fm.body,Fm.txt,hf]
 have hn:=fo (.imp x y) _ _ eE;rw[lo,hf] at hn;have HN:=hid hn;clear hn;have HB:=hid hB;clear hB hf;go_enter Tryz.func199,Tryz.ntmps199;go_wp2_with fail;refine(bG _ _ _ hv).mono ?_;rintro e w' ⟨rfl,rfl⟩;go_wp2_with fail;refine HN.out.mono ?_;rintro e w' ⟨rfl,rfl⟩;go_wp2_with fail;refine(bu _ _ x y.enc _ _ eE rfl).mono ?_;rintro e w' ⟨v1,rfl,x7,rfl⟩;go_wp2_with fail;refine(HX.out 1 _ rfl _ _ x7).mono ?_;rintro e w1 ⟨s1,rfl,h9,k1⟩;have z1:=a7 h9 qB;go_wp2_with fail;refine(dt _ _ x y _ _ (eE.keeps k1) rfl).mono ?_;rintro e w' ⟨v2,rfl,x8,rfl⟩;go_wp2_with fail;refine(HY.out 0 _ rfl _ _ x8).mono ?_;rintro e w2 ⟨s2,rfl,x6,k2⟩;have z2:=a7 x6 qB;go_wp2_with fail;go_ret;exact⟨_,rfl,by rw[HB.out];simp only[bt,h9,x6,Fm.txt0,zz];rfl,k1.trans k2⟩
theorem FQ (x y:Fm) (hf:y.isFls=true) (eE:x.isFls=true):ie (.imp x y):=by
 intro hL k hk v w hv;simp only[Fm.enc,zh,ze] at hL;have h9:=hv;obtain⟨b,off,n,cap,rfl,h0,h1,h2,h3,hc,x8⟩:=hv.root
 replace hc:w.cell? ⟨b,off,none⟩=some (.int .i64 4):=hc
 have hB:(Fm.imp x y).body=[84]:=by simp[Fm.body,hf,eE]
 have hn:=fo (.imp x y) _ _ h9;rw[lo,hf] at hn;have HN:=hid hn;clear hn;have HB:=hid hB;clear hB hf;have x6:=hid eE;clear eE;go_enter Tryz.func199,Tryz.ntmps199;go_wp2_with fail;refine(bG _ _ _ hv).mono ?_;rintro e w' ⟨rfl,rfl⟩;go_wp2_with fail;refine HN.out.mono ?_;rintro e w' ⟨rfl,rfl⟩;go_wp2_with fail;refine(bu _ _ x y.enc _ _ h9 rfl).mono ?_;rintro e w' ⟨v1,rfl,x7,rfl⟩;go_wp2_with fail;refine(js x _ _ x7).mono ?_;rintro e w' ⟨rfl,rfl⟩;rw[x6.out];go_wp2_with fail;go_ret;exact⟨_,rfl,by rw[HB.out];rfl,aa.refl _⟩
theorem FP (x y:Fm) (hf:y.isFls=true) (h9:x.isFls=false) (hx:jJ x):ie (.imp x y):=by
 intro hL k hk v w hv;simp only[Fm.enc,zh,ze] at hL;have eE:=hv;obtain⟨b,off,n,cap,rfl,h0,h1,h2,h3,hc,H7⟩:=hv.root
 replace hc:w.cell? ⟨b,off,none⟩=some (.int .i64 4):=hc
 have HX:=hid (hx qB);clear hx
 have hB:(Fm.imp x y).body=126::x.txt 3:=by simp[Fm.body,Fm.txt,hf,h9]
 have hn:=fo (.imp x y) _ _ eE;rw[lo,hf] at hn;have HN:=hid hn;clear hn;have HB:=hid hB;clear hB hf;have x7:=hid h9;clear h9;go_enter Tryz.func199,Tryz.ntmps199;go_wp2_with fail;refine(bG _ _ _ hv).mono ?_;rintro e w' ⟨rfl,rfl⟩;go_wp2_with fail;refine HN.out.mono ?_;rintro e w' ⟨rfl,rfl⟩;go_wp2_with fail;refine(bu _ _ x y.enc _ _ eE rfl).mono ?_;rintro e w' ⟨v1,rfl,x8,rfl⟩;go_wp2_with fail;refine(js x _ _ x8).mono ?_;rintro e w' ⟨rfl,rfl⟩;rw[x7.out];go_wp2_with fail;refine(bu _ _ x y.enc _ _ eE rfl).mono ?_;rintro e w' ⟨v2,rfl,x9,rfl⟩;go_wp2_with fail;refine(HX.out 3 _ rfl _ _ x9).mono ?_;rintro e w1 ⟨s1,rfl,x6,k1⟩;have z1:=a7 x6 qB;go_wp2_with fail;go_ret;exact⟨_,rfl,by rw[HB.out];simp only[bt,x6];rfl,k1⟩
theorem FR (i:Nat) (hi:i<6):ie (.var i):=by
 intro hL k hk v w hv;simp only[Fm.enc,zh] at hL;have x6:=hv;obtain⟨b,off,n,cap,rfl,h0,h1,h2,h3,hc,eE⟩:=hv.root
 replace hc:w.cell? ⟨b,off,none⟩=some (.int .i64 0):=hc
 replace eE:w.cell? ⟨b,off+1,none⟩=some (.int .i64 (i:Int)):=eE
 have h9:i=0∨i=1∨i=2∨i=3∨i=4∨i=5:=qB
 rcases h9 with rfl | rfl | rfl | rfl | rfl | rfl
 ·replace eE:w.cell? ⟨b,off+1,none⟩=some (.int .i64 0):=eE
  go_enter Tryz.func199,Tryz.ntmps199;go_wp2_with fail;refine(bG _ _ _ hv).mono ?_;rintro e w' ⟨rfl,rfl⟩;go_wp2_with fail
  go_quiet (fail)
  go_wp2_with fail;go_ret;refine⟨_,rfl,?_,?_⟩
  ·decide
  ·exact aa.drewN (aa.refl _) _
 ·replace eE:w.cell? ⟨b,off+1,none⟩=some (.int .i64 1):=eE
  go_enter Tryz.func199,Tryz.ntmps199;go_wp2_with fail;refine(bG _ _ _ hv).mono ?_;rintro e w' ⟨rfl,rfl⟩;go_wp2_with fail
  go_quiet (fail)
  go_wp2_with fail;go_ret;refine⟨_,rfl,?_,?_⟩
  ·decide
  ·exact aa.drewN (aa.refl _) _
 ·replace eE:w.cell? ⟨b,off+1,none⟩=some (.int .i64 2):=eE
  go_enter Tryz.func199,Tryz.ntmps199;go_wp2_with fail;refine(bG _ _ _ hv).mono ?_;rintro e w' ⟨rfl,rfl⟩;go_wp2_with fail
  go_quiet (fail)
  go_wp2_with fail;go_ret;refine⟨_,rfl,?_,?_⟩
  ·decide
  ·exact aa.drewN (aa.refl _) _
 ·replace eE:w.cell? ⟨b,off+1,none⟩=some (.int .i64 3):=eE
  go_enter Tryz.func199,Tryz.ntmps199;go_wp2_with fail;refine(bG _ _ _ hv).mono ?_;rintro e w' ⟨rfl,rfl⟩;go_wp2_with fail
  go_quiet (fail)
  go_wp2_with fail;go_ret;refine⟨_,rfl,?_,?_⟩
  ·decide
  ·exact aa.drewN (aa.refl _) _
 ·replace eE:w.cell? ⟨b,off+1,none⟩=some (.int .i64 4):=eE
  go_enter Tryz.func199,Tryz.ntmps199;go_wp2_with fail;refine(bG _ _ _ hv).mono ?_;rintro e w' ⟨rfl,rfl⟩;go_wp2_with fail
  go_quiet (fail)
  go_wp2_with fail;go_ret;refine⟨_,rfl,?_,?_⟩
  ·decide
  ·exact aa.drewN (aa.refl _) _
 ·replace eE:w.cell? ⟨b,off+1,none⟩=some (.int .i64 5):=eE
  go_enter Tryz.func199,Tryz.ntmps199;go_wp2_with fail;refine(bG _ _ _ hv).mono ?_;rintro e w' ⟨rfl,rfl⟩;go_wp2_with fail
  go_quiet (fail)
  go_wp2_with fail;go_ret;refine⟨_,rfl,?_,?_⟩
  ·decide
  ·exact aa.drewN (aa.refl _) _
theorem CX (t:Fm) (hw:t.wf):jJ t:=by
 induction t with
 | var i=>exact .of (FR i hw)
 | fls=>exact .of FN
 | and x y hx hy=>exact .of (FK x y (hx hw.1) (hy hw.2))
 | or x y hx hy=>exact .of (Iw x y (hx hw.1) (hy hw.2))
 | box x hx=>exact .of (FL x (hx hw))
 | dia x hx=>exact .of (FM x (hx hw))
 | imp x y hx hy=>
  cases hf:y.isFls
  ·exact .of (FO x y hf (hx hw.1) (hy hw.2))
  ·cases eE:x.isFls
   ·exact .of (FP x y hf eE (hx hw.1))
   ·exact .of (FQ x y hf eE)
theorem gR (t:Fm) (hw:t.wf) (hl:t.enc.length≤100000000) (v:Value) (w:World) (hv:Nds w v t.enc):
  Calls Tryz.prog 161 #[v] w fun e w'=>∃ s,e=.returned (.string s)∧bts s=t.body∧aa w w':=by
 have H:=hid (CX t hw hl 0 0 rfl v w hv);go_enter Tryz.func161,Tryz.ntmps161;go_wp2_with fail;refine H.out.mono ?_;rintro e w' ⟨s,rfl,hs,k⟩;go_wp2_with fail;go_ret;exact⟨s,rfl,by rw[hs,Fm.txt0],k⟩
def ae (ss:List ByteArray) (s:ByteArray):List ByteArray:=(gS (ss.map bts) (bts s)).map mkS
theorem qZ (s:ByteArray):mkS (bts s)=s:=da (gU _)
theorem ku (ss:List ByteArray):(ss.map bts).map mkS=ss:=by
 rw[List.map_map]
 conv=>rhs;rw[←List.map_id ss]
 apply List.map_congr_left;intro s _;exact qZ s
theorem mG (ss:List ByteArray) (s:ByteArray):(ae ss s).map bts=gS (ss.map bts) (bts s):=by
 unfold ae;rw[List.map_map]
 conv=>rhs;rw[←List.map_id (gS _ _)]
 apply List.map_congr_left;intro b _;exact gU b
theorem rT:∀ (l:List (List UInt8)) (x:List UInt8),(gS l x).length≤l.length+1∧l.length≤(gS l x).length∧0<(gS l x).length
 | [],x=>by simp[gS]
 | y::l,x=>by
  have ih:=rT l x;unfold gS
  split
  ·simp only[zh];omega
  ·split<;>simp only[zh]<;>omega
theorem aX (ss:List ByteArray) (s:ByteArray):(ae ss s).length≤ss.length+1∧0<(ae ss s).length:=by
 have:=rT (ss.map bts) (bts s);unfold ae;simp only[List.length_map] at*;omega
theorem ks (x s:ByteArray):Op.bytesLess x.toList s.toList=decide (bts x<bts s):=by
 rw[bytesLess_eq,jm,jm]
theorem Bk (ss:List ByteArray) (s:ByteArray) (k:Nat) (hk:k≤ss.length) (h1:∀ j (h:j<ss.length),j<k→bts ss[j]<bts s) (h2:∀ h:k<ss.length,¬bts ss[k]<bts s):
  ae ss s=if (∃ h:k<ss.length,ss[k]=s) then ss else ss.take k++[s]++ss.drop k:=by
 unfold ae;rw[Bj (ss.map bts) (bts s) k (by simpa using hk) (fun j h eE=>by simpa using h1 j (by simpa using h) eE) (fun h=>by simpa using h2 (by simpa using h))]
 by_cases he:∃ h:k<ss.length,ss[k]=s
 ·rw[if_pos he]
  obtain⟨h,e⟩:=he;rw[if_pos (by rw[List.getElem?_map,zn h,e];rfl),ku]
 ·rw[if_neg he,if_neg (fun h=>he (by
   rw[List.getElem?_map] at h
   rcases Nat.lt_or_ge k ss.length with hl | hl
   ·rw[zn hl] at h
    exact⟨hl,da (by simpa using h)⟩
   ·rw[List.getElem?_eq_none hl] at h;simp at h))]
  rw[List.map_append,List.map_append,←List.map_take,←List.map_drop,ku,ku];simp[qZ]
def xi (w:World) (B:Nat) (r:List ByteArray) (e:Ending) (w':World):Prop:=∃ b n c,e=.returned (.slice (some b) n c)∧aA w' B (.slice (some b) n c) r∧aa w w'
theorem fu (ss:List ByteArray) (b off n cap:Nat) (s:ByteArray) (B:Nat) (w:World) (hv:aA w B (.slice (some ⟨b,off,none⟩) n cap) ss) (hn:ss.length≤1000000) (hB:B≤w.heap.size):
  Calls Tryz.prog 54 #[.slice (some ⟨b,off,none⟩) n cap,.string s] w (xi w B (ae ss s)):=by
 have HV:=hid hv;have K0:=hv.strs qB;obtain⟨p',c',e,Lf,Le,Lc,_⟩:=K0.at
 cases e
 unfold maxLen at Le;have Ld:=hid K0;clear K0 hv;have x9:=hid Lc;clear Lc;have x6:=hid (Bk ss s);go_enter Tryz.func54,Tryz.ntmps54;go_wp2
 go_loop [5] (fun i'=>∃ k:Nat,k≤ss.length∧i'=.int .i64 k∧(∀ j (h:j<ss.length),j<k→bts ss[j]<bts s)) (fun i=>ss.length-(intOf i).toNat)
 case atStart=>exact⟨0,qB,rfl,fun j _ h=>by omega⟩
 case round=>
  obtain⟨k,hk,rfl,x7⟩:=hrel;have H8:=hid x7;clear x7
  by_cases H7:k<ss.length
  ·have KU:(k:Int)<ss.length:=qB
   obtain⟨b',off',e,hc⟩:=Ld.out.get k H7
   cases e
   have h9:=ks ss[k] s;have eE:=dT ss[k] s
   cases hless:Op.bytesLess ss[k].toList s.toList with
   | true=>
    rw[hless] at h9
    have HN:Hid (∀ j (h:j<ss.length),j<k+1→bts ss[j]<bts s):=hid (fun j h hj=>by
     by_cases e:j=k
     ·subst e;exact of_decide_eq_true h9.symm
     ·exact H8.out j h qB)
    clear h9 eE;generalize ss[k]=x at*;go_wp2
    go_round
    case rel=>exact⟨k+1,qB,by go_num,HN.out⟩
    case measure=>simp[intOf];omega
   | false=>
    rw[hless] at h9;have hI:=x6.out k hk H8.out (fun _=>of_decide_eq_false h9.symm)
    cases heq:(ss[k].toList==s.toList) with
    | true=>
     rw[heq] at eE;have HM:Hid (ae ss s=ss):=hid (by rw[hI,if_pos ⟨H7,da (of_decide_eq_true eE.symm)⟩]);clear h9 eE hI;generalize ss[k]=x at*;go_wp2;go_ret;exact⟨_,_,_,rfl,by rw[HM.out];exact HV.out,aa.refl _⟩
    | false=>
     rw[heq] at eE
     have HM:Hid (ae ss s=ss.take k++[s]++ss.drop k):=hid (by
      rw[hI,if_neg (fun ⟨_,e⟩=>of_decide_eq_false eE.symm (by rw[e]))])
     clear h9 eE hI;generalize ss[k]=x at*
     have H9:=hid (show au (w.alloc (.cells #[] 9)) (.slice (some ⟨b,off,none⟩) k cap) (ss.take k) from by
      have h1:=x9.out
      refine(ic (by simp;omega) (by unfold maxLen;omega) (qO h1 k) ⟨by simp;omega,by simp;omega⟩).keeps ((aa.refl w).alloc _))
     have KP:=hid (fun w3 (k3:aa w w3)=>(show au w3 (.slice (some ⟨b,off+k,none⟩) (ss.length-k) (cap-k)) (ss.drop k) from by
      have h1:=(show At w (some ⟨b,off+k,none⟩) ((aq ss).drop k) from x9.out.drop k rfl)
      exact(ic qD (by unfold maxLen;omega) (qN h1) ⟨by simp;omega,by simp;omega⟩).keeps k3))
     go_wp2_with (at_builtin;first
      | (refine iE rfl (.tmp 34) (.tmp 37) rfl w.heap.size _ [] rfl (aA.empty w) _ (ss.take k) rfl H9.out qD (by simp;omega) ?_;intro v2 w2 La KR KV;have k2:aa w w2:=((aa.refl w).alloc _).grown KR (fun q hq=>KV q hq);have Lh:=k2.size)
      | (refine iE rfl (.tmp 39) (.tmp 41) rfl w.heap.size _ ([]++ss.take k) rfl (La.keeps ((aa.refl w2).alloc _)) _ [s] rfl (au.lit1 w2 s) (by simp;omega) (by simp;omega) ?_;intro v3 w3 Lb KS KY;have k3:aa w w3:=(k2.alloc _).grown KS (fun q hq=>KY q hq);have Li:=k3.size)
      | (refine iE rfl (.tmp 43) (.tmp 46) rfl w.heap.size _ ([]++ss.take k++[s]) rfl Lb _ (ss.drop k) rfl (KP.out w3 k3) qB (by simp;omega) ?_;intro v4 w4 x8 KT KZ;have k4:aa w w4:=k3.grown KT (fun q hq=>KZ q hq)))
     go_ret;obtain⟨g4,c4,rfl⟩:=mZ x8 (by simp;omega);exact⟨_,_,_,rfl,by rw[HM.out];simpa using x8.mono hB,k4⟩
  ·have KU:¬((k:Int)<ss.length):=qB
   have HM:Hid (ae ss s=ss.take k++[s]++ss.drop k):=hid (by
    rw[x6.out k hk H8.out (fun h=>absurd h H7),if_neg (fun ⟨h,_⟩=>H7 h)])
   have H9:=hid (show au (w.alloc (.cells #[] 9)) (.slice (some ⟨b,off,none⟩) k cap) (ss.take k) from by
    have h1:=x9.out
    refine(ic (by simp;omega) (by unfold maxLen;omega) (qO h1 k) ⟨by simp;omega,by simp;omega⟩).keeps ((aa.refl w).alloc _))
   obtain⟨q,hq,Lg⟩:=Ic b off ss.length cap k (k:Int) rfl hk Lf
   have KP:=hid (fun w3 (k3:aa w w3)=>(show au w3 (.slice q (ss.length-k) (cap-k)) (ss.drop k) from by
    have h1:=hq w (aq ss) x9.out (by simp[aq])
    exact(ic qD (by unfold maxLen;omega) (qN h1) ⟨by simp;omega,by simp;omega⟩).keeps k3))
   clear hq
   go_wp2_with (at_builtin;first
    | (refine iE rfl (.tmp 34) (.tmp 37) rfl w.heap.size _ [] rfl (aA.empty w) _ (ss.take k) rfl H9.out qD (by simp;omega) ?_;intro v2 w2 La KR KV;have k2:aa w w2:=((aa.refl w).alloc _).grown KR (fun q hq=>KV q hq);have Lh:=k2.size)
    | (refine iE rfl (.tmp 39) (.tmp 41) rfl w.heap.size _ ([]++ss.take k) rfl (La.keeps ((aa.refl w2).alloc _)) _ [s] rfl (au.lit1 w2 s) (by simp;omega) (by simp;omega) ?_;intro v3 w3 Lb KS KY;have k3:aa w w3:=(k2.alloc _).grown KS (fun q hq=>KY q hq);have Li:=k3.size)
    | (refine iE rfl (.tmp 43) (.tmp 46) rfl w.heap.size _ ([]++ss.take k++[s]) rfl Lb _ (ss.drop k) rfl (KP.out w3 k3) qB (by simp;omega) ?_;intro v4 w4 x8 KT KZ;have k4:aa w w4:=k3.grown KT (fun q hq=>KZ q hq)))
   go_ret;obtain⟨g4,c4,rfl⟩:=mZ x8 (by simp;omega);exact⟨_,_,_,rfl,by rw[HM.out];simpa using x8.mono hB,k4⟩
open scoped Classical in
theorem lV (ss:List ByteArray) (x:ByteArray) (v:Value) (w:World) (hv:au w v ss):
  Calls Tryz.prog 104 #[v,.string x] w fun e w'=>e=.returned (.bool (decide (x∈ss)))∧w=w':=by
 obtain⟨p,cap,rfl,h1,h2,eE,h3⟩:=hv.at
 have hd:decide (x∈ss)=Lib.containsS (ss.take ss.length) x:=by
  rw[List.take_length,Bool.eq_iff_iff,Lib.containsS_iff];exact decide_eq_true_iff
 by_cases h0:ss.length=0
 ·obtain rfl:ss=[]:=List.eq_nil_of_length_eq_zero h0
  refine(Tryz.slices_Contains_string_empty p cap x w).mono ?_;rintro e w' ⟨rfl,rfl⟩;exact⟨qD,rfl⟩
 ·obtain⟨b,off,rfl,_⟩:=eE 0 (by simp[aq];omega)
  have hc:∀ j,j<ss.length→w.cell? ⟨b,off+j,none⟩=some (.string (ss.getD j ByteArray.empty)):=by
   intro j hj;obtain⟨b',off',hp,hc⟩:=eE j (by simpa [aq] using hj)
   cases hp
   rw[hc];simp[aq,List.getD_eq_getElem?_getD,hj]
  refine(Tryz.slices_Contains_string b off ss.length cap ss x w (zm _) qB hc).mono ?_;rintro e w' ⟨rfl,rfl⟩;exact⟨by rw[hd],rfl⟩
end
section
open Go.RowKit Go.Sort
theorem lD (ss tt:List ByteArray) (v u:Value) (w:World) (hv:au w v ss) (hu:au w u tt) (hl:ss.length+tt.length≤1000000000):
  Calls Tryz.prog 156 #[v,u] w fun e w'=>∃ v',e=.returned v'∧aA w' w.heap.size v' (fW ss tt)∧aa w w':=by
 obtain⟨p1,n1,c1,rfl⟩:∃ p n c,v=.slice p n c:=by obtain⟨p,c,e,_⟩:=hv.at;exact⟨p,_,c,e⟩
 obtain⟨p2,n2,c2,rfl⟩:∃ p n c,u=.slice p n c:=by obtain⟨p,c,e,_⟩:=hu.at;exact⟨p,_,c,e⟩
 have kl:=(aa.refl w).alloc (.cells #[.slice p1 n1 c1,.slice p2 n2 c2] 27);have hC:=pD [ss,tt] _ _ (tA.lit2 hv hu) (by simp[fl];omega);rw[show fl [ss,tt] [ss,tt].length=ss++tt from by simp[fl]] at hC
 have KZ:((ss++tt).map bts).length≤1000000000:=by simp;omega
 have HC:=hid hC;clear hC;go_enter Tryz.func156,Tryz.ntmps156;go_wp2_with fail;refine HC.out.mono ?_;rintro e w1 ⟨v1,rfl,H7,k1⟩
 replace H7:=H7.mono kl.size
 have kw:=kl.trans k1
 by_cases hn:v1=.slice none 0 0
 ·subst hn
  have h0:ss++tt=[]:=by
   obtain⟨p,c,e,_⟩:=At.of_own H7;injection e with _ e2 _;exact List.eq_nil_of_length_eq_zero e2.symm
  have hp:fW ss tt=[]:=by simp[fW,h0,du,Lib.compact,Lib.compactUpTo]
  have HP:=hid hp;clear hp h0;go_wp2_with fail;refine(Tryz.slices_Sort_string_none none 0 w1).mono ?_;rintro e w' ⟨rfl,rfl⟩;go_wp2_with fail;refine(Tryz.slices_Compact_string_empty none 0 _).mono ?_;rintro e w' ⟨rfl,rfl⟩;go_wp2_with fail;go_ret;exact⟨_,rfl,by rw[HP.out];exact aA.nil _ _,kw⟩
 ·have x8:w1.ownsRow w.heap.size 9 1 v1 (ss++tt).length (((ss++tt).map bts).map encStr):=by rw[←BY];exact H7
  obtain⟨g,cap,rfl,KT,KU,x9,K0,x7,hH⟩:=Lib.holds_of_ownsRow x8 hn;have eE:=Au ss tt
  have KP:(fW ss tt).length=(du ((ss++tt).map bts)).length:=by simp[fW]
  have KR:=hid eE;clear eE;have KS:=hid KP;clear KP;generalize hb:(ss++tt).map bts=bs at*;generalize KY:(ss++tt).length=n at*;have x6:=Tryz.slices_Sort_string g 0 cap bs w1 hH KU qB;rw[x7] at x6;have HS:=hid x6;clear x6;have HO:=hid x8;clear x8;clear hH H7 hb KY hn;have H8:n≤cap:=x9;go_wp2_with fail;refine HS.out.mono ?_;rintro e w2 ⟨rfl,nn,os,rfl⟩;have H9:=nF (nn:=nn) (os:=os) HO.out x7
  have KV:(bs.mergeSort fun x y=>decide (x≤y)).length=n:=by rw[List.length_mergeSort];exact x7
  have h9:=Tryz.slices_Compact_string g 0 cap (bs.mergeSort fun x y=>decide (x≤y)) _ H9 qB qB;rw[KV] at h9;have HK:=hid h9;clear h9 H9;have HE:=hid (fun q=>sX (w:=w) (nn:=nn) (q:=q) (os:=os) HO.out kw KT x7);generalize La:grow (putRow encStr (Sort.ahead w1 nn) g 0 (bs.mergeSort fun x y=>decide (x≤y)).toArray) os=w2 at*;go_wp2_with fail;refine HK.out.mono ?_;rintro e w3 ⟨rfl,q,rfl⟩;obtain⟨ho,hk⟩:=HE.out q;go_wp2_with fail;go_ret;refine⟨_,rfl,?_,hk⟩;unfold aA;rw[KR.out,KS.out];exact ho
end
end Go.Proofs.YtagoboblkadelaaGreat
