import Derived.Test.YtbccmdfdclomiaaGreatDoorHP6
/- own -/
namespace Go.Proofs.YtbccmdfdclomiaaGreatDoor
set_option maxRecDepth 20000
set_option maxHeartbeats 1000000
section
open Fm
def prs:Nat→Nat→Fm→List UInt8→Option (Fm×List UInt8)
 | 0,_,_,_=>none
 | n+1,0,_,X=>match prs n 1 fls X with
  | some (a,62::r)=>(match prs n 0 fls r with | some (b,r')=>some (imp a b,r') | none=>none)
  | some (a,r)=>some (a,r)
  | none=>none
 | n+1,1,_,X=>match prs n 2 fls X with | some (a,r)=>prs n 5 a r | none=>none
 | n+1,2,_,X=>match prs n 3 fls X with | some (a,r)=>prs n 4 a r | none=>none
 | n+1,3,_,X=>match X with
  | 126::r=>(match prs n 3 fls r with | some (a,r')=>some (imp a fls,r') | none=>none)
  | 91::93::r=>(match prs n 3 fls r with | some (a,r')=>some (box a,r') | none=>none)
  | 60::62::r=>(match prs n 3 fls r with | some (a,r')=>some (dia a,r') | none=>none)
  | 70::r=>some (fls,r)
  | 84::r=>some (imp fls fls,r)
  | 40::r=>(match prs n 0 fls r with | some (a,41::r')=>some (a,r') | _=>none)
  | c::r=>if 112≤c.toNat∧c.toNat<118 then some (var (c.toNat-112),r) else none
  | []=>none
 | n+1,4,acc,X=>match X with
  | 38::r=>(match prs n 3 fls r with | some (b,r')=>prs n 4 (.and acc b) r' | none=>none)
  | r=>some (acc,r)
 | n+1,_,acc,X=>match X with
  | 124::r=>(match prs n 2 fls r with | some (b,r')=>prs n 5 (.or acc b) r' | none=>none)
  | r=>some (acc,r)
def Prs (l:Nat) (t:Fm) (X:List UInt8):Prop:=∃ N,∀ n,N≤n→∀ r,stops l r→prs n l fls (X++r)=some (t,r)
theorem prs4_end (n:Nat) (acc:Fm) (r:List UInt8) (h:r.head? ≠ some 38):prs (n+1) 4 acc r=some (acc,r):=by
 cases r with
 | nil=>rfl
 | cons c r=>
  have hc:c≠38:=fun e=>h (by rw [e];rfl)
  simp [prs,hc]
theorem prs5_end (n:Nat) (acc:Fm) (r:List UInt8) (h:r.head? ≠ some 124):prs (n+1) 5 acc r=some (acc,r):=by
 cases r with
 | nil=>rfl
 | cons c r=>
  have hc:c≠124:=fun e=>h (by rw [e];rfl)
  simp [prs,hc]
theorem prs4_all (xs:List Fm):∀ acc,(∀ x∈xs,Prs 3 x (x.txt 3))→∃ N,∀ n,N≤n→∀ r,stops 2 r→prs n 4 acc (behind 38 3 xs++r)=some (xs.foldl Fm.and acc,r):=by
 induction xs with
 | nil=>
  intro acc _;refine ⟨1,fun n hn r hr=>?_⟩
  obtain ⟨m,rfl⟩:∃ m,n=m+1:=⟨n-1,by omega⟩
  exact prs4_end m acc r (hr.1 (by omega))
 | cons x xs ih=>
  intro acc h;obtain ⟨N1,h1⟩:=h x (List.mem_cons_self ..);obtain ⟨N2,h2⟩:=ih (Fm.and acc x) (fun y hy=>h y (List.mem_cons_of_mem _ hy));refine ⟨max N1 N2+1,fun n hn r hr=>?_⟩
  obtain ⟨m,rfl⟩:∃ m,n=m+1:=⟨n-1,by omega⟩
  have e1:=h1 m (by omega) (behind 38 3 xs++r) (stops3 _);have e2:=h2 m (by omega) r hr;simp only [behind,List.cons_append,List.append_assoc,prs,e1,e2,List.foldl_cons]
theorem stops_behind (xs:List Fm) (r:List UInt8) (hr:stops 1 r):stops 2 (behind 124 2 xs++r):=by
 cases xs with
 | nil=>exact hr.up (by omega)
 | cons x xs=>exact ⟨fun _=>by simp [behind],fun e=>by omega,fun e=>by omega⟩
theorem prs5_all (xs:List Fm):∀ acc,(∀ x∈xs,Prs 2 x (x.txt 2))→∃ N,∀ n,N≤n→∀ r,stops 1 r→prs n 5 acc (behind 124 2 xs++r)=some (xs.foldl Fm.or acc,r):=by
 induction xs with
 | nil=>
  intro acc _;refine ⟨1,fun n hn r hr=>?_⟩
  obtain ⟨m,rfl⟩:∃ m,n=m+1:=⟨n-1,by omega⟩
  exact prs5_end m acc r (hr.2.1 (by omega))
 | cons x xs ih=>
  intro acc h;obtain ⟨N1,h1⟩:=h x (List.mem_cons_self ..);obtain ⟨N2,h2⟩:=ih (Fm.or acc x) (fun y hy=>h y (List.mem_cons_of_mem _ hy));refine ⟨max N1 N2+1,fun n hn r hr=>?_⟩
  obtain ⟨m,rfl⟩:∃ m,n=m+1:=⟨n-1,by omega⟩
  have e1:=h1 m (by omega) (behind 124 2 xs++r) (stops_behind xs r hr);have e2:=h2 m (by omega) r hr;simp only [behind,List.cons_append,List.append_assoc,prs,e1,e2,List.foldl_cons]
theorem prs_all (t:Fm) (hw:t.wf):Prs 0 t t.body:=by
 have:=(reads_all Prs
  (fun t hw hl hs=>by
   refine lev3_cases (P:=fun u X=>(∀ x:Fm,x.wf→x.enc.length<u.enc.length→Prs 3 x (x.txt 3))→Prs 3 u X) t hw hl ?_ ?_ ?_ ?_ ?_ ?_ (fun _ _ _=>trivial) hs
   ·intro v hv _
    refine ⟨1,fun n hn r _=>?_⟩
    obtain ⟨m,rfl⟩:∃ m,n=m+1:=⟨n-1,by omega⟩
    have hv':v=0∨v=1∨v=2∨v=3∨v=4∨v=5:=by omega
    rcases hv' with rfl | rfl | rfl | rfl | rfl | rfl<;>rfl
   ·intro _
    refine ⟨1,fun n hn r _=>?_⟩
    obtain ⟨m,rfl⟩:∃ m,n=m+1:=⟨n-1,by omega⟩
    rfl
   ·intro _
    refine ⟨1,fun n hn r _=>?_⟩
    obtain ⟨m,rfl⟩:∃ m,n=m+1:=⟨n-1,by omega⟩
    rfl
   ·intro a ha hl h
    obtain ⟨N,h⟩:=h a ha hl;refine ⟨N+1,fun n hn r hr=>?_⟩
    obtain ⟨m,rfl⟩:∃ m,n=m+1:=⟨n-1,by omega⟩
    have e:=h m (by omega) r hr;simp only [List.cons_append,prs,e]
   ·intro a ha hl h
    obtain ⟨N,h⟩:=h a ha hl;refine ⟨N+1,fun n hn r hr=>?_⟩
    obtain ⟨m,rfl⟩:∃ m,n=m+1:=⟨n-1,by omega⟩
    have e:=h m (by omega) r hr;simp only [List.cons_append,prs,e]
   ·intro a ha hl h
    obtain ⟨N,h⟩:=h a ha hl;refine ⟨N+1,fun n hn r hr=>?_⟩
    obtain ⟨m,rfl⟩:∃ m,n=m+1:=⟨n-1,by omega⟩
    have e:=h m (by omega) r hr
    simp only [List.cons_append,prs,e])
  (fun t h=>by
   obtain ⟨N,h⟩:=h;refine ⟨N+1,fun n hn r hr=>?_⟩
   obtain ⟨m,rfl⟩:∃ m,n=m+1:=⟨n-1,by omega⟩
   have e:=h m (by omega) (41::r) ⟨fun _=>by simp,fun _=>by simp,fun _=>by simp⟩
   simp only [List.cons_append,List.append_assoc,List.nil_append,prs,e])
  (fun x0 xs h hs=>by
   obtain ⟨N1,h1⟩:=h;obtain ⟨N2,h2⟩:=prs4_all xs x0 hs;refine ⟨max N1 N2+1,fun n hn r hr=>?_⟩
   obtain ⟨m,rfl⟩:∃ m,n=m+1:=⟨n-1,by omega⟩
   have e1:=h1 m (by omega) (behind 38 3 xs++r) (stops3 _);have e2:=h2 m (by omega) r hr
   simp only [List.append_assoc,prs,e1,e2])
  (fun x0 xs h hs=>by
   obtain ⟨N1,h1⟩:=h;obtain ⟨N2,h2⟩:=prs5_all xs x0 hs;refine ⟨max N1 N2+1,fun n hn r hr=>?_⟩
   obtain ⟨m,rfl⟩:∃ m,n=m+1:=⟨n-1,by omega⟩
   have e1:=h1 m (by omega) (behind 124 2 xs++r) (stops_behind xs r hr);have e2:=h2 m (by omega) r hr
   simp only [List.append_assoc,prs,e1,e2])
  (fun t X h=>by
   obtain ⟨N,h⟩:=h;refine ⟨N+1,fun n hn r hr=>?_⟩
   obtain ⟨m,rfl⟩:∃ m,n=m+1:=⟨n-1,by omega⟩
   have e:=h m (by omega) r (hr.up (by omega));have h62:=hr.2.2 rfl;simp only [prs,e]
   cases r with
   | nil=>rfl
   | cons c r=>
    have hc:c≠62:=fun e=>h62 (by rw [e];rfl)
    split
    ·rename_i he;simp at he;exact absurd he.2.1 hc
    ·rename_i he;simp at he;obtain ⟨rfl,rfl⟩:=he;rfl
    ·rename_i he;simp at he)
  (fun a b h1 h2=>by
   obtain ⟨N1,h1⟩:=h1;obtain ⟨N2,h2⟩:=h2;refine ⟨max N1 N2+1,fun n hn r hr=>?_⟩
   obtain ⟨m,rfl⟩:∃ m,n=m+1:=⟨n-1,by omega⟩
   have e1:=h1 m (by omega) (62::(b.body++r)) ⟨fun _=>by simp,fun _=>by simp,fun e=>by omega⟩;have e2:=h2 m (by omega) r hr
   simp only [List.append_assoc,List.cons_append,prs,e1,e2])
  t.enc.length t (Nat.le_refl _) hw).1
 rwa [txt0] at this
theorem body_inj {t u:Fm} (ht:t.wf) (hu:u.wf) (h:t.body=u.body):t=u:=by
 obtain ⟨N1,h1⟩:=prs_all t ht;obtain ⟨N2,h2⟩:=prs_all u hu;have e1:=h1 (max N1 N2) (by omega) [] ⟨fun _=>by simp,fun _=>by simp,fun _=>by simp⟩;have e2:=h2 (max N1 N2) (by omega) [] ⟨fun _=>by simp,fun _=>by simp,fun _=>by simp⟩;rw [h,e2] at e1
 simp at e1
 exact e1.symm
theorem par_len (b:Bool) (s:List UInt8):(par b s).length≤s.length+2:=by unfold par;split<;>simp
theorem body_len:∀ t:Fm,t.body.length+3≤5*t.enc.length:=by
 intro t
 induction t with
 | var v=>simp [body,enc]
 | fls=>simp [body,enc]
 | and a b iha ihb=>
  have h1:=par_len (decide (a.lev<2)) a.body;have h2:=par_len (decide (b.lev<3)) b.body;simp only [body,enc,List.length_append,List.length_cons];omega
 | or a b iha ihb=>
  have h1:=par_len (decide (a.lev<1)) a.body;have h2:=par_len (decide (b.lev<2)) b.body;simp only [body,enc,List.length_append,List.length_cons];omega
 | imp a b iha ihb=>
  have h1:=par_len (decide (a.lev<1)) a.body;have h2:=par_len (decide (a.lev<3)) a.body;have hb:=enc_pos b;simp only [body,enc,List.length_append,List.length_cons]
  split
  ·split
   ·simp;omega
   ·simp only [List.length_cons];omega
  ·simp only [List.length_append,List.length_cons];omega
 | box a iha=>
  have h2:=par_len (decide (a.lev<3)) a.body;simp only [body,enc,List.length_cons];omega
 | dia a iha=>
  have h2:=par_len (decide (a.lev<3)) a.body;simp only [body,enc,List.length_cons];omega
theorem body_pos (t:Fm):0<t.body.length:=by
 cases t with
 | imp a b=>
  simp only [body]
  split
  ·split<;>simp
  ·simp only [List.length_append,List.length_cons];omega
 | _=>simp only [body,List.length_append,List.length_cons];omega
theorem body_bytes:∀ t:Fm,t.wf→∀ c∈t.body,c≠47∧c≠59∧c≠44∧c≠10:=by
 have hp:∀ (b:Bool) (s:List UInt8),(∀ c∈s,c≠47∧c≠59∧c≠44∧c≠10)→∀ c∈par b s,c≠47∧c≠59∧c≠44∧c≠10:=by
  intro b s h c hc;unfold par at hc
  split at hc
  ·simp at hc
   rcases hc with rfl | hc | rfl
   ·decide
   ·exact h c hc
   ·decide
  ·exact h c hc
 intro t
 induction t with
 | var v=>
  intro hw c hc;simp [body] at hc
  have hv:v=0∨v=1∨v=2∨v=3∨v=4∨v=5:=by simp [wf] at hw;omega
  subst hc
  rcases hv with rfl | rfl | rfl | rfl | rfl | rfl<;>decide
 | fls=>intro _ c hc;simp [body] at hc;subst hc;decide
 | and a b iha ihb=>
  intro hw c hc;simp only [body,List.mem_append,List.mem_cons] at hc
  rcases hc with hc | rfl | hc
  ·exact hp _ _ (iha hw.1) c hc
  ·decide
  ·exact hp _ _ (ihb hw.2) c hc
 | or a b iha ihb=>
  intro hw c hc;simp only [body,List.mem_append,List.mem_cons] at hc
  rcases hc with hc | rfl | hc
  ·exact hp _ _ (iha hw.1) c hc
  ·decide
  ·exact hp _ _ (ihb hw.2) c hc
 | imp a b iha ihb=>
  intro hw c hc;simp only [body] at hc
  split at hc
  ·split at hc
   ·simp at hc;subst hc;decide
   ·simp only [List.mem_cons] at hc
    rcases hc with rfl | hc
    ·decide
    ·exact hp _ _ (iha hw.1) c hc
  ·simp only [List.mem_append,List.mem_cons] at hc
   rcases hc with hc | rfl | hc
   ·exact hp _ _ (iha hw.1) c hc
   ·decide
   ·exact ihb hw.2 c hc
 | box a iha=>
  intro hw c hc;simp only [body,List.mem_cons] at hc
  rcases hc with rfl | rfl | hc
  ·decide
  ·decide
  ·exact hp _ _ (iha hw) c hc
 | dia a iha=>
  intro hw c hc;simp only [body,List.mem_cons] at hc
  rcases hc with rfl | rfl | hc
  ·decide
  ·decide
  ·exact hp _ _ (iha hw) c hc
end
section
open Go.RowKit
theorem bts_len (s:ByteArray):(bts s).length=s.size:=rfl
theorem txt_size {t:Fm} {l:Nat} {s:ByteArray} (h:bts s=t.txt l) (hl:t.enc.length≤100000000):s.size≤600000000:=by
 have h1:=par_len (decide (t.lev<l)) t.body;have h2:=body_len t;rw [←bts_len,h];unfold Fm.txt;omega
def TxtOk (t:Fm):Prop:=t.enc.length≤100000000→∀ (l:Nat) (k:Int),k=(l:Int)→∀ (v:Value) (w:World),Nds w v t.enc→
 Calls Tryz.prog 127 #[v,.int .i64 k] w fun e w'=>∃ s,e=.returned (.string s)∧bts s=t.txt l∧Keeps w w'
def BodyOk (t:Fm):Prop:=t.enc.length≤100000000→∀ (k:Int),¬((t.lev:Int)<k)→∀ (v:Value) (w:World),Nds w v t.enc→
 Calls Tryz.prog 127 #[v,.int .i64 k] w fun e w'=>∃ s,e=.returned (.string s)∧bts s=t.body∧Keeps w w'
theorem TxtOk.of {t:Fm} (h:BodyOk t):TxtOk t:=by
 intro hL l k hk v w hv
 by_cases hl:(t.lev:Int)<k
 ·have hb:=hid (h hL 0 (by omega) v w hv)
  have hr:t.txt l=40::(t.body++[41]):=by simp only [Fm.txt,Fm.par];rw [decide_eq_true (by omega)];rfl
  rw [hr];clear hr hk;go_enter Tryz.func127,Tryz.ntmps127;go_wp2_with fail;refine (levelOf_any t _ _ hv).mono ?_;rintro e w' ⟨rfl,rfl⟩;go_wp2_with fail;refine hb.out.mono ?_;rintro e w1 ⟨s,rfl,hs,k1⟩;have z1:=txt_size (l:=0) (by rw [Fm.txt0];exact hs) hL;go_wp2_with fail;go_ret;exact ⟨_,rfl,by simp only [bts_append,hs];rfl,k1⟩
 ·have hr:t.txt l=t.body:=by simp only [Fm.txt,Fm.par];rw [decide_eq_false (by omega)];rfl
  rw [hr];exact h hL k hl v w hv
theorem bodyAnd (x y:Fm) (hx:TxtOk x) (hy:TxtOk y):BodyOk (.and x y):=by
 intro hL k hk v w hv;simp only [Fm.enc,List.length_cons,List.length_append] at hL;have hv0:=hv;obtain ⟨b,off,n,cap,rfl,h0,h1,h2,h3,hc,_⟩:=hv.root
 replace hc:w.cell? ⟨b,off,none⟩=some (.int .i64 2):=hc
 have HX:=hid (hx (by omega));clear hx;have HY:=hid (hy (by omega));clear hy;go_enter Tryz.func127,Tryz.ntmps127;go_wp2_with fail;refine (levelOf_any _ _ _ hv).mono ?_;rintro e w' ⟨rfl,rfl⟩;go_wp2_with fail;refine (first_any _ _ x y.enc _ _ hv0 rfl).mono ?_;rintro e w' ⟨v1,rfl,hv1,rfl⟩;go_wp2_with fail;refine (HX.out 2 _ rfl _ _ hv1).mono ?_;rintro e w1 ⟨s1,rfl,hs1,k1⟩;have z1:=txt_size hs1 (by omega);go_wp2_with fail;refine (second_any _ _ x y _ _ (hv0.keeps k1) rfl).mono ?_;rintro e w' ⟨v2,rfl,hv2,rfl⟩;go_wp2_with fail;refine (HY.out 3 _ rfl _ _ hv2).mono ?_;rintro e w2 ⟨s2,rfl,hs2,k2⟩;have z2:=txt_size hs2 (by omega);go_wp2_with fail;go_ret;exact ⟨_,rfl,by simp only [bts_append,hs1,hs2,Fm.body,Fm.txt,List.append_assoc];rfl,k1.trans k2⟩
theorem bodyOr (x y:Fm) (hx:TxtOk x) (hy:TxtOk y):BodyOk (.or x y):=by
 intro hL k hk v w hv;simp only [Fm.enc,List.length_cons,List.length_append] at hL;have hv0:=hv;obtain ⟨b,off,n,cap,rfl,h0,h1,h2,h3,hc,_⟩:=hv.root
 replace hc:w.cell? ⟨b,off,none⟩=some (.int .i64 3):=hc
 have HX:=hid (hx (by omega));clear hx;have HY:=hid (hy (by omega));clear hy;go_enter Tryz.func127,Tryz.ntmps127;go_wp2_with fail;refine (levelOf_any _ _ _ hv).mono ?_;rintro e w' ⟨rfl,rfl⟩;go_wp2_with fail;refine (first_any _ _ x y.enc _ _ hv0 rfl).mono ?_;rintro e w' ⟨v1,rfl,hv1,rfl⟩;go_wp2_with fail;refine (HX.out 1 _ rfl _ _ hv1).mono ?_;rintro e w1 ⟨s1,rfl,hs1,k1⟩;have z1:=txt_size hs1 (by omega);go_wp2_with fail;refine (second_any _ _ x y _ _ (hv0.keeps k1) rfl).mono ?_;rintro e w' ⟨v2,rfl,hv2,rfl⟩;go_wp2_with fail;refine (HY.out 2 _ rfl _ _ hv2).mono ?_;rintro e w2 ⟨s2,rfl,hs2,k2⟩;have z2:=txt_size hs2 (by omega);go_wp2_with fail;go_ret;exact ⟨_,rfl,by simp only [bts_append,hs1,hs2,Fm.body,Fm.txt,List.append_assoc];rfl,k1.trans k2⟩
theorem bodyBox (x:Fm) (hx:TxtOk x):BodyOk (.box x):=by
 intro hL k hk v w hv;simp only [Fm.enc,List.length_cons] at hL;have hv0:=hv;obtain ⟨b,off,n,cap,rfl,h0,h1,h2,h3,hc,hsy⟩:=hv.root
 replace hc:w.cell? ⟨b,off,none⟩=some (.int .i64 5):=hc
 have HX:=hid (hx (by omega));clear hx;go_enter Tryz.func127,Tryz.ntmps127;go_wp2_with fail;refine (levelOf_any _ _ _ hv).mono ?_;rintro e w' ⟨rfl,rfl⟩;go_wp2_with fail;refine (first_any _ ⟨5,0⟩ x [] _ _ hv0 (by simp [Fm.enc])).mono ?_;rintro e w' ⟨v1,rfl,hv1,rfl⟩;go_wp2_with fail;refine (HX.out 3 _ rfl _ _ hv1).mono ?_;rintro e w1 ⟨s1,rfl,hs1,k1⟩;have z1:=txt_size hs1 (by omega);go_wp2_with fail;go_ret;exact ⟨_,rfl,by simp only [bts_append,hs1,Fm.body,Fm.txt];rfl,k1⟩
theorem bodyDia (x:Fm) (hx:TxtOk x):BodyOk (.dia x):=by
 intro hL k hk v w hv;simp only [Fm.enc,List.length_cons] at hL;have hv0:=hv;obtain ⟨b,off,n,cap,rfl,h0,h1,h2,h3,hc,hsy⟩:=hv.root
 replace hc:w.cell? ⟨b,off,none⟩=some (.int .i64 6):=hc
 have HX:=hid (hx (by omega));clear hx;go_enter Tryz.func127,Tryz.ntmps127;go_wp2_with fail;refine (levelOf_any _ _ _ hv).mono ?_;rintro e w' ⟨rfl,rfl⟩;go_wp2_with fail;refine (first_any _ ⟨6,0⟩ x [] _ _ hv0 (by simp [Fm.enc])).mono ?_;rintro e w' ⟨v1,rfl,hv1,rfl⟩;go_wp2_with fail;refine (HX.out 3 _ rfl _ _ hv1).mono ?_;rintro e w1 ⟨s1,rfl,hs1,k1⟩;have z1:=txt_size hs1 (by omega);go_wp2_with fail;go_ret;exact ⟨_,rfl,by simp only [bts_append,hs1,Fm.body,Fm.txt];rfl,k1⟩
theorem bodyFls:BodyOk .fls:=by
 intro hL k hk v w hv;simp only [Fm.enc,List.length_cons] at hL;have hv0:=hv;obtain ⟨b,off,n,cap,rfl,h0,h1,h2,h3,hc,hsy⟩:=hv.root
 replace hc:w.cell? ⟨b,off,none⟩=some (.int .i64 1):=hc
 go_enter Tryz.func127,Tryz.ntmps127;go_wp2_with fail;refine (levelOf_any _ _ _ hv).mono ?_;rintro e w' ⟨rfl,rfl⟩;go_wp2_with fail;go_ret;exact ⟨_,rfl,rfl,Keeps.refl _⟩
theorem bodyImp (x y:Fm) (hf:y.isFls=false) (hx:TxtOk x) (hy:TxtOk y):BodyOk (.imp x y):=by
 intro hL k hk v w hv;simp only [Fm.enc,List.length_cons,List.length_append] at hL;have hv0:=hv;obtain ⟨b,off,n,cap,rfl,h0,h1,h2,h3,hc,hsy⟩:=hv.root
 replace hc:w.cell? ⟨b,off,none⟩=some (.int .i64 4):=hc
 have HX:=hid (hx (by omega));clear hx;have HY:=hid (hy (by omega));clear hy
 have hB:(Fm.imp x y).body=x.txt 1++62::y.body:=by simp [Fm.body,Fm.txt,hf]
 have hn:=isNegation_any (.imp x y) _ _ hv0;rw [isNeg_imp,hf] at hn;have HN:=hid hn;clear hn;have HB:=hid hB;clear hB hf;go_enter Tryz.func127,Tryz.ntmps127;go_wp2_with fail;refine (levelOf_any _ _ _ hv).mono ?_;rintro e w' ⟨rfl,rfl⟩;go_wp2_with fail;refine HN.out.mono ?_;rintro e w' ⟨rfl,rfl⟩;go_wp2_with fail;refine (first_any _ _ x y.enc _ _ hv0 rfl).mono ?_;rintro e w' ⟨v1,rfl,hv1,rfl⟩;go_wp2_with fail;refine (HX.out 1 _ rfl _ _ hv1).mono ?_;rintro e w1 ⟨s1,rfl,hs1,k1⟩;have z1:=txt_size hs1 (by omega);go_wp2_with fail;refine (second_any _ _ x y _ _ (hv0.keeps k1) rfl).mono ?_;rintro e w' ⟨v2,rfl,hv2,rfl⟩;go_wp2_with fail;refine (HY.out 0 _ rfl _ _ hv2).mono ?_;rintro e w2 ⟨s2,rfl,hs2,k2⟩;have z2:=txt_size hs2 (by omega);go_wp2_with fail;go_ret;exact ⟨_,rfl,by rw [HB.out];simp only [bts_append,hs1,hs2,Fm.txt0,List.append_assoc];rfl,k1.trans k2⟩
theorem bodyTop (x y:Fm) (hf:y.isFls=true) (hx1:x.isFls=true):BodyOk (.imp x y):=by
 intro hL k hk v w hv;simp only [Fm.enc,List.length_cons,List.length_append] at hL;have hv0:=hv;obtain ⟨b,off,n,cap,rfl,h0,h1,h2,h3,hc,hsy⟩:=hv.root
 replace hc:w.cell? ⟨b,off,none⟩=some (.int .i64 4):=hc
 have hB:(Fm.imp x y).body=[84]:=by simp [Fm.body,hf,hx1]
 have hn:=isNegation_any (.imp x y) _ _ hv0;rw [isNeg_imp,hf] at hn;have HN:=hid hn;clear hn;have HB:=hid hB;clear hB hf;have HX1:=hid hx1;clear hx1;go_enter Tryz.func127,Tryz.ntmps127;go_wp2_with fail;refine (levelOf_any _ _ _ hv).mono ?_;rintro e w' ⟨rfl,rfl⟩;go_wp2_with fail;refine HN.out.mono ?_;rintro e w' ⟨rfl,rfl⟩;go_wp2_with fail;refine (first_any _ _ x y.enc _ _ hv0 rfl).mono ?_;rintro e w' ⟨v1,rfl,hv1,rfl⟩;go_wp2_with fail;refine (isFalsum_any x _ _ hv1).mono ?_;rintro e w' ⟨rfl,rfl⟩;rw [HX1.out];go_wp2_with fail;go_ret;exact ⟨_,rfl,by rw [HB.out];rfl,Keeps.refl _⟩
theorem bodyNeg (x y:Fm) (hf:y.isFls=true) (hx1:x.isFls=false) (hx:TxtOk x):BodyOk (.imp x y):=by
 intro hL k hk v w hv;simp only [Fm.enc,List.length_cons,List.length_append] at hL;have hv0:=hv;obtain ⟨b,off,n,cap,rfl,h0,h1,h2,h3,hc,hsy⟩:=hv.root
 replace hc:w.cell? ⟨b,off,none⟩=some (.int .i64 4):=hc
 have HX:=hid (hx (by omega));clear hx
 have hB:(Fm.imp x y).body=126::x.txt 3:=by simp [Fm.body,Fm.txt,hf,hx1]
 have hn:=isNegation_any (.imp x y) _ _ hv0;rw [isNeg_imp,hf] at hn;have HN:=hid hn;clear hn;have HB:=hid hB;clear hB hf;have HX1:=hid hx1;clear hx1;go_enter Tryz.func127,Tryz.ntmps127;go_wp2_with fail;refine (levelOf_any _ _ _ hv).mono ?_;rintro e w' ⟨rfl,rfl⟩;go_wp2_with fail;refine HN.out.mono ?_;rintro e w' ⟨rfl,rfl⟩;go_wp2_with fail;refine (first_any _ _ x y.enc _ _ hv0 rfl).mono ?_;rintro e w' ⟨v1,rfl,hv1,rfl⟩;go_wp2_with fail;refine (isFalsum_any x _ _ hv1).mono ?_;rintro e w' ⟨rfl,rfl⟩;rw [HX1.out];go_wp2_with fail;refine (first_any _ _ x y.enc _ _ hv0 rfl).mono ?_;rintro e w' ⟨v2,rfl,hv2,rfl⟩;go_wp2_with fail;refine (HX.out 3 _ rfl _ _ hv2).mono ?_;rintro e w1 ⟨s1,rfl,hs1,k1⟩;have z1:=txt_size hs1 (by omega);go_wp2_with fail;go_ret;exact ⟨_,rfl,by rw [HB.out];simp only [bts_append,hs1];rfl,k1⟩
theorem bodyVar (i:Nat) (hi:i<6):BodyOk (.var i):=by
 intro hL k hk v w hv;simp only [Fm.enc,List.length_cons] at hL;have hv0:=hv;obtain ⟨b,off,n,cap,rfl,h0,h1,h2,h3,hc,hsy⟩:=hv.root
 replace hc:w.cell? ⟨b,off,none⟩=some (.int .i64 0):=hc
 replace hsy:w.cell? ⟨b,off+1,none⟩=some (.int .i64 (i:Int)):=hsy
 have hcase:i=0∨i=1∨i=2∨i=3∨i=4∨i=5:=by omega
 rcases hcase with rfl | rfl | rfl | rfl | rfl | rfl
 ·replace hsy:w.cell? ⟨b,off+1,none⟩=some (.int .i64 0):=hsy
  go_enter Tryz.func127,Tryz.ntmps127;go_wp2_with fail;refine (levelOf_any _ _ _ hv).mono ?_;rintro e w' ⟨rfl,rfl⟩;go_wp2_with fail
  go_quiet (fail)
  go_wp2_with fail;go_ret;refine ⟨_,rfl,?_,?_⟩
  ·decide
  ·exact Keeps.drewN (Keeps.refl _) _
 ·replace hsy:w.cell? ⟨b,off+1,none⟩=some (.int .i64 1):=hsy
  go_enter Tryz.func127,Tryz.ntmps127;go_wp2_with fail;refine (levelOf_any _ _ _ hv).mono ?_;rintro e w' ⟨rfl,rfl⟩;go_wp2_with fail
  go_quiet (fail)
  go_wp2_with fail;go_ret;refine ⟨_,rfl,?_,?_⟩
  ·decide
  ·exact Keeps.drewN (Keeps.refl _) _
 ·replace hsy:w.cell? ⟨b,off+1,none⟩=some (.int .i64 2):=hsy
  go_enter Tryz.func127,Tryz.ntmps127;go_wp2_with fail;refine (levelOf_any _ _ _ hv).mono ?_;rintro e w' ⟨rfl,rfl⟩;go_wp2_with fail
  go_quiet (fail)
  go_wp2_with fail;go_ret;refine ⟨_,rfl,?_,?_⟩
  ·decide
  ·exact Keeps.drewN (Keeps.refl _) _
 ·replace hsy:w.cell? ⟨b,off+1,none⟩=some (.int .i64 3):=hsy
  go_enter Tryz.func127,Tryz.ntmps127;go_wp2_with fail;refine (levelOf_any _ _ _ hv).mono ?_;rintro e w' ⟨rfl,rfl⟩;go_wp2_with fail
  go_quiet (fail)
  go_wp2_with fail;go_ret;refine ⟨_,rfl,?_,?_⟩
  ·decide
  ·exact Keeps.drewN (Keeps.refl _) _
 ·replace hsy:w.cell? ⟨b,off+1,none⟩=some (.int .i64 4):=hsy
  go_enter Tryz.func127,Tryz.ntmps127;go_wp2_with fail;refine (levelOf_any _ _ _ hv).mono ?_;rintro e w' ⟨rfl,rfl⟩;go_wp2_with fail
  go_quiet (fail)
  go_wp2_with fail;go_ret;refine ⟨_,rfl,?_,?_⟩
  ·decide
  ·exact Keeps.drewN (Keeps.refl _) _
 ·replace hsy:w.cell? ⟨b,off+1,none⟩=some (.int .i64 5):=hsy
  go_enter Tryz.func127,Tryz.ntmps127;go_wp2_with fail;refine (levelOf_any _ _ _ hv).mono ?_;rintro e w' ⟨rfl,rfl⟩;go_wp2_with fail
  go_quiet (fail)
  go_wp2_with fail;go_ret;refine ⟨_,rfl,?_,?_⟩
  ·decide
  ·exact Keeps.drewN (Keeps.refl _) _
theorem txtOk_any (t:Fm) (hw:t.wf):TxtOk t:=by
 induction t with
 | var i=>exact .of (bodyVar i hw)
 | fls=>exact .of bodyFls
 | and x y hx hy=>exact .of (bodyAnd x y (hx hw.1) (hy hw.2))
 | or x y hx hy=>exact .of (bodyOr x y (hx hw.1) (hy hw.2))
 | box x hx=>exact .of (bodyBox x (hx hw))
 | dia x hx=>exact .of (bodyDia x (hx hw))
 | imp x y hx hy=>
  cases hf:y.isFls
  ·exact .of (bodyImp x y hf (hx hw.1) (hy hw.2))
  ·cases hx1:x.isFls
   ·exact .of (bodyNeg x y hf hx1 (hx hw.1))
   ·exact .of (bodyTop x y hf hx1)
theorem text_any (t:Fm) (hw:t.wf) (hl:t.enc.length≤100000000) (v:Value) (w:World) (hv:Nds w v t.enc):
  Calls Tryz.prog 94 #[v] w fun e w'=>∃ s,e=.returned (.string s)∧bts s=t.body∧Keeps w w':=by
 have H:=hid (txtOk_any t hw hl 0 0 rfl v w hv);go_enter Tryz.func94,Tryz.ntmps94;go_wp2_with fail;refine H.out.mono ?_;rintro e w' ⟨s,rfl,hs,k⟩;go_wp2_with fail;go_ret;exact ⟨s,rfl,by rw [hs,Fm.txt0],k⟩
def WrOk (t:Fm):Prop:=t.enc.length≤100000000→∀ (l:Nat) (k:Int),k=(l:Int)→∀ (v:Value) (w:World),Nds w v t.enc→
 Calls Tryz.prog 178 #[v,.int .i64 k] w fun e w'=>∃ s,e=.returned (.string s)∧bts s=t.txt l∧Keeps w w'
theorem txt_yes {t:Fm} {l:Nat} (h:t.lev<l):t.txt l=40::(t.body++[41]):=by simp only [Fm.txt,Fm.par];rw [decide_eq_true h];rfl
theorem txt_no {t:Fm} {l:Nat} (h:¬t.lev<l):t.txt l=t.body:=by simp only [Fm.txt,Fm.par];rw [decide_eq_false h];rfl
theorem wrAnd (x y:Fm) (hx:WrOk x) (hy:WrOk y):WrOk (Fm.and x y):=by
 intro hL l k hk v w hv;simp only [Fm.enc,List.length_cons,List.length_append] at hL;have hv0:=hv;obtain ⟨b,off,n,cap,rfl,h0,h1,h2,h3,hc,hsy⟩:=hv.root
 replace hc:w.cell? ⟨b,off,none⟩=some (.int .i64 2):=hc
 have HX:=hid (hx (by omega));clear hx;have HY:=hid (hy (by omega));clear hy
 by_cases hlv:(2:Nat)<l
 ·rw [txt_yes (t:=Fm.and x y) (show (2)<l from hlv)]
  have hkl:((2:Int)<k):=by omega
  clear hlv hk;go_enter Tryz.func178,Tryz.ntmps178;go_wp2_with fail;refine (l02Left_any _ _ x y.enc _ _ hv0 rfl).mono ?_;rintro e w' ⟨v1,rfl,hv1,rfl⟩;go_wp2_with fail;refine (HX.out 2 _ rfl _ _ hv1).mono ?_;rintro e w1 ⟨s1,rfl,hs1,k1⟩;have z1:=txt_size hs1 (by omega);go_wp2_with fail;refine (l02Right_any _ _ x y _ _ (hv0.keeps k1) rfl).mono ?_;rintro e w' ⟨v2,rfl,hv2,rfl⟩;go_wp2_with fail;refine (HY.out 3 _ rfl _ _ hv2).mono ?_;rintro e w2 ⟨s2,rfl,hs2,k2⟩;have z2:=txt_size hs2 (by omega);go_wp2_with fail;go_ret;exact ⟨_,rfl,by simp only [bts_append,hs1,hs2,Fm.body,Fm.txt,List.append_assoc];rfl,k1.trans k2⟩
 ·rw [txt_no (t:=Fm.and x y) (show ¬(2)<l from hlv)]
  have hkl:¬((2:Int)<k):=by omega
  clear hlv hk;go_enter Tryz.func178,Tryz.ntmps178;go_wp2_with fail;refine (l02Left_any _ _ x y.enc _ _ hv0 rfl).mono ?_;rintro e w' ⟨v1,rfl,hv1,rfl⟩;go_wp2_with fail;refine (HX.out 2 _ rfl _ _ hv1).mono ?_;rintro e w1 ⟨s1,rfl,hs1,k1⟩;have z1:=txt_size hs1 (by omega);go_wp2_with fail;refine (l02Right_any _ _ x y _ _ (hv0.keeps k1) rfl).mono ?_;rintro e w' ⟨v2,rfl,hv2,rfl⟩;go_wp2_with fail;refine (HY.out 3 _ rfl _ _ hv2).mono ?_;rintro e w2 ⟨s2,rfl,hs2,k2⟩;have z2:=txt_size hs2 (by omega);go_wp2_with fail;go_ret;exact ⟨_,rfl,by simp only [bts_append,hs1,hs2,Fm.body,Fm.txt,List.append_assoc];rfl,k1.trans k2⟩
theorem wrOr (x y:Fm) (hx:WrOk x) (hy:WrOk y):WrOk (Fm.or x y):=by
 intro hL l k hk v w hv;simp only [Fm.enc,List.length_cons,List.length_append] at hL;have hv0:=hv;obtain ⟨b,off,n,cap,rfl,h0,h1,h2,h3,hc,hsy⟩:=hv.root
 replace hc:w.cell? ⟨b,off,none⟩=some (.int .i64 3):=hc
 have HX:=hid (hx (by omega));clear hx;have HY:=hid (hy (by omega));clear hy
 by_cases hlv:(1:Nat)<l
 ·rw [txt_yes (t:=Fm.or x y) (show (1)<l from hlv)]
  have hkl:((1:Int)<k):=by omega
  clear hlv hk;go_enter Tryz.func178,Tryz.ntmps178;go_wp2_with fail;refine (l02Left_any _ _ x y.enc _ _ hv0 rfl).mono ?_;rintro e w' ⟨v1,rfl,hv1,rfl⟩;go_wp2_with fail;refine (HX.out 1 _ rfl _ _ hv1).mono ?_;rintro e w1 ⟨s1,rfl,hs1,k1⟩;have z1:=txt_size hs1 (by omega);go_wp2_with fail;refine (l02Right_any _ _ x y _ _ (hv0.keeps k1) rfl).mono ?_;rintro e w' ⟨v2,rfl,hv2,rfl⟩;go_wp2_with fail;refine (HY.out 2 _ rfl _ _ hv2).mono ?_;rintro e w2 ⟨s2,rfl,hs2,k2⟩;have z2:=txt_size hs2 (by omega);go_wp2_with fail;go_ret;exact ⟨_,rfl,by simp only [bts_append,hs1,hs2,Fm.body,Fm.txt,List.append_assoc];rfl,k1.trans k2⟩
 ·rw [txt_no (t:=Fm.or x y) (show ¬(1)<l from hlv)]
  have hkl:¬((1:Int)<k):=by omega
  clear hlv hk;go_enter Tryz.func178,Tryz.ntmps178;go_wp2_with fail;refine (l02Left_any _ _ x y.enc _ _ hv0 rfl).mono ?_;rintro e w' ⟨v1,rfl,hv1,rfl⟩;go_wp2_with fail;refine (HX.out 1 _ rfl _ _ hv1).mono ?_;rintro e w1 ⟨s1,rfl,hs1,k1⟩;have z1:=txt_size hs1 (by omega);go_wp2_with fail;refine (l02Right_any _ _ x y _ _ (hv0.keeps k1) rfl).mono ?_;rintro e w' ⟨v2,rfl,hv2,rfl⟩;go_wp2_with fail;refine (HY.out 2 _ rfl _ _ hv2).mono ?_;rintro e w2 ⟨s2,rfl,hs2,k2⟩;have z2:=txt_size hs2 (by omega);go_wp2_with fail;go_ret;exact ⟨_,rfl,by simp only [bts_append,hs1,hs2,Fm.body,Fm.txt,List.append_assoc];rfl,k1.trans k2⟩
theorem wrFls:WrOk (Fm.fls):=by
 intro hL l k hk v w hv;simp only [Fm.enc,List.length_cons] at hL;have hv0:=hv;obtain ⟨b,off,n,cap,rfl,h0,h1,h2,h3,hc,hsy⟩:=hv.root
 replace hc:w.cell? ⟨b,off,none⟩=some (.int .i64 1):=hc
 by_cases hlv:(3:Nat)<l
 ·rw [txt_yes (t:=Fm.fls) (show (3)<l from hlv)]
  have hkl:((3:Int)<k):=by omega
  clear hlv hk;go_enter Tryz.func178,Tryz.ntmps178;go_wp2_with fail;go_ret;exact ⟨_,rfl,rfl,Keeps.refl _⟩
 ·rw [txt_no (t:=Fm.fls) (show ¬(3)<l from hlv)]
  have hkl:¬((3:Int)<k):=by omega
  clear hlv hk;go_enter Tryz.func178,Tryz.ntmps178;go_wp2_with fail;go_ret;exact ⟨_,rfl,rfl,Keeps.refl _⟩
theorem wrImp (x y:Fm) (hf:y.isFls=false) (hx:WrOk x) (hy:WrOk y):WrOk (Fm.imp x y):=by
 intro hL l k hk v w hv;simp only [Fm.enc,List.length_cons,List.length_append] at hL;have hv0:=hv;obtain ⟨b,off,n,cap,rfl,h0,h1,h2,h3,hc,hsy⟩:=hv.root
 replace hc:w.cell? ⟨b,off,none⟩=some (.int .i64 4):=hc
 have HX:=hid (hx (by omega));clear hx;have HY:=hid (hy (by omega));clear hy
 have hB:(Fm.imp x y).body=x.txt 1++62::y.body:=by simp [Fm.body,Fm.txt,hf]
 have hE:decide ((Fm.imp x y).enc=(Fm.imp Fm.fls Fm.fls).enc)=false:=decide_eq_false (fun h=>by cases enc_inj h;cases hf)
 have hlv0:(Fm.imp x y).lev=0:=by simp [Fm.lev,hf]
 have hkd:(y.kind==1)=false:=by cases y<;>first | rfl | (cases hf)
 have HEQ:=hid hE;clear hE;have HB:=hid hB;clear hB
 by_cases hlv:(0:Nat)<l
 ·rw [txt_yes (t:=Fm.imp x y) (by rw [hlv0];exact hlv)]
  have hkl:((0:Int)<k):=by omega
  clear hlv hk;go_enter Tryz.func178,Tryz.ntmps178;go_wp2_with fail;refine (l02True_any w).mono ?_;rintro e wt ⟨vt,rfl,hvt,kt⟩;go_wp2_with fail;refine (l02Equal_any _ _ _ _ wt (hv0.keeps kt) (hvt.nds (by simp [Fm.enc]))).mono ?_;rintro e we ⟨rfl,ke⟩;rw [HEQ.out];have k0:=kt.trans ke;go_wp2_with fail;refine (l02Right_any _ _ x y _ _ (hv0.keeps k0) rfl).mono ?_;rintro e w' ⟨vy,rfl,hvy,rfl⟩;obtain ⟨by',oy,ny,cy,rfl,g0,g1,g2,g3,gk,_⟩:=hvy.root;go_wp2_with fail;refine (l02Left_any _ _ x y.enc _ _ (hv0.keeps k0) rfl).mono ?_;rintro e w' ⟨v1,rfl,hv1,rfl⟩;go_wp2_with fail;refine (HX.out 1 _ rfl _ _ hv1).mono ?_;rintro e w1 ⟨s1,rfl,hs1,k1⟩;have z1:=txt_size hs1 (by omega);go_wp2_with fail;refine (l02Right_any _ _ x y _ _ ((hv0.keeps k0).keeps k1) rfl).mono ?_;rintro e w' ⟨v2,rfl,hv2,rfl⟩;go_wp2_with fail;refine (HY.out 0 _ rfl _ _ hv2).mono ?_;rintro e w2 ⟨s2,rfl,hs2,k2⟩;have z2:=txt_size hs2 (by omega);go_wp2_with fail;go_ret;exact ⟨_,rfl,by rw [HB.out];simp only [bts_append,hs1,hs2,Fm.txt0,List.append_assoc];rfl,k0.trans (k1.trans k2)⟩
 ·rw [txt_no (t:=Fm.imp x y) (by rw [hlv0];exact hlv)]
  have hkl:¬((0:Int)<k):=by omega
  clear hlv hk;go_enter Tryz.func178,Tryz.ntmps178;go_wp2_with fail;refine (l02True_any w).mono ?_;rintro e wt ⟨vt,rfl,hvt,kt⟩;go_wp2_with fail;refine (l02Equal_any _ _ _ _ wt (hv0.keeps kt) (hvt.nds (by simp [Fm.enc]))).mono ?_;rintro e we ⟨rfl,ke⟩;rw [HEQ.out];have k0:=kt.trans ke;go_wp2_with fail;refine (l02Right_any _ _ x y _ _ (hv0.keeps k0) rfl).mono ?_;rintro e w' ⟨vy,rfl,hvy,rfl⟩;obtain ⟨by',oy,ny,cy,rfl,g0,g1,g2,g3,gk,_⟩:=hvy.root;go_wp2_with fail;refine (l02Left_any _ _ x y.enc _ _ (hv0.keeps k0) rfl).mono ?_;rintro e w' ⟨v1,rfl,hv1,rfl⟩;go_wp2_with fail;refine (HX.out 1 _ rfl _ _ hv1).mono ?_;rintro e w1 ⟨s1,rfl,hs1,k1⟩;have z1:=txt_size hs1 (by omega);go_wp2_with fail;refine (l02Right_any _ _ x y _ _ ((hv0.keeps k0).keeps k1) rfl).mono ?_;rintro e w' ⟨v2,rfl,hv2,rfl⟩;go_wp2_with fail;refine (HY.out 0 _ rfl _ _ hv2).mono ?_;rintro e w2 ⟨s2,rfl,hs2,k2⟩;have z2:=txt_size hs2 (by omega);go_wp2_with fail;go_ret;exact ⟨_,rfl,by rw [HB.out];simp only [bts_append,hs1,hs2,Fm.txt0,List.append_assoc];rfl,k0.trans (k1.trans k2)⟩
theorem wrNeg (x:Fm) (hx1:x.isFls=false) (hx:WrOk x):WrOk (Fm.imp x Fm.fls):=by
 intro hL l k hk v w hv;simp only [Fm.enc,List.length_cons,List.length_append] at hL;have hv0:=hv;obtain ⟨b,off,n,cap,rfl,h0,h1,h2,h3,hc,hsy⟩:=hv.root
 replace hc:w.cell? ⟨b,off,none⟩=some (.int .i64 4):=hc
 have HX:=hid (hx (by omega));clear hx
 have hB:(Fm.imp x Fm.fls).body=126::x.txt 3:=by have hf:Fm.fls.isFls=true:=rfl;simp [Fm.body,Fm.txt,hf,hx1]
 have hE:decide ((Fm.imp x Fm.fls).enc=(Fm.imp Fm.fls Fm.fls).enc)=false:=decide_eq_false (fun h=>by cases enc_inj h;cases hx1);have hlv0:(Fm.imp x Fm.fls).lev=3:=rfl;have HEQ:=hid hE;clear hE;have HB:=hid hB;clear hB hx1
 by_cases hlv:(3:Nat)<l
 ·rw [txt_yes (t:=Fm.imp x Fm.fls) (by rw [hlv0];exact hlv)]
  have hkl:((3:Int)<k):=by omega
  clear hlv hk;go_enter Tryz.func178,Tryz.ntmps178;go_wp2_with fail;refine (l02True_any w).mono ?_;rintro e wt ⟨vt,rfl,hvt,kt⟩;go_wp2_with fail;refine (l02Equal_any _ _ _ _ wt (hv0.keeps kt) (hvt.nds (by simp [Fm.enc]))).mono ?_;rintro e we ⟨rfl,ke⟩;rw [HEQ.out];have k0:=kt.trans ke;go_wp2_with fail;refine (l02Right_any _ _ x Fm.fls _ _ (hv0.keeps k0) rfl).mono ?_;rintro e w' ⟨vy,rfl,hvy,rfl⟩;obtain ⟨by',oy,ny,cy,rfl,g0,g1,g2,g3,gk,_⟩:=hvy.root
  replace gk:we.cell? ⟨by',oy,none⟩=some (.int .i64 1):=gk
  go_wp2_with fail;refine (l02Left_any _ _ x Fm.fls.enc _ _ (hv0.keeps k0) rfl).mono ?_;rintro e w' ⟨v1,rfl,hv1,rfl⟩;go_wp2_with fail;refine (HX.out 3 _ rfl _ _ hv1).mono ?_;rintro e w1 ⟨s1,rfl,hs1,k1⟩;have z1:=txt_size hs1 (by omega);go_wp2_with fail;go_ret;exact ⟨_,rfl,by rw [HB.out];simp only [bts_append,hs1];rfl,k0.trans k1⟩
 ·rw [txt_no (t:=Fm.imp x Fm.fls) (by rw [hlv0];exact hlv)]
  have hkl:¬((3:Int)<k):=by omega
  clear hlv hk;go_enter Tryz.func178,Tryz.ntmps178;go_wp2_with fail;refine (l02True_any w).mono ?_;rintro e wt ⟨vt,rfl,hvt,kt⟩;go_wp2_with fail;refine (l02Equal_any _ _ _ _ wt (hv0.keeps kt) (hvt.nds (by simp [Fm.enc]))).mono ?_;rintro e we ⟨rfl,ke⟩;rw [HEQ.out];have k0:=kt.trans ke;go_wp2_with fail;refine (l02Right_any _ _ x Fm.fls _ _ (hv0.keeps k0) rfl).mono ?_;rintro e w' ⟨vy,rfl,hvy,rfl⟩;obtain ⟨by',oy,ny,cy,rfl,g0,g1,g2,g3,gk,_⟩:=hvy.root
  replace gk:we.cell? ⟨by',oy,none⟩=some (.int .i64 1):=gk
  go_wp2_with fail;refine (l02Left_any _ _ x Fm.fls.enc _ _ (hv0.keeps k0) rfl).mono ?_;rintro e w' ⟨v1,rfl,hv1,rfl⟩;go_wp2_with fail;refine (HX.out 3 _ rfl _ _ hv1).mono ?_;rintro e w1 ⟨s1,rfl,hs1,k1⟩;have z1:=txt_size hs1 (by omega);go_wp2_with fail;go_ret;exact ⟨_,rfl,by rw [HB.out];simp only [bts_append,hs1];rfl,k0.trans k1⟩
theorem wrTop:WrOk (Fm.imp Fm.fls Fm.fls):=by
 intro hL l k hk v w hv;simp only [Fm.enc,List.length_cons,List.length_append] at hL;have hv0:=hv;obtain ⟨b,off,n,cap,rfl,h0,h1,h2,h3,hc,hsy⟩:=hv.root
 replace hc:w.cell? ⟨b,off,none⟩=some (.int .i64 4):=hc
 by_cases hlv:(3:Nat)<l
 ·rw [txt_yes (t:=Fm.imp Fm.fls Fm.fls) (show (3)<l from hlv)]
  have hkl:((3:Int)<k):=by omega
  clear hlv hk;go_enter Tryz.func178,Tryz.ntmps178;go_wp2_with fail;refine (l02True_any w).mono ?_;rintro e wt ⟨vt,rfl,hvt,kt⟩;go_wp2_with fail;refine (l02Equal_any _ _ _ _ wt (hv0.keeps kt) (hvt.nds (by simp [Fm.enc]))).mono ?_;rintro e we ⟨rfl,ke⟩;rw [show decide ((Fm.imp Fm.fls Fm.fls).enc=(Fm.imp Fm.fls Fm.fls).enc)=true from decide_eq_true rfl];have k0:=kt.trans ke;go_wp2_with fail;go_ret;exact ⟨_,rfl,rfl,k0⟩
 ·rw [txt_no (t:=Fm.imp Fm.fls Fm.fls) (show ¬(3)<l from hlv)]
  have hkl:¬((3:Int)<k):=by omega
  clear hlv hk;go_enter Tryz.func178,Tryz.ntmps178;go_wp2_with fail;refine (l02True_any w).mono ?_;rintro e wt ⟨vt,rfl,hvt,kt⟩;go_wp2_with fail;refine (l02Equal_any _ _ _ _ wt (hv0.keeps kt) (hvt.nds (by simp [Fm.enc]))).mono ?_;rintro e we ⟨rfl,ke⟩;rw [show decide ((Fm.imp Fm.fls Fm.fls).enc=(Fm.imp Fm.fls Fm.fls).enc)=true from decide_eq_true rfl];have k0:=kt.trans ke;go_wp2_with fail;go_ret;exact ⟨_,rfl,rfl,k0⟩
theorem wrVar (i:Nat) (hi:i<6):WrOk (.var i):=by
 intro hL l k hk v w hv;simp only [Fm.enc,List.length_cons] at hL;have hv0:=hv;obtain ⟨b,off,n,cap,rfl,h0,h1,h2,h3,hc,hsy⟩:=hv.root
 replace hc:w.cell? ⟨b,off,none⟩=some (.int .i64 0):=hc
 replace hsy:w.cell? ⟨b,off+1,none⟩=some (.int .i64 (i:Int)):=hsy
 have hcase:i=0∨i=1∨i=2∨i=3∨i=4∨i=5:=by omega
 by_cases hlv:(3:Nat)<l
 ·rw [txt_yes (t:=Fm.var i) (show (3)<l from hlv)]
  have hkl:((3:Int)<k):=by omega
  clear hlv hk
  rcases hcase with rfl | rfl | rfl | rfl | rfl | rfl
  ·replace hsy:w.cell? ⟨b,off+1,none⟩=some (.int .i64 0):=hsy
   go_enter Tryz.func178,Tryz.ntmps178;go_wp2_with fail
   go_quiet (fail)
   go_wp2_with fail;go_ret;refine ⟨_,rfl,?_,?_⟩
   ·decide
   ·exact Keeps.drewN (Keeps.refl _) _
  ·replace hsy:w.cell? ⟨b,off+1,none⟩=some (.int .i64 1):=hsy
   go_enter Tryz.func178,Tryz.ntmps178;go_wp2_with fail
   go_quiet (fail)
   go_wp2_with fail;go_ret;refine ⟨_,rfl,?_,?_⟩
   ·decide
   ·exact Keeps.drewN (Keeps.refl _) _
  ·replace hsy:w.cell? ⟨b,off+1,none⟩=some (.int .i64 2):=hsy
   go_enter Tryz.func178,Tryz.ntmps178;go_wp2_with fail
   go_quiet (fail)
   go_wp2_with fail;go_ret;refine ⟨_,rfl,?_,?_⟩
   ·decide
   ·exact Keeps.drewN (Keeps.refl _) _
  ·replace hsy:w.cell? ⟨b,off+1,none⟩=some (.int .i64 3):=hsy
   go_enter Tryz.func178,Tryz.ntmps178;go_wp2_with fail
   go_quiet (fail)
   go_wp2_with fail;go_ret;refine ⟨_,rfl,?_,?_⟩
   ·decide
   ·exact Keeps.drewN (Keeps.refl _) _
  ·replace hsy:w.cell? ⟨b,off+1,none⟩=some (.int .i64 4):=hsy
   go_enter Tryz.func178,Tryz.ntmps178;go_wp2_with fail
   go_quiet (fail)
   go_wp2_with fail;go_ret;refine ⟨_,rfl,?_,?_⟩
   ·decide
   ·exact Keeps.drewN (Keeps.refl _) _
  ·replace hsy:w.cell? ⟨b,off+1,none⟩=some (.int .i64 5):=hsy
   go_enter Tryz.func178,Tryz.ntmps178;go_wp2_with fail
   go_quiet (fail)
   go_wp2_with fail;go_ret;refine ⟨_,rfl,?_,?_⟩
   ·decide
   ·exact Keeps.drewN (Keeps.refl _) _
 ·rw [txt_no (t:=Fm.var i) (show ¬(3)<l from hlv)]
  have hkl:¬((3:Int)<k):=by omega
  clear hlv hk
  rcases hcase with rfl | rfl | rfl | rfl | rfl | rfl
  ·replace hsy:w.cell? ⟨b,off+1,none⟩=some (.int .i64 0):=hsy
   go_enter Tryz.func178,Tryz.ntmps178;go_wp2_with fail
   go_quiet (fail)
   go_wp2_with fail;go_ret;refine ⟨_,rfl,?_,?_⟩
   ·decide
   ·exact Keeps.drewN (Keeps.refl _) _
  ·replace hsy:w.cell? ⟨b,off+1,none⟩=some (.int .i64 1):=hsy
   go_enter Tryz.func178,Tryz.ntmps178;go_wp2_with fail
   go_quiet (fail)
   go_wp2_with fail;go_ret;refine ⟨_,rfl,?_,?_⟩
   ·decide
   ·exact Keeps.drewN (Keeps.refl _) _
  ·replace hsy:w.cell? ⟨b,off+1,none⟩=some (.int .i64 2):=hsy
   go_enter Tryz.func178,Tryz.ntmps178;go_wp2_with fail
   go_quiet (fail)
   go_wp2_with fail;go_ret;refine ⟨_,rfl,?_,?_⟩
   ·decide
   ·exact Keeps.drewN (Keeps.refl _) _
  ·replace hsy:w.cell? ⟨b,off+1,none⟩=some (.int .i64 3):=hsy
   go_enter Tryz.func178,Tryz.ntmps178;go_wp2_with fail
   go_quiet (fail)
   go_wp2_with fail;go_ret;refine ⟨_,rfl,?_,?_⟩
   ·decide
   ·exact Keeps.drewN (Keeps.refl _) _
  ·replace hsy:w.cell? ⟨b,off+1,none⟩=some (.int .i64 4):=hsy
   go_enter Tryz.func178,Tryz.ntmps178;go_wp2_with fail
   go_quiet (fail)
   go_wp2_with fail;go_ret;refine ⟨_,rfl,?_,?_⟩
   ·decide
   ·exact Keeps.drewN (Keeps.refl _) _
  ·replace hsy:w.cell? ⟨b,off+1,none⟩=some (.int .i64 5):=hsy
   go_enter Tryz.func178,Tryz.ntmps178;go_wp2_with fail
   go_quiet (fail)
   go_wp2_with fail;go_ret;refine ⟨_,rfl,?_,?_⟩
   ·decide
   ·exact Keeps.drewN (Keeps.refl _) _
end
end Go.Proofs.YtbccmdfdclomiaaGreatDoor
