import Derived.Test.YtbccmdfdclomiaaGreatDoorHPS
/- own -/
namespace Go.Proofs.YtbccmdfdclomiaaGreatDoor
set_option maxHeartbeats 400000
open Go.RowKit
def insI (x:Nat):List Nat→List Nat
 | []=>[x]
 | y::l=>if x<y then x::y::l else if x=y then y::l else y::insI x l
def sortC (l:List Nat):List Nat:=l.foldr insI []
theorem insI_mem (x z:Nat):∀ l,z∈insI x l↔z=x∨z∈l
 | []=>by simp [insI]
 | y :: l=>by
  unfold insI
  split
  ·simp
  ·split
   ·rename_i e;subst e;simp
   ·simp only [List.mem_cons,insI_mem x z l]
    constructor
    ·rintro (h | h | h)<;>simp [h]
    ·rintro (h | h | h)<;>simp [h]
theorem sortC_mem (z:Nat):∀ l,z∈sortC l↔z∈l
 | []=>by simp [sortC]
 | y::l=>by
  have ih:=sortC_mem z l
  show z∈insI y (sortC l)↔_
  rw [insI_mem,ih,List.mem_cons]
theorem insI_asc (x:Nat):∀ l:List Nat,l.Pairwise (· < ·)→(insI x l).Pairwise (· < ·)
 | [],_=>by simp [insI]
 | y :: l,h=>by
  unfold insI;rw [List.pairwise_cons] at h
  split
  ·rename_i e
   refine List.pairwise_cons.2 ⟨fun z hz=>?_,List.pairwise_cons.2 h⟩
   rcases List.mem_cons.1 hz with rfl | hz
   ·exact e
   ·have:=h.1 z hz;omega
  ·split
   ·exact List.pairwise_cons.2 h
   ·refine List.pairwise_cons.2 ⟨fun z hz=>?_,insI_asc x l h.2⟩
    rcases (insI_mem x z l).1 hz with rfl | hz
    ·omega
    ·exact h.1 z hz
theorem sortC_asc:∀ l:List Nat,(sortC l).Pairwise (· < ·)
 | []=>List.Pairwise.nil
 | y::l=>insI_asc y _ (sortC_asc l)
theorem asc_uniq:∀ {l m:List Nat},l.Pairwise (· < ·)→m.Pairwise (· < ·)→(∀ z,z∈l↔z∈m)→l=m
 | [],[],_,_,_=>rfl
 | [],b::m,_,_,h=>absurd ((h b).2 (by simp)) (by simp)
 | a::l,[],_,_,h=>absurd ((h a).1 (by simp)) (by simp)
 | a :: l,b::m,h1,h2,h=>by
  rw [List.pairwise_cons] at h1 h2
  have e:a=b:=by
   rcases List.mem_cons.1 ((h a).1 (by simp)) with e | e
   ·exact e
   ·rcases List.mem_cons.1 ((h b).2 (by simp)) with f | f
    ·exact f.symm
    ·have:=h1.1 b f;have:=h2.1 a e;omega
  subst e;rw [asc_uniq h1.2 h2.2 fun z=>?_];constructor
  ·intro hz
   rcases List.mem_cons.1 ((h z).1 (List.mem_cons_of_mem _ hz)) with e | e
   ·subst e;have:=h1.1 z hz;omega
   ·exact e
  ·intro hz
   rcases List.mem_cons.1 ((h z).2 (List.mem_cons_of_mem _ hz)) with e | e
   ·subst e;have:=h2.1 z hz;omega
   ·exact e
def getI {α:Type} (d:α) (l:List α) (i:Int):α:=l.getD i.toNat d
def useO (us:List (List Nat)) (x:Ln):List Nat:=if x.r=2 then sortC [x.f.toNat] else if x.r=3 then sortC (getI [] us x.f++getI [] us x.s) else if x.r=4 then sortC (getI [] us x.f) else []
def usF (us:List (List Nat)) (ls:List Ln):List (List Nat):=ls.foldl (fun us x=>us++[useO us x]) us
def usP (ls:List Ln):List (List Nat):=usF [] ls
theorem usP_snoc (ls:List Ln) (x:Ln):usP (ls++[x])=usP ls++[useO (usP ls) x]:=by simp [usP,usF,List.foldl_append]
theorem usP_len (ls:List Ln):(usP ls).length=ls.length:=by
 have:∀ (ls:List Ln) us,(usF us ls).length=us.length+ls.length:=by
  intro ls
  induction ls with
  | nil=>intro us;rfl
  | cons x l ih=>intro us;show (usF (us++[useO us x]) l).length=_;rw [ih];simp;omega
 exact (by simpa using this ls []:(usF [] ls).length=ls.length)
noncomputable def insL (k:Int) (a:List Nd):Bool:=@decide (∃ t:Fm,a=t.enc∧insT k.toNat t=true) (Classical.propDecidable _)
theorem insL_enc (k:Int) (t:Fm):insL k t.enc=insT k.toNat t:=by
 unfold insL
 cases h:insT k.toNat t
 ·refine @decide_eq_false _ (Classical.propDecidable _) ?_
  rintro ⟨u,e,hu⟩;rw [←enc_inj e,h] at hu
  cases hu
 ·exact (@decide_eq_true_iff _ (Classical.propDecidable _)).2 ⟨t,rfl,h⟩
def emL:Ln:=⟨0,0,0,[]⟩
noncomputable def okL (L:Nat) (H:List (List Nd)) (ls:List Ln) (x:Ln):Bool:=
 isFm x.a&&(if x.r=1 then (decide (x.s=0)&&((schS L).contains x.f&&insL x.f x.a))
  else if x.r=2 then (decide (x.s=0)&&(inR x.f 0 (H.length-1)&&decide (getI [] H x.f=x.a)))
  else if x.r=3 then (inR x.f 0 (ls.length-1)&&(inR x.s 0 (ls.length-1)&&decide ((getI emL ls x.f).a=⟨4,0⟩::((getI emL ls x.s).a++x.a))))
  else if x.r=4 then (decide (L≠8∧L≠9)&&(inR x.f 0 (ls.length-1)&&(decide (x.s=0)&&(decide (getI [] (usP ls) x.f=[])&&decide (x.a=⟨5,0⟩::(getI emL ls x.f).a)))))
  else false)
noncomputable def bdF (L:Nat) (H:List (List Nd)):List Ln→List Ln→Int
 | _,[]=>-1
 | ls,x::r=>if okL L H ls x then bdF L H (ls++[x]) r else ls.length
noncomputable def bdL (L:Nat) (H:List (List Nd)) (ls:List Ln):Int:=bdF L H [] ls
theorem bdF_all {L:Nat} {H:List (List Nd)}:∀ {r ls:List Ln},bdF L H ls r = -1→∀ k (h:k<r.length),okL L H (ls++r.take k) r[k]=true
 | [],_,_,k,h=>by simp at h
 | x :: r,ls,h,k,hk=>by
  unfold bdF at h
  split at h
  ·rename_i e
   cases k with
   | zero=>simpa using e
   | succ k=>
    have:=bdF_all h k (by simpa using hk)
    simpa using this
  ·have:=Int.natCast_nonneg ls.length;omega
theorem inR_iff {x l h:Int}:inR x l h=true↔l≤x∧x≤h:=by unfold inR;exact decide_eq_true_iff
def addU (l m:List Nat):List Nat:=m.foldl (fun l x=>if l.contains x then l else l++[x]) l
theorem addU_mem (z:Nat):∀ m l,z∈addU l m↔z∈l∨z∈m
 | [],l=>by simp [addU]
 | x :: m,l=>by
  have ih:=addU_mem z m
  show z∈addU (if l.contains x then l else l++[x]) m↔_
  rw [ih]
  split
  ·rename_i h
   have h:=List.contains_iff_mem.1 h;constructor
   ·rintro (h | h)<;>simp [h]
   ·rintro (h' | h')
    ·exact .inl h'
    ·rcases List.mem_cons.1 h' with rfl | h'
     ·exact .inl h
     ·exact .inr h'
  ·rw [List.mem_append,List.mem_singleton,List.mem_cons,or_assoc]
def dpO (us:List (List Nat)) (x:Ln):List Nat:=if x.r=2 then [x.f.toNat] else if x.r=3 then addU (getI [] us x.f) (getI [] us x.s) else if x.r=4 then getI [] us x.f else []
def dpF (us:List (List Nat)) (ls:List Ln):List (List Nat):=ls.foldl (fun us x=>us++[dpO us x]) us
def dpP (ls:List Ln):List (List Nat):=dpF [] ls
theorem dpP_snoc (ls:List Ln) (x:Ln):dpP (ls++[x])=dpP ls++[dpO (dpP ls) x]:=by simp [dpP,dpF,List.foldl_append]
theorem getI_snoc {α:Type} (d x:α) (l:List α) (i:Int):getI d (l++[x]) i=if i.toNat<l.length then getI d l i else if i.toNat=l.length then x else d:=by
 unfold getI;rw [List.getD_eq_getElem?_getD,List.getD_eq_getElem?_getD]
 split
 ·rename_i h;rw [List.getElem?_append_left h]
 ·rename_i h
  rw [List.getElem?_append_right (by omega)]
  split
  ·rename_i e;rw [e];simp
  ·rw [List.getElem?_eq_none (by simp;omega)];rfl
theorem dp_us (ls:List Ln):(dpP ls).length=ls.length∧∀ (i:Int) (z:Nat),z∈getI [] (dpP ls) i↔z∈getI [] (usP ls) i:=by
 suffices h:∀ n,∀ ls:List Ln,ls.length=n→(dpP ls).length=ls.length∧∀ (i:Int) (z:Nat),z∈getI [] (dpP ls) i↔z∈getI [] (usP ls) i from h _ ls rfl
 intro n
 induction n with
 | zero=>
  intro ls h;have:ls=[]:=List.eq_nil_of_length_eq_zero h;subst this;exact ⟨rfl,fun i z=>Iff.rfl⟩
 | succ n ih=>
  intro ls h
  obtain ⟨l,x,rfl⟩:∃ l x,ls=l++[x]:=⟨ls.dropLast,ls.getLast (by intro e;simp [e] at h),(List.dropLast_concat_getLast _).symm⟩
  obtain ⟨hl,hm⟩:=ih l (by simpa using h);rw [dpP_snoc,usP_snoc];refine ⟨by simp [hl],fun i z=>?_⟩;rw [getI_snoc,getI_snoc,hl,usP_len]
  split
  ·exact hm i z
  ·split
   ·unfold dpO useO
    split
    ·rw [sortC_mem]
    ·split
     ·rw [sortC_mem,addU_mem,List.mem_append,hm,hm]
     ·split
      ·rw [sortC_mem,hm]
      ·exact Iff.rfl
   ·exact Iff.rfl
theorem dp_nil (ls:List Ln) (i:Int):getI [] (dpP ls) i=[]↔getI [] (usP ls) i=[]:=by
 have h:=(dp_us ls).2 i;constructor
 ·intro e
  rw [e] at h
  exact List.eq_nil_iff_forall_not_mem.2 fun z hz=>absurd ((h z).2 hz) (by simp)
 ·intro e
  rw [e] at h
  exact List.eq_nil_iff_forall_not_mem.2 fun z hz=>absurd ((h z).1 hz) (by simp)
theorem useO_asc (us:List (List Nat)) (x:Ln):(useO us x).Pairwise (· < ·):=by
 unfold useO
 split
 ·exact sortC_asc _
 ·split
  ·exact sortC_asc _
  ·split
   ·exact sortC_asc _
   ·exact List.Pairwise.nil
theorem usP_asc (ls:List Ln):∀ i,(getI [] (usP ls) i).Pairwise (· < ·):=by
 suffices h:∀ n,∀ ls:List Ln,ls.length=n→∀ i,(getI [] (usP ls) i).Pairwise (· < ·) from h _ ls rfl
 intro n
 induction n with
 | zero=>
  intro ls h i;have:ls=[]:=List.eq_nil_of_length_eq_zero h;subst this;exact List.Pairwise.nil
 | succ n ih=>
  intro ls h i
  obtain ⟨l,x,rfl⟩:∃ l x,ls=l++[x]:=⟨ls.dropLast,ls.getLast (by intro e;simp [e] at h),(List.dropLast_concat_getLast _).symm⟩
  rw [usP_snoc,getI_snoc]
  split
  ·exact ih l (by simpa using h) i
  ·split
   ·exact useO_asc _ _
   ·exact List.Pairwise.nil
theorem dp_used (ls:List Ln) (i:Int) (n:Nat) (h:∀ z∈getI [] (usP ls) i,z<n):(List.range n).filter (fun z=>(getI [] (dpP ls) i).contains z)=getI [] (usP ls) i:=by
 refine asc_uniq (List.Pairwise.filter _ List.pairwise_lt_range) (usP_asc ls i) fun z=>?_
 rw [List.mem_filter,List.contains_iff_mem,(dp_us ls).2 i z];exact ⟨fun h=>h.2,fun hz=>⟨List.mem_range.2 (h z hz),hz⟩⟩
def RetN (w:World) (a:List Nd) (e:Ending) (w':World):Prop:=∃ v,e=.returned v∧OwnN w' w.heap.size v a∧Keeps w w'
def RetS (w:World) (a:List Nd) (e:Ending) (w':World):Prop:=∃ v,e=.returned v∧Nds w v a∧w=w'
def plainL (a:List Nd):Bool:=a.all fun n=>decide (n.k≠5∧n.k≠6)
def plainErr (a:List Nd):Int:=if isFm a then (if plainL a then 0 else 5) else 1
theorem l02Is_any (a:List Nd) (v:Value) (w:World) (hv:Nds w v a):
  Calls Tryz.prog 44 #[v] w fun e w'=>e=.returned (.bool (isFm a))∧w=w':=by
 have hv0:=hv;obtain ⟨p,cap,rfl,hle,hmx,hr,hlen⟩:=hv;unfold maxLen at hmx
 by_cases h:a.length≤40
 all_goals
  go_enter Tryz.func44,Tryz.ntmps44
  go_wp2_with (go_at_call 91;refine (l02Tree_any _ _ _ hv0).mono ?_;rintro e w' ⟨rfl,rfl⟩)
  go_ret;exact ⟨ret_bool (by simp [isFm];omega),rfl⟩
theorem l02Left_any (a:List Nd) (x:Nd) (t:Fm) (r:List Nd) (v:Value) (w:World) (hv:Nds w v a) (ha:a=x::(t.enc++r)):
  Calls Tryz.prog 72 #[v] w (RetS w t.enc):=by
 have hv0:=hv;obtain ⟨p,cap,rfl,hle,hmx,hr,hlen⟩:=hv;have hp:=Fm.enc_pos t
 have hs:skipInt 1 a (1:Int).toNat=1+t.enc.length:=by subst ha;exact skipInt_enc [x] t r
 have hl:1+t.enc.length≤a.length:=by subst ha;simp;omega
 obtain ⟨b,off,rfl⟩:=hr.ptrN (by omega);have hmx0:=hid hmx;unfold maxLen at hmx;have Ha:=hid ha;clear ha;have Hs:=hid hs;clear hs
 have hc1:¬cap=1:=by omega
 go_enter Tryz.func72,Tryz.ntmps72
 go_wp2_with (go_at_call 109;refine (l02Part_any _ _ _ _ hv0 (by omega) (by omega)).mono ?_;rintro e w' ⟨rfl,rfl⟩;rw [Hs.out])
 go_ret;have e:=Ha.out;rw [show x::(t.enc++r)=[x]++(t.enc++r) from rfl] at e;rw [e] at hr;exact ⟨_,rfl,Nds.sub (l:=[x]) (m:=t.enc) (r:=r) hr (by omega) (by simp) (by omega) (by omega) (by have:=hmx0.out;omega),rfl⟩
theorem l02Right_any (a:List Nd) (x:Nd) (t u:Fm) (v:Value) (w:World) (hv:Nds w v a) (ha:a=x::(t.enc++u.enc)):
  Calls Tryz.prog 73 #[v] w (RetS w u.enc):=by
 have hv0:=hv;obtain ⟨p,cap,rfl,hle,hmx,hr,hlen⟩:=hv;have hp:=Fm.enc_pos u
 have hs:skipInt 1 a (1:Int).toNat=1+t.enc.length:=by subst ha;exact skipInt_enc [x] t u.enc
 have hl:a.length=1+t.enc.length+u.enc.length:=by subst ha;simp;omega
 obtain ⟨b,off,rfl⟩:=hr.ptrN (by omega);have hmx0:=hid hmx;unfold maxLen at hmx;have Ha:=hid ha;clear ha;have Hs:=hid hs;clear hs
 have hl1:1+t.enc.length+u.enc.length≤a.length:=by omega
 have Hl:=hid hl;clear hl
 have hc1:¬cap=1+t.enc.length:=by omega
 go_enter Tryz.func73,Tryz.ntmps73
 go_wp2_with (go_at_call 109;refine (l02Part_any _ _ _ _ hv0 (by omega) (by omega)).mono ?_;rintro e w' ⟨rfl,rfl⟩;rw [Hs.out])
 go_ret;have e:=Ha.out;rw [show x::(t.enc++u.enc)=(x::t.enc)++(u.enc++[]) by simp] at e;rw [e] at hr;have e2:=Hl.out;exact ⟨_,rfl,Nds.sub (l:=x::t.enc) (m:=u.enc) (r:=[]) hr (by omega) (by simp;omega) (by omega) (by omega) (by have:=hmx0.out;omega),rfl⟩
theorem l02False_any (w:World):Calls Tryz.prog 140 #[] w (RetN w Fm.fls.enc):=by
 go_enter Tryz.func140,Tryz.ntmps140;go_wp2;go_ret;exact ⟨_,rfl,OwnN.lit1 w ⟨1,0⟩,(Keeps.refl w).alloc _⟩
theorem l02Pair_any (k:Int) (a b:List Nd) (va vb:Value) (w:World) (hva:Nds w va a) (hvb:Nds w vb b) (hl:1+a.length+b.length≤2147483648):
  Calls Tryz.prog 47 #[.int .i64 k,va,vb] w (RetN w (⟨k,0⟩::(a++b))):=by
 go_enter Tryz.func47,Tryz.ntmps47;have h1:=OwnN.lit1 w ⟨k,0⟩;have k1:=(Keeps.refl w).alloc (.cells #[.int .i64 k,.int .i64 0] 74);have ha1:=hva.keeps k1
 go_wp2_with (first | (at_builtin;refine appN rfl (.tmp 9) (.tmp 10) rfl w.heap.size _ [⟨k,0⟩] rfl h1 _ a rfl ha1 (by simp) (by simp;omega) ?_;intro v1 w1 hv1 hg1 hr1;have k2:Keeps w w1:=k1.grown hg1 hr1;have hb1:=hvb.keeps k2) | (at_builtin;refine appN rfl (.tmp 11) (.tmp 12) rfl w.heap.size _ ([⟨k,0⟩]++a) rfl (by assumption) _ b rfl (by assumption) (by have:=k2.size;omega) (by simp;omega) ?_;intro v2 w2 hv2 hg2 hr2;have k3:Keeps w w2:=k2.grown hg2 hr2))
 go_ret;exact ⟨_,rfl,by simpa using hv2,k3⟩
theorem l02Not_any (t:Fm) (v:Value) (w:World) (hv:Nds w v t.enc) (hl:t.enc.length≤1073741824):
  Calls Tryz.prog 141 #[v] w (RetN w (Fm.not t).enc):=by
 go_enter Tryz.func141,Tryz.ntmps141
 go_wp2_with (first | (go_at_call 140;refine (l02False_any _).mono ?_;rintro e w1 ⟨v1,rfl,hv1,k1⟩) | (go_at_call 47;refine (l02Pair_any _ _ _ _ _ _ (hv.keeps k1) (hv1.nds (by simp [Fm.enc])) (by simp [Fm.enc];omega)).mono ?_;rintro e w2 ⟨v2,rfl,hv2,k2⟩))
 go_ret;exact ⟨_,rfl,hv2.mono k1.size,k1.trans k2⟩
def madeL (a:List Nd):List Nd×Int:=if a.length≤40 then (a,0) else ([],3)
theorem l02Made_any (a:List Nd) (v:Value) (w:World) (hv:Nds w v a):
  Calls Tryz.prog 46 #[v] w fun e w'=>e=.returned (.tuple #[if a.length≤40 then v else .slice none 0 0,.int .i64 (madeL a).2])∧w=w':=by
 obtain ⟨p,cap,rfl,hle,hmx,hr,hlen⟩:=hv;unfold maxLen at hmx
 by_cases h:a.length≤40
 all_goals
  go_enter Tryz.func46,Tryz.ntmps46;go_wp2
  go_ret2
  exact ⟨by simp [h,madeL],rfl⟩
theorem made_own {w:World} {B:Nat} {v:Value} {a:List Nd} (h:OwnN w B v a):OwnN w B (if a.length≤40 then v else .slice none 0 0) (madeL a).1:=by
 unfold madeL
 by_cases h4:a.length≤40
 ·rw [if_pos h4,if_pos h4];exact h
 ·rw [if_neg h4,if_neg h4];exact OwnN.nil _ _
theorem l02Made_own (a:List Nd) (v:Value) (w:World) (B:Nat) (hv:OwnN w B v a) (hl:a.length≤2147483648):
  Calls Tryz.prog 46 #[v] w fun e w'=>∃ u,e=.returned (.tuple #[u,.int .i64 (madeL a).2])∧OwnN w' B u (madeL a).1∧w=w':=
 (l02Made_any a v w (hv.nds hl)).mono fun e w' ⟨he,hw⟩=>⟨_,he,by subst hw;exact made_own hv,hw⟩
theorem indexFuncN (pr:Nd→Bool) (f:FuncId) (cp:Array Value) (a:List Nd) (v:Value) (w:World) (hv:Nds w v a) (hcf:Enters f)
  (hf:∀ x w1,x∈a→Keeps w w1→Calls Tryz.prog f (#[.agg #[.int .i64 x.k,.int .i64 x.s]]++cp) w1 fun e w2=>e=.returned (.bool (pr x))∧Keeps w1 w2):
  Calls Tryz.prog 181 #[v,.func (.func f) #[] cp] w fun e w'=>e=.returned (.int .i64 (idxOf pr a 0))∧Keeps w w':=by
 obtain ⟨p,cap,rfl,hle,hmx,hr,hlen⟩:=hv;unfold maxLen at hmx;have HF:=hid hf;clear hf
 have hcf':∀ args w,(callFunc f args).run Tryz.prog w=.ok (.enter f args) w:=hcf
 clear hcf;go_enter Tryz.func181,Tryz.ntmps181;go_wp2
 go_loopw [4,8] (fun r i' wr=>∃ k:Nat,k≤a.length∧idxOf pr a 0=idxOf pr (a.drop k) k∧Keeps w wr∧i'=.int .i64 k∧r=.int .i64 0) (fun _ i _=>a.length-(intOf i).toNat)
 case atStart=>exact ⟨0,by omega,by simp,Keeps.refl w,rfl,rfl⟩
 case round=>
  obtain ⟨k,hk,hs,kw,rfl,rfl⟩:=hrel;have Hs:=hid hs;clear hs
  by_cases hlt:k<a.length
  ·obtain ⟨b,off,rfl,h1,h2⟩:=(hr.keeps kw).nd k hlt
   have hd:=hid (idxOf_drop pr a k hlt);clear hr
   cases hp:pr a[k]
   all_goals
    have Hp:=hid hp;clear hp
    go_wp2_with ((with_reducible refine (HF.out a[k] wr (List.getElem_mem hlt) kw).mono ?_);rintro e w2 ⟨rfl,k2⟩;rw [Hp.out])
   ·go_roundw
    case rel=>exact ⟨k+1,by omega,by rw [Hs.out,hd.out,Hp.out];rfl,kw.trans k2,by go_num,rfl⟩
    case measure=>simp [intOf];omega
   ·go_ret
    exact ⟨ret_int (by rw [Hs.out,hd.out,Hp.out];rfl),kw.trans k2⟩
  ·go_wp2
   go_ret;exact ⟨ret_int (by rw [Hs.out,idxOf_end _ _ _ (by omega)]),kw⟩
theorem containsFuncN (pr:Nd→Bool) (f:FuncId) (cp:Array Value) (a:List Nd) (v:Value) (w:World) (hv:Nds w v a) (hcf:Enters f)
  (hf:∀ x w1,x∈a→Keeps w w1→Calls Tryz.prog f (#[.agg #[.int .i64 x.k,.int .i64 x.s]]++cp) w1 fun e w2=>e=.returned (.bool (pr x))∧Keeps w1 w2):
  Calls Tryz.prog 148 #[v,.func (.func f) #[] cp] w fun e w'=>e=.returned (.bool (a.any pr))∧Keeps w w':=by
 have H:=hid (indexFuncN pr f cp a v w hv hcf hf);clear hv hf hcf;have he:=hid (idxOf_any pr a 0);go_enter Tryz.func148,Tryz.ntmps148
 go_wp2_with (go_at_call 181;refine H.out.mono ?_;rintro e w2 ⟨rfl,k2⟩)
 go_ret;exact ⟨ret_bool he.out,k2⟩
theorem isVariable_any (x:Int) (w:World):Calls Tryz.prog 182 #[.int .i64 x] w fun e w'=>e=.returned (.bool (inR x 0 5))∧w=w':=by
 go_enter Tryz.func182,Tryz.ntmps182
 go_wp2_with (go_at_call 76;refine (inRange_any _ _ _ _).mono ?_;rintro e w' ⟨rfl,rfl⟩)
 go_ret;exact ⟨rfl,rfl⟩
theorem isNode_any (x:Nd) (w:World):Calls Tryz.prog 150 #[.agg #[.int .i64 x.k,.int .i64 x.s]] w fun e w'=>e=.returned (.bool (okNd x))∧Keeps w w':=by
 by_cases h:x.k=0
 ·have h':(x.k==0)=true:=by simp [h]
  have H:=hid h;clear h;go_enter Tryz.func150,Tryz.ntmps150
  go_wp2_with (go_at_call 182;refine (isVariable_any _ _).mono ?_;rintro e w' ⟨rfl,rfl⟩)
  go_ret;exact ⟨ret_bool (by simp [okNd,H.out,inR]),(Keeps.refl w).alloc _⟩
 ·have h':(x.k==0)=false:=by simp [h]
  have H:=hid h;clear h
  cases hi:inR x.k 1 6
  all_goals
   have Hi:=hid hi;clear hi;go_enter Tryz.func150,Tryz.ntmps150
   go_wp2_with (go_at_call 76;refine (inRange_any _ _ _ _).mono ?_;rintro e w' ⟨rfl,rfl⟩;rw [Hi.out])
   go_ret;refine ⟨ret_bool ?_,(Keeps.refl w).alloc _⟩;have:=Hi.out;simp only [inR,decide_eq_true_eq,decide_eq_false_iff_not] at this;unfold okNd;rw [if_neg H.out]
   by_cases h0:x.s=0<;>simp [h0]<;>omega
theorem isFormula_1_any (x:Nd) (w:World):Calls Tryz.prog 149 #[.agg #[.int .i64 x.k,.int .i64 x.s]] w fun e w'=>e=.returned (.bool (!okNd x))∧Keeps w w':=by
 go_enter Tryz.func149,Tryz.ntmps149
 go_wp2_with (go_at_call 150;refine (isNode_any x _).mono ?_;rintro e w' ⟨rfl,k1⟩)
 go_ret;exact ⟨rfl,((Keeps.refl w).alloc _).trans k1⟩
theorem enters_isFormula_1:Enters 149:=fun _ _=>by kernel_rfl
theorem isFm_split (a:List Nd):isFm a=(decide (1≤a.length)&&(decide (a.length≤40)&&(!(a.any fun x=>!okNd x)&&(skipInt 1 a 0==(a.length:Int))))):=by
 unfold isFm isTree
 have:(!(a.any fun x=>!okNd x))=a.all okNd:=by
  induction a with
  | nil=>rfl
  | cons x l ih=>simp [List.all_cons,List.any_cons,←ih]
 rw [this]
 cases a.all okNd<;>simp
 by_cases h:0<a.length<;>simp [h]
 all_goals omega
theorem isFormula_any (a:List Nd) (v:Value) (w:World) (hv:Nds w v a):
  Calls Tryz.prog 116 #[v] w fun e w'=>e=.returned (.bool (isFm a))∧Keeps w w':=by
 have hsp:=hid (isFm_split a);have hv0:=hv;obtain ⟨p,cap,rfl,hle,hmx,hr,hlen⟩:=hv;unfold maxLen at hmx;clear hr
 by_cases h1:1≤a.length
 ·by_cases h40:a.length≤40
  ·cases ho:a.any fun x=>!okNd x
   all_goals
    have Ho:=hid ho;clear ho;go_enter Tryz.func116,Tryz.ntmps116
    go_wp2_with (first
     | (go_at_call 148;refine (containsFuncN (fun x=>!okNd x) _ #[] a _ _ hv0 enters_isFormula_1 (fun x w1 _ _=>isFormula_1_any x w1)).mono ?_;rintro e w1 ⟨rfl,k1⟩;rw [Ho.out])
     | (go_at_call 108;refine (partEnd_any a _ _ _ (hv0.keeps k1) (by omega) (by omega)).mono ?_;rintro e w' ⟨rfl,rfl⟩))
    go_ret;refine ⟨ret_bool ?_,k1⟩;rw [hsp.out,Ho.out];simp [h1,h40]
  ·go_enter Tryz.func116,Tryz.ntmps116
   go_wp2;go_ret;refine ⟨ret_bool ?_,Keeps.refl _⟩;rw [hsp.out];simp;omega
 ·go_enter Tryz.func116,Tryz.ntmps116
  go_wp2;go_ret;refine ⟨ret_bool ?_,Keeps.refl _⟩;rw [hsp.out];simp;omega
def modalB (k:Int):Bool:=decide (k=5∨k=6)
theorem isModal_any (x:Int) (w:World):Calls Tryz.prog 164 #[.int .i64 x] w fun e w'=>e=.returned (.bool (modalB x))∧w=w':=by
 go_enter Tryz.func164,Tryz.ntmps164;go_wp2
 all_goals go_ret
 all_goals exact ⟨ret_bool (by by_cases h5:x=5<;>by_cases h6:x=6<;>simp_all [modalB]),rfl⟩
theorem isPlain_1_any (x:Nd) (w:World):Calls Tryz.prog 163 #[.agg #[.int .i64 x.k,.int .i64 x.s]] w fun e w'=>e=.returned (.bool (modalB x.k))∧Keeps w w':=by
 go_enter Tryz.func163,Tryz.ntmps163
 go_wp2_with (go_at_call 164;refine (isModal_any _ _).mono ?_;rintro e w' ⟨rfl,rfl⟩)
 go_ret;exact ⟨rfl,(Keeps.refl w).alloc _⟩
theorem enters_isPlain_1:Enters 163:=fun _ _=>by kernel_rfl
theorem plainL_any (a:List Nd):(!(a.any fun x=>modalB x.k))=plainL a:=by
 unfold plainL
 induction a with
 | nil=>rfl
 | cons x l ih=>simp only [List.all_cons,List.any_cons,←ih];by_cases h:x.k=5<;>by_cases h':x.k=6<;>simp [h,h',modalB]
theorem isPlain_any (a:List Nd) (v:Value) (w:World) (hv:Nds w v a):
  Calls Tryz.prog 129 #[v] w fun e w'=>e=.returned (.bool (plainL a))∧Keeps w w':=by
 have hp:=hid (plainL_any a);go_enter Tryz.func129,Tryz.ntmps129
 go_wp2_with (go_at_call 148;refine (containsFuncN (fun x=>modalB x.k) _ #[] a _ _ hv enters_isPlain_1 (fun x w1 _ _=>isPlain_1_any x w1)).mono ?_;rintro e w1 ⟨rfl,k1⟩)
 go_ret;exact ⟨ret_bool hp.out,k1⟩
theorem part_any (a l:List Nd) (t:Fm) (r:List Nd) (v:Value) (i:Int) (w:World) (hv:Nds w v a) (ha:a=l++(t.enc++r)) (hi:i=l.length):
  Calls Tryz.prog 107 #[v,.int .i64 i] w (RetS w t.enc):=by
 subst hi;have hv0:=hv;obtain ⟨p,cap,rfl,hle,hmx,hr,hlen⟩:=hv;have hp:=Fm.enc_pos t
 have hs:skipInt 1 a (l.length:Int).toNat=l.length+t.enc.length:=by subst ha;exact skipInt_enc l t r
 have hl:l.length+t.enc.length≤a.length:=by subst ha;simp
 obtain ⟨b,off,rfl⟩:=hr.ptrN (by omega);have hmx0:=hid hmx;unfold maxLen at hmx;have Ha:=hid ha;clear ha;have Hs:=hid hs;clear hs
 have hc1:¬l.length+t.enc.length=l.length:=by omega
 go_enter Tryz.func107,Tryz.ntmps107
 go_wp2_with (go_at_call 108;refine (partEnd_any _ _ _ _ hv0 (by omega) (by omega)).mono ?_;rintro e w' ⟨rfl,rfl⟩;rw [Hs.out])
 go_ret;have e:=Ha.out;rw [e] at hr;exact ⟨_,rfl,Nds.sub (l:=l) (m:=t.enc) (r:=r) hr (by omega) rfl (by omega) (by omega) (by have:=hmx0.out;omega),rfl⟩
theorem first_any (a:List Nd) (x:Nd) (t:Fm) (r:List Nd) (v:Value) (w:World) (hv:Nds w v a) (ha:a=x::(t.enc++r)):
  Calls Tryz.prog 67 #[v] w (RetS w t.enc):=by
 go_enter Tryz.func67,Tryz.ntmps67
 go_wp2_with (go_at_call 107;refine (part_any a [x] t r _ _ _ hv ha rfl).mono ?_;rintro e w' ⟨v1,rfl,hv1,rfl⟩)
 go_ret;exact ⟨_,rfl,hv1,rfl⟩
theorem second_any (a:List Nd) (x:Nd) (t u:Fm) (v:Value) (w:World) (hv:Nds w v a) (ha:a=x::(t.enc++u.enc)):
  Calls Tryz.prog 70 #[v] w (RetS w u.enc):=by
 have hs:skipInt 1 a (1:Int).toNat=1+t.enc.length:=by subst ha;exact skipInt_enc [x] t u.enc
 have ha2:a=(x::t.enc)++(u.enc++[]):=by subst ha;simp
 have hl1:(1:Int)≤a.length:=by subst ha;simp;omega
 have Ha:=hid ha2;clear ha2 ha;have Hs:=hid hs;clear hs;go_enter Tryz.func70,Tryz.ntmps70
 go_wp2_with (first
  | (go_at_call 108;refine (partEnd_any _ _ _ _ hv (by omega) hl1).mono ?_;rintro e w' ⟨rfl,rfl⟩;rw [Hs.out])
  | (go_at_call 107;refine (part_any a (x::t.enc) u [] _ _ _ hv Ha.out (by simp;omega)).mono ?_;rintro e w' ⟨v1,rfl,hv1,rfl⟩))
 go_ret;exact ⟨_,rfl,hv1,rfl⟩
theorem isFalsum_any (t:Fm) (v:Value) (w:World) (hv:Nds w v t.enc):
  Calls Tryz.prog 162 #[v] w fun e w'=>e=.returned (.bool t.isFls)∧w=w':=by
 obtain ⟨b,off,n,cap,rfl,h0,h1,h2,h3,hc,_⟩:=hv.root;have hk:=hid (Fm.kind_isFls t);go_enter Tryz.func162,Tryz.ntmps162;go_wp2;go_ret;exact ⟨ret_bool hk.out,rfl⟩
theorem isNegation_any (t:Fm) (v:Value) (w:World) (hv:Nds w v t.enc):
  Calls Tryz.prog 161 #[v] w fun e w'=>e=.returned (.bool t.isNeg)∧w=w':=by
 have hv0:=hv;obtain ⟨b,off,n,cap,rfl,h0,h1,h2,h3,hc,_⟩:=hv.root;clear hv
 cases t with
 | imp x y=>
  go_enter Tryz.func161,Tryz.ntmps161
  go_wp2_with (first
   | (go_at_call 70;refine (second_any _ _ x y _ _ hv0 rfl).mono ?_;rintro e w' ⟨v2,rfl,hv2,rfl⟩)
   | (go_at_call 162;refine (isFalsum_any y _ _ hv2).mono ?_;rintro e w' ⟨rfl,rfl⟩))
  go_ret;exact ⟨rfl,rfl⟩
 | _=>
  clear hv0;simp only [Fm.kind] at hc;go_enter Tryz.func161,Tryz.ntmps161;go_wp2;go_ret;exact ⟨rfl,rfl⟩
end Go.Proofs.YtbccmdfdclomiaaGreatDoor
