import Derived.Test.YtbccmdfdclomiaaGreatDoorHBase
/- own -/
namespace Go.Proofs.YtbccmdfdclomiaaGreatDoor
set_option maxHeartbeats 1000000
section
open Go.RowKit
def idxOf {α:Type} (pr:α→Bool):List α→Nat→Int
 | [],_=>-1
 | x::l,k=>if pr x then k else idxOf pr l (k+1)
theorem idxOf_any {α:Type} (pr:α→Bool) (l:List α):∀ k,decide (idxOf pr l k≥0)=l.any pr:=by
 induction l with
 | nil=>intro k;simp [idxOf]
 | cons x l ih=>
  intro k
  cases h:pr x
  ·have:=ih (k+1);simp only [idxOf,List.any_cons,h];simpa using this
  ·simp only [idxOf,h,List.any_cons];simp
theorem idxOf_drop {α:Type} (pr:α→Bool) (l:List α) (k:Nat) (h:k<l.length):idxOf pr (l.drop k) k=if pr l[k] then (k:Int) else idxOf pr (l.drop (k+1)) (k+1):=by
 rw [List.drop_eq_getElem_cons h];rfl
theorem idxOf_end {α:Type} (pr:α→Bool) (l:List α) (k:Nat) (h:l.length≤k):idxOf pr (l.drop k) k = -1:=by
 rw [List.drop_eq_nil_of_le h];rfl
def Enters (f:FuncId):Prop:=∀ args w,(callFunc f args).run Tryz.prog w=.ok (.enter f args) w
def inR (x l h:Int):Bool:=decide (l≤x∧x≤h)
theorem l01In_any (x l h:Int) (w:World):Calls Tryz.prog 45 #[.int .i64 x,.int .i64 l,.int .i64 h] w fun e w'=>e=.returned (.bool (inR x l h))∧w=w':=by
 by_cases h1:l≤x
 ·by_cases h2:x≤h
  all_goals
   go_enter Tryz.func45,Tryz.ntmps45;go_wp2;go_ret;exact ⟨ret_bool (by simp [inR, *]),rfl⟩
 ·go_enter Tryz.func45,Tryz.ntmps45
  go_wp2;go_ret;exact ⟨ret_bool (by simp [inR];omega),rfl⟩
theorem inRange_any (x l h:Int) (w:World):Calls Tryz.prog 76 #[.int .i64 x,.int .i64 l,.int .i64 h] w fun e w'=>e=.returned (.bool (inR x l h))∧w=w':=by
 by_cases h1:l≤x
 ·by_cases h2:x≤h
  all_goals
   go_enter Tryz.func76,Tryz.ntmps76;go_wp2;go_ret;exact ⟨ret_bool (by simp [inR, *]),rfl⟩
 ·go_enter Tryz.func76,Tryz.ntmps76
  go_wp2;go_ret;exact ⟨ret_bool (by simp [inR];omega),rfl⟩
theorem l02Parts_any (k:Int) (w:World):
  Calls Tryz.prog 144 #[.int .i64 k] w fun e w'=>e=.returned (.int .i64 (partsOf k))∧w=w':=by
 go_enter Tryz.func144,Tryz.ntmps144;go_wp2
 all_goals go_ret
 all_goals refine ⟨ret_int ?_,rfl⟩
 all_goals (simp_all [partsOf])
theorem partsOf_any (k:Int) (w:World):
  Calls Tryz.prog 143 #[.int .i64 k] w fun e w'=>e=.returned (.int .i64 (partsOf k))∧w=w':=by
 go_enter Tryz.func143,Tryz.ntmps143;go_wp2
 all_goals go_ret
 all_goals refine ⟨ret_int ?_,rfl⟩
 all_goals (simp_all [partsOf])
theorem l02Part_any (a:List Nd) (v:Value) (i:Int) (w:World) (hv:Nds w v a) (h0:0≤i) (hi:i≤a.length):
  Calls Tryz.prog 109 #[v,.int .i64 i] w fun e w'=>e=.returned (.int .i64 (skipInt 1 a i.toNat))∧w=w':=by
 obtain ⟨i,rfl⟩:=Int.eq_ofNat_of_zero_le h0;rw [Int.toNat_natCast];obtain ⟨p,cap,rfl,hle,hmx,hr,hlen⟩:=hv;unfold maxLen at hmx;go_enter Tryz.func109,Tryz.ntmps109;go_wp2
 go_loop [1,4,5] (fun i' r o=>∃ k op:Nat,k≤a.length∧op≤1+k∧skipInt 1 a i=skipInt op a k∧i'=.int .i64 k∧o=.int .i64 op∧r=.int .i64 0) (fun i _ _=>a.length-(intOf i).toNat)
 case atStart=>exact ⟨i,1,by omega,by omega,rfl,rfl,rfl,rfl⟩
 case round=>
  obtain ⟨k,op,hk,hop,hs,rfl,rfl,rfl⟩:=hrel;have Hs:=hid hs;clear hs
  by_cases h0:0<op
  ·by_cases hlt:k<a.length
   ·obtain ⟨b,off,rfl,h1,h2⟩:=hr.nd k hlt
    have hp:=partsOf_le a[k].k;clear hr h2
    go_wp2_with (go_at_call 144;refine (l02Parts_any _ _).mono ?_;rintro e w' ⟨rfl,rfl⟩)
    go_round
    case rel=>exact ⟨k+1,op-1+partsOf a[k].k,by omega,by omega,by rw [Hs.out];obtain ⟨q,rfl⟩:∃ q,op=q+1:=⟨op-1,by omega⟩;exact skip_step q a k hlt,by go_num,by go_num,rfl⟩
    case measure=>simp [intOf];omega
   ·go_wp2
    go_ret;refine ⟨ret_int ?_,rfl⟩
    obtain ⟨q,rfl⟩:∃ q,op=q+1:=⟨op-1,by omega⟩
    rw [Hs.out,skip_end _ _ _ (by omega)]
  ·go_wp2
   go_ret;refine ⟨ret_int ?_,rfl⟩
   obtain rfl:op=0:=by omega
   rw [Hs.out,skip_zero _ _ hk]
theorem partEnd_any (a:List Nd) (v:Value) (i:Int) (w:World) (hv:Nds w v a) (h0:0≤i) (hi:i≤a.length):
  Calls Tryz.prog 108 #[v,.int .i64 i] w fun e w'=>e=.returned (.int .i64 (skipInt 1 a i.toNat))∧w=w':=by
 obtain ⟨i,rfl⟩:=Int.eq_ofNat_of_zero_le h0;rw [Int.toNat_natCast];obtain ⟨p,cap,rfl,hle,hmx,hr,hlen⟩:=hv;unfold maxLen at hmx;go_enter Tryz.func108,Tryz.ntmps108;go_wp2
 go_loop [1,4,5] (fun i' r o=>∃ k op:Nat,k≤a.length∧op≤1+k∧skipInt 1 a i=skipInt op a k∧i'=.int .i64 k∧o=.int .i64 op∧r=.int .i64 0) (fun i _ _=>a.length-(intOf i).toNat)
 case atStart=>exact ⟨i,1,by omega,by omega,rfl,rfl,rfl,rfl⟩
 case round=>
  obtain ⟨k,op,hk,hop,hs,rfl,rfl,rfl⟩:=hrel;have Hs:=hid hs;clear hs
  by_cases h0:0<op
  ·by_cases hlt:k<a.length
   ·obtain ⟨b,off,rfl,h1,h2⟩:=hr.nd k hlt
    have hp:=partsOf_le a[k].k;clear hr h2
    go_wp2_with (go_at_call 143;refine (partsOf_any _ _).mono ?_;rintro e w' ⟨rfl,rfl⟩)
    go_round
    case rel=>exact ⟨k+1,op-1+partsOf a[k].k,by omega,by omega,by rw [Hs.out];obtain ⟨q,rfl⟩:∃ q,op=q+1:=⟨op-1,by omega⟩;exact skip_step q a k hlt,by go_num,by go_num,rfl⟩
    case measure=>simp [intOf];omega
   ·go_wp2
    go_ret;refine ⟨ret_int ?_,rfl⟩
    obtain ⟨q,rfl⟩:∃ q,op=q+1:=⟨op-1,by omega⟩
    rw [Hs.out,skip_end _ _ _ (by omega)]
  ·go_wp2
   go_ret;refine ⟨ret_int ?_,rfl⟩
   obtain rfl:op=0:=by omega
   rw [Hs.out,skip_zero _ _ hk]
theorem l02Tree_any (a:List Nd) (v:Value) (w:World) (hv:Nds w v a):
  Calls Tryz.prog 91 #[v] w fun e w'=>e=.returned (.bool (isTree a))∧w=w':=by
 have hv0:=hv;obtain ⟨p,cap,rfl,hle,hmx,hr,hlen⟩:=hv;unfold maxLen at hmx;go_enter Tryz.func91,Tryz.ntmps91;go_wp2
 go_loop [2,3] (fun r i'=>∃ k:Nat,k≤a.length∧(∀ j (h:j<a.length),j<k→okNd a[j]=true)∧i'=.int .i64 k∧r=.bool false) (fun _ i=>a.length-(intOf i).toNat)
 case atStart=>exact ⟨0,by omega,by omega,rfl,rfl⟩
 case round=>
  obtain ⟨k,hk,hs,rfl,rfl⟩:=hrel;have Hs:=hid hs;clear hs
  by_cases hlt:k<a.length
  ·obtain ⟨b,off,rfl,h1,h2⟩:=hr.nd k hlt
   clear hr hv0
   by_cases g1:inR a[k].k 0 6=true
   ·by_cases g2:inR a[k].s 0 5=true
    ·by_cases g3:a[k].k=0
     ·have G3:=hid g3
      have g3':(a[k].k != 0)=false:=by simp [g3]
      clear g3
      go_wp2_with (go_at_call 45;refine (l01In_any _ _ _ _).mono ?_;rintro e w' ⟨rfl,rfl⟩)
      go_round
      case rel=>
       refine ⟨k+1,by omega,?_,by go_num,rfl⟩;intro j hj hjk
       by_cases e:j=k
       ·subst e;have:=G3.out;simp [inR] at g2;simp [okNd,this];omega
       ·exact Hs.out j hj (by omega)
      case measure=>simp [intOf];omega
     ·have g3':(a[k].k != 0)=true:=by simp [g3]
      have G3:=hid g3;clear g3
      by_cases g4:a[k].s=0
      ·have G4:=hid g4
       have g4':(a[k].s != 0)=false:=by simp [g4]
       clear g4
       go_wp2_with (go_at_call 45;refine (l01In_any _ _ _ _).mono ?_;rintro e w' ⟨rfl,rfl⟩)
       go_round
       case rel=>
        refine ⟨k+1,by omega,?_,by go_num,rfl⟩;intro j hj hjk
        by_cases e:j=k
        ·subst e;have h3:=G3.out;have h4:=G4.out;simp [inR] at g1;simp [okNd,h3,h4];omega
        ·exact Hs.out j hj (by omega)
       case measure=>simp [intOf];omega
      ·have g4':(a[k].s != 0)=true:=by simp [g4]
       have hbad:isTree a=false:=by
        have:okNd a[k]=false:=by have:=G3.out;simp [okNd,this];omega
        simp only [isTree,Bool.and_eq_false_iff];left;rw [List.all_eq_false];exact ⟨a[k],by simp,by simp [this]⟩
       have Hb:=hid hbad;clear hbad g4
       go_wp2_with (go_at_call 45;refine (l01In_any _ _ _ _).mono ?_;rintro e w' ⟨rfl,rfl⟩)
       go_ret;exact ⟨ret_bool Hb.out.symm,rfl⟩
    ·have hbad:isTree a=false:=by
      have:okNd a[k]=false:=by simp [inR] at g1 g2;simp only [okNd];split<;>simp<;>omega
      simp only [isTree,Bool.and_eq_false_iff];left;rw [List.all_eq_false];exact ⟨a[k],by simp,by simp [this]⟩
     have Hb:=hid hbad;clear hbad;simp only [Bool.not_eq_true] at g2
     go_wp2_with (go_at_call 45;refine (l01In_any _ _ _ _).mono ?_;rintro e w' ⟨rfl,rfl⟩)
     go_ret;exact ⟨ret_bool Hb.out.symm,rfl⟩
   ·have hbad:isTree a=false:=by
     have:okNd a[k]=false:=by simp [inR] at g1;simp only [okNd];split<;>simp<;>omega
     simp only [isTree,Bool.and_eq_false_iff];left;rw [List.all_eq_false];exact ⟨a[k],by simp,by simp [this]⟩
    have Hb:=hid hbad;clear hbad;simp only [Bool.not_eq_true] at g1
    go_wp2_with (go_at_call 45;refine (l01In_any _ _ _ _).mono ?_;rintro e w' ⟨rfl,rfl⟩)
    go_ret;exact ⟨ret_bool Hb.out.symm,rfl⟩
  ·have hall:a.all okNd=true:=by
    rw [List.all_eq_true];intro x hx;obtain ⟨j,hj,rfl⟩:=List.getElem_of_mem hx;exact Hs.out j hj (by omega)
   have Ha:=hid hall;clear hall
   by_cases h0:0<a.length
   ·go_wp2_with (go_at_call 109;refine (l02Part_any _ _ _ _ hv0 (by omega) (by omega)).mono ?_;rintro e w' ⟨rfl,rfl⟩)
    go_ret;exact ⟨ret_bool (by simp [isTree,Ha.out];omega),rfl⟩
   ·go_wp2
    go_ret;exact ⟨ret_bool (by simp [isTree];omega),rfl⟩
structure Ln where
 r:Int
 f:Int
 s:Int
 a:List Nd
def schF:List Fm:=[.imp (.var 0) (.imp (.var 1) (.var 0)),.imp (.imp (.var 0) (.imp (.var 1) (.var 2))) (.imp (.imp (.var 0) (.var 1)) (.imp (.var 0) (.var 2))),.imp (.and (.var 0) (.var 1)) (.var 0),.imp (.and (.var 0) (.var 1)) (.var 1),.imp (.var 0) (.imp (.var 1) (.and (.var 0) (.var 1))),.imp (.var 0) (.or (.var 0) (.var 1)),.imp (.var 1) (.or (.var 0) (.var 1)),
 .imp (.imp (.var 0) (.var 2)) (.imp (.imp (.var 1) (.var 2)) (.imp (.or (.var 0) (.var 1)) (.var 2))),.imp .fls (.var 0),.imp (.imp (.imp (.var 0) .fls) .fls) (.var 0),.imp (.box (.imp (.var 0) (.var 1))) (.imp (.box (.var 0)) (.box (.var 1))),.imp (.dia (.var 0)) (.imp (.box (.imp (.var 0) .fls)) .fls),.imp (.imp (.box (.imp (.var 0) .fls)) .fls) (.dia (.var 0)),
 .imp (.box (.var 0)) (.var 0),.imp (.box (.var 0)) (.box (.box (.var 0))),.imp (.dia (.var 0)) (.box (.dia (.var 0))),.imp (.var 0) (.box (.dia (.var 0))),.imp (.box (.var 0)) (.dia (.var 0)),.imp (.box (.imp (.box (.var 0)) (.var 0))) (.box (.var 0))]
def schm (k:Nat):Fm:=schF.getD k .fls
def moreS (L:Nat):List Int:=if L=1 then [17] else if L=2 then [13] else if L=3 then [14] else if L=4 then [13,14] else if L=5 then [18] else if L=6 then [13,15] else if L=7 then [16] else []
def lastS (L:Nat):Nat:=if L=8 then 9 else if L=9 then 10 else 13
def schS (L:Nat):List Int:=(List.range (lastS L)).map Int.ofNat++moreS L
def sbF (τ:Nat→Fm):Fm→Fm
 | .var v=>τ v
 | .fls=>.fls
 | .and a b=>.and (sbF τ a) (sbF τ b)
 | .or a b=>.or (sbF τ a) (sbF τ b)
 | .imp a b=>.imp (sbF τ a) (sbF τ b)
 | .box a=>.box (sbF τ a)
 | .dia a=>.dia (sbF τ a)
def bindO (σ:Nat→Option Fm) (v:Nat) (u:Fm):Nat→Option Fm:=fun x=>if x=v then some u else σ x
def mtF:Nat→List Fm→List Fm→(Nat→Option Fm)→Option (Nat→Option Fm)
 | 0,_,_,_=>none
 | _+1,[],us,σ=>if us=[] then some σ else none
 | _+1,_::_,[],_=>none
 | n+1,.var v::ts,u::us,σ=>if σ v=none∨σ v=some u then mtF n ts us (bindO σ v u) else none
 | n+1,.fls::ts,.fls::us,σ=>mtF n ts us σ
 | n+1,.and a b::ts,.and c d::us,σ=>mtF n (a::b::ts) (c::d::us) σ
 | n+1,.or a b::ts,.or c d::us,σ=>mtF n (a::b::ts) (c::d::us) σ
 | n+1,.imp a b::ts,.imp c d::us,σ=>mtF n (a::b::ts) (c::d::us) σ
 | n+1,.box a::ts,.box c::us,σ=>mtF n (a::ts) (c::us) σ
 | n+1,.dia a::ts,.dia c::us,σ=>mtF n (a::ts) (c::us) σ
 | _+1,_,_,_=>none
def getO (σ:Nat→Option Fm) (v:Nat):Fm:=(σ v).getD .fls
def ExtO (σ τ:Nat→Option Fm):Prop:=∀ v u,σ v=some u→τ v=some u
theorem ExtO.bind {σ:Nat→Option Fm} {v:Nat} {u:Fm} (h:σ v=none∨σ v=some u):ExtO σ (bindO σ v u):=fun x y hx=>by
 unfold bindO
 split
 ·rename_i e;subst e
  rcases h with h | h
  ·rw [h] at hx;cases hx
  ·rw [h] at hx;exact hx
 ·exact hx
theorem mtF_sound:∀ (n:Nat) (ts us:List Fm) (σ τ:Nat→Option Fm),mtF n ts us σ=some τ→ExtO σ τ∧us=ts.map (sbF (getO τ))
 | 0,_,_,_,_,h=>by simp [mtF] at h
 | n+1,[],us,σ,τ,h=>by
  unfold mtF at h
  split at h
  ·rename_i e;subst e;cases h;exact ⟨fun _ _ h=>h,rfl⟩
  ·cases h
 | n + 1,t::ts,us,σ,τ,h=>by
  cases us with
  | nil=>unfold mtF at h;cases h
  | cons u us=>
   cases t with
   | var v=>
    unfold mtF at h
    split at h
    ·rename_i e
     obtain ⟨h1,h2⟩:=mtF_sound n ts us _ τ h;have h3:τ v=some u:=h1 v u (by simp [bindO]);refine ⟨fun x y hx=>h1 x y (ExtO.bind e x y hx),?_⟩;simp only [List.map_cons,sbF,getO,h3,Option.getD_some];rw [h2]
    ·cases h
   | fls=>cases u<;>unfold mtF at h<;>first | cases h | (obtain ⟨h1,h2⟩:=mtF_sound n _ _ _ τ h;exact ⟨h1,by simp only [List.map_cons,sbF];rw [h2]⟩)
   | and a b=>
    cases u<;>unfold mtF at h<;>try cases h
    obtain ⟨h1,h2⟩:=mtF_sound n _ _ _ τ h;simp only [List.map_cons,List.cons.injEq] at h2;exact ⟨h1,by simp only [List.map_cons,sbF];rw [h2.1,h2.2.1,h2.2.2]⟩
   | or a b=>
    cases u<;>unfold mtF at h<;>try cases h
    obtain ⟨h1,h2⟩:=mtF_sound n _ _ _ τ h;simp only [List.map_cons,List.cons.injEq] at h2;exact ⟨h1,by simp only [List.map_cons,sbF];rw [h2.1,h2.2.1,h2.2.2]⟩
   | imp a b=>
    cases u<;>unfold mtF at h<;>try cases h
    obtain ⟨h1,h2⟩:=mtF_sound n _ _ _ τ h;simp only [List.map_cons,List.cons.injEq] at h2;exact ⟨h1,by simp only [List.map_cons,sbF];rw [h2.1,h2.2.1,h2.2.2]⟩
   | box a=>
    cases u<;>unfold mtF at h<;>try cases h
    obtain ⟨h1,h2⟩:=mtF_sound n _ _ _ τ h;simp only [List.map_cons,List.cons.injEq] at h2;exact ⟨h1,by simp only [List.map_cons,sbF];rw [h2.1,h2.2]⟩
   | dia a=>
    cases u<;>unfold mtF at h<;>try cases h
    obtain ⟨h1,h2⟩:=mtF_sound n _ _ _ τ h;simp only [List.map_cons,List.cons.injEq] at h2;exact ⟨h1,by simp only [List.map_cons,sbF];rw [h2.1,h2.2]⟩
def insT (k:Nat) (t:Fm):Bool:=(mtF ((schm k).enc.length+1) [schm k] [t] (fun _=>none)).isSome
theorem insT_sound {k:Nat} {t:Fm} (h:insT k t=true):∃ τ,t=sbF τ (schm k):=by
 unfold insT at h;obtain ⟨τ,e⟩:=Option.isSome_iff_exists.1 h;have h2:=(mtF_sound _ _ _ _ _ e).2;simp only [List.map_cons,List.map_nil,List.cons.injEq] at h2;exact ⟨_,h2.1⟩
end
section
open Fm
structure KM where
 W:Type
 le:W→W→Prop
 refl:∀ w,le w w
 trans:∀ a b c,le a b→le b c→le a c
 V:W→Nat→Prop
 mono:∀ a b p,le a b→V a p→V b p
namespace KM
def forces (M:KM):M.W→Fm→Prop
 | w,.var v=>M.V w v
 | _,.fls=>False
 | w,.and a b=>forces M w a∧forces M w b
 | w,.or a b=>forces M w a∨forces M w b
 | w,.imp a b=>∀ u,M.le w u→forces M u a→forces M u b
 | _,.box _=>False
 | _,.dia _=>False
theorem up (M:KM) (a:Fm):∀ w u,M.le w u→M.forces w a→M.forces u a:=by
 induction a with
 | var v=>intro w u h hw;exact M.mono _ _ _ h hw
 | fls=>intro w u _ hw;exact hw
 | and a b iha ihb=>intro w u h hw;exact ⟨iha _ _ h hw.1,ihb _ _ h hw.2⟩
 | or a b iha ihb=>intro w u h hw;exact hw.imp (iha _ _ h) (ihb _ _ h)
 | imp a b _ _=>intro w u h hw x hx;exact hw x (M.trans _ _ _ h hx)
 | box a _=>intro w u _ hw;exact hw
 | dia a _=>intro w u _ hw;exact hw
end KM
def Sq (G:List Fm) (c:Fm):Prop:=∀ (M:KM) (w:M.W),(∀ a∈G,M.forces w a)→M.forces w c
theorem not_sq {G:List Fm} {c:Fm} (h:¬Sq G c):∃ (M:KM) (w:M.W),(∀ a∈G,M.forces w a)∧¬M.forces w c:=by
 unfold Sq at h;simp only [Classical.not_forall] at h;obtain ⟨M,w,hg,hc⟩:=h;exact ⟨M,w,hg,hc⟩
def glue {ι:Type} (M:ι→KM) (r:∀ i,(M i).W) (A:Nat→Prop) (hA:∀ i p,A p→(M i).V (r i) p):KM where
 W:=Option (Σ i,(M i).W)
 le:=fun x y=>match x,y with
  | none,none=>True
  | none,some ⟨i,u⟩=>(M i).le (r i) u
  | some _,none=>False
  | some ⟨i,u⟩,some ⟨j,v⟩=>∃ h:i=j,(M j).le (h▸u) v
 refl:=fun x=>by
  cases x with
  | none=>trivial
  | some x=>obtain ⟨i,u⟩:=x;exact ⟨rfl,(M i).refl u⟩
 trans:=fun x y z h k=>by
  cases x with
  | none=>
   cases y with
   | none=>exact k
   | some y=>
    cases z with
    | none=>exact k.elim
    | some z=>
     obtain ⟨i,u⟩:=y;obtain ⟨j,v⟩:=z;obtain ⟨rfl,k⟩:=k;exact (M i).trans _ _ _ h k
  | some x=>
   cases y with
   | none=>exact h.elim
   | some y=>
    cases z with
    | none=>exact k.elim
    | some z=>
     obtain ⟨i,u⟩:=x;obtain ⟨j,v⟩:=y;obtain ⟨l,t⟩:=z;obtain ⟨rfl,h⟩:=h;obtain ⟨rfl,k⟩:=k;exact ⟨rfl,(M i).trans _ _ _ h k⟩
 V:=fun x p=>match x with
  | none=>A p
  | some ⟨i,u⟩=>(M i).V u p
 mono:=fun x y p h k=>by
  cases x with
  | none=>
   cases y with
   | none=>exact k
   | some y=>obtain ⟨i,u⟩:=y;exact (M i).mono _ _ _ h (hA i p k)
  | some x=>
   cases y with
   | none=>exact h.elim
   | some y=>
    obtain ⟨i,u⟩:=x;obtain ⟨j,v⟩:=y;obtain ⟨rfl,h⟩:=h;exact (M i).mono _ _ _ h k
theorem glue_some {ι:Type} (M:ι→KM) (r:∀ i,(M i).W) (A:Nat→Prop) (hA:∀ i p,A p→(M i).V (r i) p) (a:Fm):
  ∀ i (u:(M i).W),(glue M r A hA).forces (some ⟨i,u⟩) a↔(M i).forces u a:=by
 induction a with
 | var v=>intro i u;exact Iff.rfl
 | fls=>intro i u;exact Iff.rfl
 | and a b iha ihb=>intro i u;exact and_congr (iha i u) (ihb i u)
 | or a b iha ihb=>intro i u;exact or_congr (iha i u) (ihb i u)
 | imp a b iha ihb=>
  intro i u;constructor
  ·intro h v hv ha
   exact (ihb i v).1 (h (some ⟨i,v⟩) ⟨rfl,hv⟩ ((iha i v).2 ha))
  ·intro h y hy ha
   cases y with
   | none=>exact hy.elim
   | some y=>
    obtain ⟨j,v⟩:=y;obtain ⟨rfl,hy⟩:=hy;exact (ihb i v).2 (h v hy ((iha i v).1 ha))
 | box a _=>intro i u;exact Iff.rfl
 | dia a _=>intro i u;exact Iff.rfl
theorem sq_congr {G H:List Fm} {c:Fm} (h:∀ (M:KM) (w:M.W),(∀ a∈G,M.forces w a)↔(∀ a∈H,M.forces w a)):Sq G c↔Sq H c:=
 ⟨fun k M w hw=>k M w ((h M w).2 hw),fun k M w hw=>k M w ((h M w).1 hw)⟩
theorem sq_mem {G:List Fm} {c:Fm} (h:c∈G):Sq G c:=fun _ _ hw=>hw c h
theorem sq_fls {G:List Fm} {c:Fm} (h:fls∈G):Sq G c:=fun _ _ hw=>(hw fls h).elim
theorem sq_and {G:List Fm} {a b:Fm}:Sq G (and a b)↔Sq G a∧Sq G b:=
 ⟨fun h=>⟨fun M w hw=>(h M w hw).1,fun M w hw=>(h M w hw).2⟩,fun h M w hw=>⟨h.1 M w hw,h.2 M w hw⟩⟩
theorem sq_imp {G:List Fm} {a b:Fm}:Sq G (imp a b)↔Sq (a::G) b:=by
 constructor
 ·intro h M w hw
  exact h M w (fun x hx=>hw x (List.mem_cons_of_mem _ hx)) w (M.refl w) (hw a (List.mem_cons_self ..))
 ·intro h M w hw u hu ha
  refine h M u (fun x hx=>?_)
  rcases List.mem_cons.1 hx with rfl | hx
  ·exact ha
  ·exact M.up _ _ _ hu (hw x hx)
theorem sq_left {G H:List Fm} {c x:Fm} {ys:List Fm} (hG:∀ a,a∈G↔a=x∨a∈H) (h:∀ (M:KM) (w:M.W),(∀ a∈H,M.forces w a)→(M.forces w x↔∀ y∈ys,M.forces w y)):Sq G c↔Sq (ys++H) c:=by
 refine sq_congr fun M w=>⟨fun hw y hy=>?_,fun hw a ha=>?_⟩
 ·rcases List.mem_append.1 hy with hy | hy
  ·exact (h M w (fun a ha=>hw a ((hG a).2 (.inr ha)))).1 (hw x ((hG x).2 (.inl rfl))) y hy
  ·exact hw y ((hG y).2 (.inr hy))
 ·rcases (hG a).1 ha with rfl | ha
  ·exact (h M w (fun a ha=>hw a (List.mem_append.2 (.inr ha)))).2 fun y hy=>hw y (List.mem_append.2 (.inl hy))
  ·exact hw a (List.mem_append.2 (.inr ha))
theorem sq_or_left {G H:List Fm} {c x y:Fm} (hG:∀ a,a∈G↔a=or x y∨a∈H):Sq G c↔Sq (x::H) c∧Sq (y::H) c:=by
 constructor
 ·intro h
  refine ⟨fun M w hw=>h M w fun a ha=>?_,fun M w hw=>h M w fun a ha=>?_⟩
  ·rcases (hG a).1 ha with rfl | ha
   ·exact .inl (hw x (List.mem_cons_self ..))
   ·exact hw a (List.mem_cons_of_mem _ ha)
  ·rcases (hG a).1 ha with rfl | ha
   ·exact .inr (hw y (List.mem_cons_self ..))
   ·exact hw a (List.mem_cons_of_mem _ ha)
 ·intro h M w hw
  have hH:∀ a∈H,M.forces w a:=fun a ha=>hw a ((hG a).2 (.inr ha))
  rcases hw (or x y) ((hG _).2 (.inl rfl)) with hx | hy
  ·exact h.1 M w fun a ha=>by
    rcases List.mem_cons.1 ha with rfl | ha
    ·exact hx
    ·exact hH a ha
  ·exact h.2 M w fun a ha=>by
    rcases List.mem_cons.1 ha with rfl | ha
    ·exact hy
    ·exact hH a ha
theorem forces_impimp (M:KM) (w:M.W) {x y b:Fm} (h:M.forces w (imp y b)) (hx:M.forces w x):M.forces w (imp (imp x y) b):=by
 intro u hu hxy;exact h u hu (hxy u (M.refl u) (M.up _ _ _ hu hx))
structure Final (G:List Fm):Prop where
 nof:fls∉G
 forms:∀ a∈G,(∃ p,a=var p)∨(∃ p b,a=imp (var p) b∧var p∉G)∨(∃ b,a=imp fls b)∨(∃ x y b,a=imp (imp x y) b)
def Way (G:List Fm) (c x y b:Fm):Prop:=Sq (x::imp y b::G) y∧Sq (b::G) c
theorem way_sound {G:List Fm} {c x y b:Fm} (hm:imp (imp x y) b∈G) (h:Way G c x y b):Sq G c:=by
 intro M w hw
 have hxy:M.forces w (imp x y):=by
  intro u hu hx
  refine h.1 M u fun a ha=>?_
  rcases List.mem_cons.1 ha with rfl | ha
  ·exact hx
  ·rcases List.mem_cons.1 ha with rfl | ha
   ·intro v hv hy
    exact hw _ hm v (M.trans _ _ _ hu hv) fun t ht _=>M.up _ _ _ ht hy
   ·exact M.up _ _ _ hu (hw a ha)
 have hb:M.forces w b:=hw _ hm w (M.refl w) hxy
 exact h.2 M w fun a ha=>by
  rcases List.mem_cons.1 ha with rfl | ha
  ·exact hb
  ·exact hw a ha
theorem final_complete {G:List Fm} {c:Fm} (hF:Final G) (hc:(∃ p,c=var p∧var p∉G)∨c=fls∨(∃ d e,c=Fm.or d e)) (h:Sq G c):
  (∃ d e,c=Fm.or d e∧(Sq G d∨Sq G e))∨(∃ x y b,imp (imp x y) b∈G∧Way G c x y b):=by
 classical
 by_cases hor:∃ d e,c=Fm.or d e∧(Sq G d∨Sq G e)
 ·exact .inl hor
 refine .inr (Classical.byContradiction fun hno=>?_)
 -- a countermodel for each implication of an implication: its left premise fails, or the right one does and we are done
 by_cases hright:∃ x y b,imp (imp x y) b∈G∧Sq (x::imp y b::G) y∧¬Sq (b::G) c
 ·obtain ⟨x,y,b,hm,_,hn⟩:=hright
  obtain ⟨M,w,hw,hcw⟩:=not_sq hn;exact hcw (h M w fun a ha=>hw a (List.mem_cons_of_mem _ ha))
 have hleft:∀ x y b,imp (imp x y) b∈G→¬Sq (x::imp y b::G) y:=by
  intro x y b hm hs
  by_cases hr:Sq (b::G) c
  ·exact hno ⟨x,y,b,hm,hs,hr⟩
  ·exact hright ⟨x,y,b,hm,hs,hr⟩
 -- the index: the implications of G, and the two sides of c
 let ι:={ t:Fm×Fm×Fm // imp (imp t.1 t.2.1) t.2.2∈G } ⊕ { d:Fm // (∃ e,c=Fm.or d e∨c=Fm.or e d)∧¬Sq G d }
 have hmod:∀ i:ι,∃ (M:KM) (w:M.W),(∀ a∈G,M.forces w a)∧(match i with
   | .inl t=>M.forces w t.1.1∧¬M.forces w t.1.2.1
   | .inr d=>¬M.forces w d.1):=by
  intro i
  cases i with
  | inl t=>
   obtain ⟨M,w,hw,hn⟩:=not_sq (hleft _ _ _ t.2);exact ⟨M,w,fun a ha=>hw a (List.mem_cons_of_mem _ (List.mem_cons_of_mem _ ha)),hw _ (List.mem_cons_self ..),hn⟩
  | inr d=>
   obtain ⟨M,w,hw,hn⟩:=not_sq d.2.2;exact ⟨M,w,hw,hn⟩
 let M:ι→KM:=fun i=>Classical.choose (hmod i)
 let r:∀ i,(M i).W:=fun i=>Classical.choose (Classical.choose_spec (hmod i))
 have hr:∀ i,(∀ a∈G,(M i).forces (r i) a)∧(match i with
   | .inl t=>(M i).forces (r i) t.1.1∧¬(M i).forces (r i) t.1.2.1
   | .inr d=>¬(M i).forces (r i) d.1):=fun i=>Classical.choose_spec (Classical.choose_spec (hmod i))
 let A:Nat→Prop:=fun p=>var p∈G
 have hA:∀ i p,A p→(M i).V (r i) p:=fun i p hp=>(hr i).1 _ hp
 let N:=glue M r A hA
 have habove:∀ i (u:(M i).W),(M i).le (r i) u→∀ a∈G,N.forces (some ⟨i,u⟩) a:=fun i u hu a ha=>
  (glue_some M r A hA a i u).2 ((M i).up _ _ _ hu ((hr i).1 a ha))
 have hroot:∀ a∈G,N.forces (none:Option (Σ i,(M i).W)) a:=by
  intro a ha
  rcases hF.forms a ha with ⟨p,rfl⟩ | ⟨p,b,rfl,hp⟩ | ⟨b,rfl⟩ | ⟨x,y,b,rfl⟩
  ·exact ha
  ·intro u hu hpu
   cases u with
   | none=>exact (hp hpu).elim
   | some u=>
    obtain ⟨i,u⟩:=u;exact habove i u hu _ ha (some ⟨i,u⟩) (N.refl _) hpu
  ·intro u _ hf;exact hf.elim
  ·intro u hu hxy
   cases u with
   | none=>
    have h1:=(hr (.inl ⟨(x,y,b),ha⟩)).2;let i0:ι:=.inl ⟨(x,y,b),ha⟩;have hx:=(glue_some M r A hA x i0 (r i0)).2 h1.1;have hy:=hxy (some ⟨i0,r i0⟩) ((M i0).refl _) hx;exact (h1.2 ((glue_some M r A hA y i0 (r i0)).1 hy)).elim
   | some u=>
    obtain ⟨i,u⟩:=u;exact habove i u hu _ ha (some ⟨i,u⟩) (N.refl _) hxy
 have hfin:=h N none hroot
 rcases hc with ⟨p,rfl,hp⟩ | rfl | ⟨d,e,rfl⟩
 ·exact hp hfin
 ·exact hfin
 ·have hd:¬Sq G d:=fun hs=>hor ⟨d,e,rfl,.inl hs⟩
  have he:¬Sq G e:=fun hs=>hor ⟨d,e,rfl,.inr hs⟩
  rcases hfin with hf | hf
  ·let i0:ι:=.inr ⟨d,⟨e,.inl rfl⟩,hd⟩
   have:=(hr i0).2;exact this ((glue_some M r A hA d i0 (r i0)).1 (N.up d none (some ⟨i0,r i0⟩) ((M i0).refl _) hf))
  ·let i0:ι:=.inr ⟨e,⟨d,.inr rfl⟩,he⟩
   have:=(hr i0).2;exact this ((glue_some M r A hA e i0 (r i0)).1 (N.up e none (some ⟨i0,r i0⟩) ((M i0).refl _) hf))
end
section
open Fm
theorem enc_split:∀ (a b:Fm) (r s:List Nd),a.enc++r=b.enc++s→a=b∧r=s:=by
 intro a
 induction a with
 | var v=>
  intro b r s h;cases b<;>simp [enc] at h
  obtain ⟨h1,h2⟩:=h;have h3:=Int.ofNat.inj h1;exact ⟨by rw [h3],h2⟩
 | fls=>intro b r s h;cases b<;>simp [enc] at h<;>simp_all
 | and x y ihx ihy=>
  intro b r s h;cases b<;>simp [enc] at h
  obtain ⟨h1,h⟩:=ihx _ _ _ h;obtain ⟨h2,h⟩:=ihy _ _ _ h;exact ⟨by rw [h1,h2],h⟩
 | or x y ihx ihy=>
  intro b r s h;cases b<;>simp [enc] at h
  obtain ⟨h1,h⟩:=ihx _ _ _ h;obtain ⟨h2,h⟩:=ihy _ _ _ h;exact ⟨by rw [h1,h2],h⟩
 | imp x y ihx ihy=>
  intro b r s h;cases b<;>simp [enc] at h
  obtain ⟨h1,h⟩:=ihx _ _ _ h;obtain ⟨h2,h⟩:=ihy _ _ _ h;exact ⟨by rw [h1,h2],h⟩
 | box x ihx=>
  intro b r s h;cases b<;>simp [enc] at h
  obtain ⟨h1,h⟩:=ihx _ _ _ h;exact ⟨by rw [h1],h⟩
 | dia x ihx=>
  intro b r s h;cases b<;>simp [enc] at h
  obtain ⟨h1,h⟩:=ihx _ _ _ h;exact ⟨by rw [h1],h⟩
theorem enc_inj {a b:Fm} (h:a.enc=b.enc):a=b:=(enc_split a b [] [] (by simpa using h)).1
def wt:Fm→Nat
 | .var _=>2
 | .fls=>2
 | .and a b=>wt a*(1+wt b)
 | .or a b=>1+wt a+wt b
 | .imp a b=>1+wt a*wt b
 | .box a=>2+wt a
 | .dia a=>2+wt a
def wts:List Fm→Nat
 | []=>0
 | a::G=>wt a+wts G
theorem mul2 {a b:Nat} (ha:2≤a) (hb:2≤b):a+b≤a*b:=by
 obtain ⟨x,rfl⟩:∃ x,a=x+2:=⟨a-2,by omega⟩
 obtain ⟨y,rfl⟩:∃ y,b=y+2:=⟨b-2,by omega⟩
 have:(x+2)*(y+2)=x*y+2*x+2*y+4:=by simp [Nat.add_mul,Nat.mul_add];omega
 omega
theorem mul_two_le {a b:Nat} (hb:2≤b):2*a≤a*b:=by rw [Nat.mul_comm 2 a];exact Nat.mul_le_mul_left a hb
theorem wt_ge:∀ a:Fm,2≤wt a:=by
 intro a
 induction a with
 | var v=>simp [wt]
 | fls=>simp [wt]
 | and a b iha ihb=>simp only [wt];have:=mul_two_le (a:=wt a) (b:=1+wt b) (by omega);omega
 | or a b iha ihb=>simp only [wt];omega
 | imp a b iha ihb=>simp only [wt];have:=mul2 iha ihb;omega
 | box a iha=>simp only [wt];omega
 | dia a iha=>simp only [wt];omega
theorem len_le_wt:∀ a:Fm,a.enc.length≤wt a:=by
 intro a
 induction a with
 | var v=>simp [wt,enc]
 | fls=>simp [wt,enc]
 | and a b iha ihb=>simp only [wt,enc,List.length_cons,List.length_append,Nat.mul_add,Nat.mul_one];have:=mul2 (wt_ge a) (wt_ge b);have:=wt_ge a;omega
 | or a b iha ihb=>simp only [wt,enc,List.length_cons,List.length_append];omega
 | imp a b iha ihb=>simp only [wt,enc,List.length_cons,List.length_append];have:=mul2 (wt_ge a) (wt_ge b);omega
 | box a iha=>simp only [wt,enc,List.length_cons];omega
 | dia a iha=>simp only [wt,enc,List.length_cons];omega
theorem pow_ge2 {n:Nat} (h:1≤n):2≤2^n:=by
 obtain ⟨m,rfl⟩:∃ m,n=m+1:=⟨n-1,by omega⟩
 have:=Nat.one_le_two_pow (n:=m);rw [Nat.pow_succ];omega
theorem wt_le_pow:∀ a:Fm,wt a≤2^a.enc.length:=by
 intro a
 have hp:=fun t:Fm=>pow_ge2 (enc_pos t)
 induction a with
 | var v=>simp [wt,enc]
 | fls=>simp [wt,enc]
 | and a b iha ihb=>
  simp only [wt,enc,List.length_cons,List.length_append,Nat.mul_add,Nat.mul_one,Nat.pow_succ,Nat.pow_add];have h1:=Nat.mul_le_mul iha ihb;have h2:2^a.enc.length*1≤2^a.enc.length*2^b.enc.length:=Nat.mul_le_mul_left _ (by have:=hp b;omega);omega
 | or a b iha ihb=>
  simp only [wt,enc,List.length_cons,List.length_append,Nat.pow_succ,Nat.pow_add];have h1:=mul2 (hp a) (hp b);have:=hp a;omega
 | imp a b iha ihb=>
  simp only [wt,enc,List.length_cons,List.length_append,Nat.pow_succ,Nat.pow_add];have h1:=Nat.mul_le_mul iha ihb;have:=mul2 (hp a) (hp b);have:=hp a;omega
 | box a iha=>simp only [wt,enc,List.length_cons,Nat.pow_succ];have:=hp a;omega
 | dia a iha=>simp only [wt,enc,List.length_cons,Nat.pow_succ];have:=hp a;omega
theorem wts_append (G H:List Fm):wts (G++H)=wts G+wts H:=by
 induction G with
 | nil=>simp [wts]
 | cons a G ih=>simp [wts,ih];omega
theorem wts_perm {G H:List Fm} (h:G.Perm H):wts G=wts H:=by
 induction h with
 | nil=>rfl
 | cons a _ ih=>simp [wts,ih]
 | swap a b l=>simp [wts];omega
 | trans _ _ ih1 ih2=>omega
theorem wts_sub {G H:List Fm} (h:G.Sublist H):wts G≤wts H:=by
 induction h with
 | slnil=>exact Nat.le_refl _
 | cons a _ ih=>simp only [wts];omega
 | cons_cons a _ ih=>simp only [wts];omega
theorem len_le_wts (G:List Fm):2*G.length≤wts G:=by
 induction G with
 | nil=>simp [wts]
 | cons a G ih=>have:=wt_ge a;simp only [wts,List.length_cons];omega
theorem wts_mem {a:Fm} {G:List Fm} (h:a∈G):wt a≤wts G:=by
 induction G with
 | nil=>simp at h
 | cons b G ih=>
  rcases List.mem_cons.1 h with rfl | h
  ·simp only [wts];omega
  ·have:=ih h;simp only [wts];omega
theorem wt_and (x y:Fm):wt x+wt y<wt (and x y):=by
 simp only [wt,Nat.mul_add,Nat.mul_one];have:=mul2 (wt_ge x) (wt_ge y);have:=wt_ge x;have:=wt_ge y;omega
theorem wt_or (x y:Fm):wt x+wt y<wt (or x y):=by simp only [wt];omega
theorem wt_imp (x y:Fm):wt x+wt y<wt (imp x y):=by
 simp only [wt];have:=mul2 (wt_ge x) (wt_ge y);omega
theorem wt_andimp (x y b:Fm):wt (imp x (imp y b))<wt (imp (and x y) b):=by
 simp only [wt,Nat.mul_add,Nat.mul_one,Nat.add_mul];have h1:=mul_two_le (a:=wt x) (wt_ge b);have h2:=wt_ge x;rw [Nat.mul_assoc];omega
theorem wt_orimp (x y b:Fm):wt (imp x b)+wt (imp y b)<wt (imp (or x y) b):=by
 simp only [wt,Nat.add_mul,Nat.one_mul];have h2:=wt_ge b;omega
theorem wt_impimp (x y b:Fm):wt (imp y b)+(wt x+wt y)<wt (imp (imp x y) b)∧wt (imp y b)+wt (imp x y)<wt (imp (imp x y) b)+1:=by
 simp only [wt,Nat.add_mul,Nat.one_mul];have hx:=wt_ge x;have hy:=wt_ge y;have hb:=wt_ge b;have h1:2*(wt y*wt b)≤wt x*(wt y*wt b):=Nat.mul_le_mul_right _ hx;have h2:2*(wt x*wt y)≤wt x*wt y*wt b:=mul_two_le hb;have h3:=mul2 hx hy;have h4:wt x*(wt y*wt b)=wt x*wt y*wt b:=(Nat.mul_assoc _ _ _).symm;generalize wt x*wt y*wt b=t at*;generalize wt x*(wt y*wt b)=t' at*;generalize wt y*wt b=u at*;generalize wt x*wt y=z at*;omega
section
variable {G H K L:List Fm} {c x y b:Fm}
theorem sq_same (h:∀ a,a∈G↔a∈H):Sq G c↔Sq H c:=
 sq_congr fun _M _w=>⟨fun k a ha=>k a ((h a).2 ha),fun k a ha=>k a ((h a).1 ha)⟩
theorem sq_repl (hG:∀ a,a∈G↔a=x∨a∈H) (hK:∀ a,a∈K↔a∈L∨a∈H) (h:∀ (M:KM) (w:M.W),(∀ a∈H,M.forces w a)→(M.forces w x↔∀ y∈L,M.forces w y)):Sq G c↔Sq K c:=by
 rw [sq_left (ys:=L) hG h]
 exact sq_same fun a=>by rw [List.mem_append,hK]
theorem sq_drop (hG:∀ a,a∈G↔a=x∨a∈H) (h:∀ (M:KM) (w:M.W),(∀ a∈H,M.forces w a)→M.forces w x):Sq G c↔Sq H c:=
 sq_repl (L:=[]) hG (by simp) fun M w hw=>⟨fun _ _ hy=>(by cases hy),fun _=>h M w hw⟩
theorem sq_drop_imp (hG:∀ a,a∈G↔a=imp x y∨a∈H) (h:x=fls∨y∈H):Sq G c↔Sq H c:=
 sq_drop hG fun M w hw u hu hx=>by
  rcases h with rfl | h
  ·exact hx.elim
  ·exact M.up _ _ _ hu (hw _ h)
theorem sq_andL (hG:∀ a,a∈G↔a=and x y∨a∈H) (hK:∀ a,a∈K↔(a=x∨a=y)∨a∈H):Sq G c↔Sq K c:=
 sq_repl (L:=[x,y]) hG (by simpa using hK) fun M w _=>by simp [KM.forces]
theorem sq_orL {K':List Fm} (hG:∀ a,a∈G↔a=or x y∨a∈H) (hK:∀ a,a∈K↔a=x∨a∈H) (hK':∀ a,a∈K'↔a=y∨a∈H):Sq G c↔Sq K c∧Sq K' c:=by
 rw [sq_or_left hG];exact and_congr (sq_same fun a=>by rw [List.mem_cons,hK]) (sq_same fun a=>by rw [List.mem_cons,hK'])
theorem sq_andimpL (hG:∀ a,a∈G↔a=imp (and x y) b∨a∈H) (hK:∀ a,a∈K↔a=imp x (imp y b)∨a∈H):Sq G c↔Sq K c:=
 sq_repl (L:=[imp x (imp y b)]) hG (by simpa using hK) fun M w _=>by
  simp only [List.mem_singleton,forall_eq];constructor
  ·intro h u hu hx v hv hy
   exact h v (M.trans _ _ _ hu hv) ⟨M.up _ _ _ hv hx,hy⟩
  ·intro h u hu hxy
   exact h u hu hxy.1 u (M.refl u) hxy.2
theorem sq_orimpL (hG:∀ a,a∈G↔a=imp (or x y) b∨a∈H) (hK:∀ a,a∈K↔(a=imp x b∨a=imp y b)∨a∈H):Sq G c↔Sq K c:=
 sq_repl (L:=[imp x b,imp y b]) hG (by simpa using hK) fun M w _=>by
  simp only [List.mem_cons,List.not_mem_nil,or_false,forall_eq_or_imp,forall_eq];constructor
  ·intro h
   exact ⟨fun u hu hx=>h u hu (.inl hx),fun u hu hy=>h u hu (.inr hy)⟩
  ·rintro ⟨h1,h2⟩ u hu hxy
   exact hxy.elim (h1 u hu) (h2 u hu)
theorem sq_impL (hG:∀ a,a∈G↔a=imp x b∨a∈H) (hx:x∈H) (hK:∀ a,a∈K↔a=b∨a∈H):Sq G c↔Sq K c:=
 sq_repl (L:=[b]) hG (by simpa using hK) fun M w hw=>by
  simp only [List.mem_singleton,forall_eq];exact ⟨fun h=>h w (M.refl w) (hw x hx),fun h u hu _=>M.up _ _ _ hu h⟩
theorem sq_impR (hK:∀ a,a∈K↔a=x∨a∈G):Sq G (imp x y)↔Sq K y:=by
 rw [sq_imp]
 exact sq_same fun a=>by rw [List.mem_cons,hK]
theorem sq_orR (h:Sq G x∨Sq G y):Sq G (or x y):=fun M w hw=>h.imp (fun k=>k M w hw) (fun k=>k M w hw)
theorem way_iff (hG:∀ a,a∈G↔a=imp (imp x y) b∨a∈H) (hK:∀ a,a∈K↔(a=imp y b∨a=x)∨a∈H) (hL:∀ a,a∈L↔a=b∨a∈H):Way G c x y b↔Sq K y∧Sq L c:=by
 unfold Way
 have h1:Sq (x::imp y b::G) y↔Sq (x::imp y b::H) y:=by
  refine sq_drop (x:=imp (imp x y) b) (fun a=>?_) (fun M w hw=>?_)
  ·simp only [List.mem_cons,hG]
   constructor
   ·rintro (h | h | h | h)
    ·exact .inr (.inl h)
    ·exact .inr (.inr (.inl h))
    ·exact .inl h
    ·exact .inr (.inr (.inr h))
   ·rintro (h | h | h | h)
    ·exact .inr (.inr (.inl h))
    ·exact .inl h
    ·exact .inr (.inl h)
    ·exact .inr (.inr (.inr h))
  ·exact forces_impimp M w (hw _ (by simp)) (hw _ (by simp))
 have h2:Sq (b::G) c↔Sq (b::H) c:=by
  refine sq_drop (x:=imp (imp x y) b) (fun a=>?_) (fun M w hw u hu _=>?_)
  ·simp only [List.mem_cons,hG]
   constructor
   ·rintro (h | h | h)
    ·exact .inr (.inl h)
    ·exact .inl h
    ·exact .inr (.inr h)
   ·rintro (h | h | h)
    ·exact .inr (.inl h)
    ·exact .inl h
    ·exact .inr (.inr h)
  ·exact M.up _ _ _ hu (hw b (by simp))
 rw [h1,h2];refine and_congr (sq_same fun a=>?_) (sq_same fun a=>?_)
 ·simp only [List.mem_cons,hK]
  constructor
  ·rintro (h | h | h)
   ·exact .inl (.inr h)
   ·exact .inl (.inl h)
   ·exact .inr h
  ·rintro ((h | h) | h)
   ·exact .inr (.inl h)
   ·exact .inl h
   ·exact .inr (.inr h)
 ·simp only [List.mem_cons,hL]
theorem way_iff' (hG:∀ a,a∈G↔a=imp (imp x y) b∨a∈H) (hK:∀ a,a∈K↔a=imp y b∨a∈H) (hL:∀ a,a∈L↔a=b∨a∈H):Way G c x y b↔Sq K (imp x y)∧Sq L c:=by
 rw [way_iff (K:=x::K) hG (fun a=>?_) hL,sq_imp];rw [List.mem_cons,hK];constructor
 ·rintro (h | h | h)
  ·exact .inl (.inr h)
  ·exact .inl (.inl h)
  ·exact .inr h
 ·rintro ((h | h) | h)
  ·exact .inr (.inl h)
  ·exact .inl h
  ·exact .inr (.inr h)
end
end
end Go.Proofs.YtbccmdfdclomiaaGreatDoor
