import Derived.Test.YtbccmdfdclomiaaGreatDoorHPR
/- own -/
namespace Go.Proofs.YtbccmdfdclomiaaGreatDoor
open Go.RowKit
theorem mods_mem {E:List Fm} {i:Nat}:i∈mods E↔i<E.length∧isMo (E.getD i .fls)=true:=by
 unfold mods;rw [List.mem_filter,List.mem_range]
def mskB (p:Nat→Bool):Nat→Nat
 | 0=>0
 | n+1=>if p n then mskB p n ||| 2^n else mskB p n
theorem mskB_lt (p:Nat→Bool):∀ n,mskB p n<2^n
 | 0=>by simp [mskB]
 | n+1=>by
  have ih:=mskB_lt p n;have h2:2^n<2^(n+1):=Nat.pow_lt_pow_right (by omega) (by omega);rw [mskB]
  split
  ·exact Nat.or_lt_two_pow (by omega) h2
  ·omega
def frc {W:Type} (R:W→W→Prop) (V:W→Nat→Prop):Fm→W→Prop
 | .var k,x=>V x k
 | .fls,_=>False
 | .and a b,x=>frc R V a x∧frc R V b x
 | .or a b,x=>frc R V a x∨frc R V b x
 | .imp a b,x=>frc R V a x→frc R V b x
 | .box a,x=>∀ y,R x y→frc R V a y
 | .dia a,x=>∃ y,R x y∧frc R V a y
structure FrC {W:Type} (L:Nat) (R:W→W→Prop):Prop where
 ser:L=1→∀ x,∃ y,R x y
 rfl:L=2∨L=4∨L=6→∀ x,R x x
 trs:L=3∨L=4∨L=5∨L=6→∀ x y z,R x y→R y z→R x z
 wfd:L=5→WellFounded fun a b=>R b a
 sym:L=6∨L=7→∀ x y,R x y→R y x
def ValS (L:Nat) (A B:List Fm):Prop:=∀ (W:Type) (R:W→W→Prop) (V:W→Nat→Prop),FrC L R→∀ x,(∀ a∈A,frc R V a x)→∃ b∈B,frc R V b x
structure ElP (E:List Fm) (C:Fm→Prop):Prop where
 sub:∀ x,C x→∀ y∈subs x,C y
 mem:∀ x,C x→isEl x=true→x∈E
 inn:∀ x∈E,C x
 bit:∀ k i (h:i<E.length),valB E k E[i]=k.testBit i
theorem elP {G:List Fm} (hG:Fine G):ElP (elF G) (fun x=>x∈subG G):=
 ⟨fun x hx y hy=>by
   obtain ⟨g,hg,hx⟩:=List.mem_flatMap.1 hx;exact List.mem_flatMap.2 ⟨g,hg,subs_trans hx y hy⟩,
  fun x hx he=>(elF_mem hG).2 ⟨hx,he⟩,fun x hx=>((elF_mem hG).1 hx).1,fun k i h=>valB_el hG k h⟩
def BoxAt (E:List Fm) (i:Nat) (a:Fm):Prop:=(∀ k,demB E i k=valB E k (.box a))∧∀ k,meeB E i k=valB E k a
def DiaAt (E:List Fm) (i:Nat) (a:Fm):Prop:=(∀ k,demB E i k=!valB E k (.dia a))∧∀ k,meeB E i k=!valB E k a
theorem getD_at {E:List Fm} {i:Nat} (h:i<E.length):E.getD i .fls=E[i]:=by rw [List.getD_eq_getElem?_getD,List.getElem?_eq_getElem h];rfl
theorem boxAt_of {E:List Fm} {C:Fm→Prop} (hE:ElP E C) {i:Nat} (h:i<E.length) {a:Fm} (he:E[i]=.box a):BoxAt E i a:=by
 have hb:=fun k=>hE.bit k i h
 constructor
 ·intro k
  unfold demB bxB;rw [getD_at h,←hb k,he];simp [isBx]
 ·intro k
  unfold meeB innB bxB;rw [getD_at h,he];simp [isBx,below]
theorem diaAt_of {E:List Fm} {C:Fm→Prop} (hE:ElP E C) {i:Nat} (h:i<E.length) {a:Fm} (he:E[i]=.dia a):DiaAt E i a:=by
 have hb:=fun k=>hE.bit k i h
 constructor
 ·intro k
  unfold demB bxB;rw [getD_at h,←hb k,he];simp [isBx]
 ·intro k
  unfold meeB innB bxB;rw [getD_at h,he];simp [isBx,below]
theorem mod_at {E:List Fm} {C:Fm→Prop} (hE:ElP E C) {i:Nat} (hi:i∈mods E):∃ h:i<E.length,∃ a,C a∧(E[i]=.box a∧BoxAt E i a∨E[i]=.dia a∧DiaAt E i a):=by
 obtain ⟨h,hm⟩:=mods_mem.1 hi;refine ⟨h,?_⟩;rw [getD_at h] at hm;have hC:=hE.inn _ (List.getElem_mem h)
 cases he:E[i] with
 | box a=>rw [he] at hC;exact ⟨a,hE.sub _ hC a (by simp [subs,subs_self]),.inl ⟨rfl,boxAt_of hE h he⟩⟩
 | dia a=>rw [he] at hC;exact ⟨a,hE.sub _ hC a (by simp [subs,subs_self]),.inr ⟨rfl,diaAt_of hE h he⟩⟩
 | _=>rw [he] at hm;simp [isMo] at hm
theorem mod_box {E:List Fm} {C:Fm→Prop} (hE:ElP E C) {a:Fm} (h:C (.box a)):∃ i∈mods E,BoxAt E i a:=by
 obtain ⟨i,hi,he⟩:=List.getElem_of_mem (hE.mem _ h rfl);exact ⟨i,mods_mem.2 ⟨hi,by rw [getD_at hi,he];rfl⟩,boxAt_of hE hi he⟩
theorem mod_dia {E:List Fm} {C:Fm→Prop} (hE:ElP E C) {a:Fm} (h:C (.dia a)):∃ i∈mods E,DiaAt E i a:=by
 obtain ⟨i,hi,he⟩:=List.getElem_of_mem (hE.mem _ h rfl);exact ⟨i,mods_mem.2 ⟨hi,by rw [getD_at hi,he];rfl⟩,diaAt_of hE hi he⟩
theorem see_pas {L:Nat} {E:List Fm} {f t:Nat} (h:seeB L E f t=true) (hL:L≠6):pasB L E f t=true:=by
 unfold seeB at h;rw [if_neg hL] at h
 split at h
 ·rw [Bool.and_eq_true] at h;exact h.1
 ·split at h
  ·rw [Bool.and_eq_true] at h;exact h.1
  ·exact h
theorem see_six {E:List Fm} {f t:Nat} (h:seeB 6 E f t=true):∀ i∈mods E,demB E i f=demB E i t:=by
 unfold seeB at h;rw [if_pos rfl] at h;intro i hi
 simpa using List.all_eq_true.1 h i hi
theorem see_mee {L:Nat} {E:List Fm} {f t i:Nat} (ht:alwB L E t=true) (h:seeB L E f t=true) (hi:i∈mods E) (hd:demB E i f=true):meeB E i t=true:=by
 have ha:L=2∨L=4∨L=6→demB E i t=true→meeB E i t=true:=fun hL hdt=>by
  have:=alw_at ht hL i hi;rw [hdt] at this
  simpa using this
 by_cases h6:L=6
 ·subst h6
  exact ha (by omega) (by rw [←see_six h i hi];exact hd)
 ·have hp:=pas_at.1 (see_pas h h6) i hi
  unfold pasQ at hp;rw [hd] at hp;simp only [Bool.not_true,Bool.false_or] at hp
  split at hp
  ·rw [Bool.and_eq_true] at hp;exact hp.1
  ·split at hp
   ·exact ha (by omega) hp
   ·exact hp
theorem see_dem {L:Nat} {E:List Fm} {f t i:Nat} (hL:L=3∨L=4∨L=5∨L=6) (h:seeB L E f t=true) (hi:i∈mods E) (hd:demB E i f=true):demB E i t=true:=by
 by_cases h6:L=6
 ·subst h6
  rw [←see_six h i hi];exact hd
 ·have hp:=pas_at.1 (see_pas h h6) i hi
  unfold pasQ at hp;rw [hd] at hp;simp only [Bool.not_true,Bool.false_or] at hp
  split at hp
  ·rw [Bool.and_eq_true] at hp;exact hp.2
  ·rw [if_pos (by omega)] at hp;exact hp
theorem wit_at {L:Nat} {E:List Fm} {N f i:Nat} (hf:f<N) (hl:liveB L E N f=true) (hi:i∈mods E) (hd:demB E i f=false):∃ t,t<N∧liveB L E N t=true∧seeB L E f t=true∧meeB E i t=false:=by
 have h:=(live_self L E N f hf hl).2;unfold surB at h;rw [Bool.and_eq_true] at h;have h2:=List.all_eq_true.1 h.2 i hi;rw [hd,Bool.false_or] at h2;obtain ⟨t,ht,hq⟩:=List.any_eq_true.1 h2;rw [Bool.and_eq_true] at hq;have hw:=hq.2;unfold witB at hw;rw [Bool.and_eq_true,Bool.and_eq_true] at hw;exact ⟨t,List.mem_range.1 ht,hq.1,hw.1.1,by simpa using hw.1.2⟩
def LvW (L:Nat) (E:List Fm) (N:Nat):Type:={t:Nat // t<N∧liveB L E N t=true}
theorem live_truth {L:Nat} {E:List Fm} {N:Nat} {C:Fm→Prop} (hE:ElP E C):∀ (x:Fm),C x→∀ t:LvW L E N,
  frc (fun f u:LvW L E N=>seeB L E f.1 u.1=true) (fun u k=>valB E u.1 (.var k)=true) x t↔valB E t.1 x=true
 | .var _,_,_=>Iff.rfl
 | .fls,_,_=>by simp [frc,valB]
 | .and a b,h,t=>by
  have h1:=live_truth hE a (hE.sub _ h a (by simp [subs,subs_self])) t;have h2:=live_truth hE b (hE.sub _ h b (by simp [subs,subs_self])) t;rw [frc,h1,h2,valB,Bool.and_eq_true]
 | .or a b,h,t=>by
  have h1:=live_truth hE a (hE.sub _ h a (by simp [subs,subs_self])) t;have h2:=live_truth hE b (hE.sub _ h b (by simp [subs,subs_self])) t;rw [frc,h1,h2,valB,Bool.or_eq_true]
 | .imp a b,h,t=>by
  have h1:=live_truth hE a (hE.sub _ h a (by simp [subs,subs_self])) t;have h2:=live_truth hE b (hE.sub _ h b (by simp [subs,subs_self])) t;rw [frc,h1,h2,valB]
  cases valB E t.1 a<;>simp
 | .box a,h,t=>by
  have h1:=fun u=>live_truth (L:=L) (N:=N) hE a (hE.sub _ h a (by simp [subs,subs_self])) u
  obtain ⟨i,hi,hd,hm⟩:=mod_box hE h;rw [frc,←hd t.1];constructor
  ·intro hall
   cases hdt:demB E i t.1
   ·obtain ⟨u,hu,hlu,hs,hmu⟩:=wit_at t.2.1 t.2.2 hi hdt
    have:=(h1 ⟨u,hu,hlu⟩).1 (hall ⟨u,hu,hlu⟩ hs);rw [←hm u,hmu] at this;exact absurd this (by simp)
   ·rfl
  ·intro hdt u hs
   refine (h1 u).2 ?_;rw [←hm u.1];exact see_mee (live_alw u.2.1 u.2.2) hs hi hdt
 | .dia a,h,t=>by
  have h1:=fun u=>live_truth (L:=L) (N:=N) hE a (hE.sub _ h a (by simp [subs,subs_self])) u
  obtain ⟨i,hi,hd,hm⟩:=mod_dia hE h;have hd':=hd t.1;rw [frc];constructor
  ·rintro ⟨u,hs,hu⟩
   have hu':=(h1 u).1 hu
   cases hv:valB E t.1 (.dia a)
   ·rw [hv] at hd'
    have:=see_mee (live_alw u.2.1 u.2.2) hs hi hd';rw [hm u.1,hu'] at this;exact absurd this (by simp)
   ·rfl
  ·intro hv
   rw [hv] at hd';obtain ⟨u,hu,hlu,hs,hmu⟩:=wit_at t.2.1 t.2.2 hi hd';refine ⟨⟨u,hu,hlu⟩,hs,(h1 ⟨u,hu,hlu⟩).2 ?_⟩;rw [hm u] at hmu
   simpa using hmu
theorem dem_count {E:List Fm} {f t:Nat} (h1:∀ i∈mods E,demB E i f=true→demB E i t=true) (h2:∃ i∈mods E,demB E i t=true∧demB E i f=false):
  ((mods E).filter fun i=>demB E i f).length<((mods E).filter fun i=>demB E i t).length:=by
 have gen:∀ l:List Nat,(∀ i∈l,demB E i f=true→demB E i t=true)→(l.filter fun i=>demB E i f).length≤(l.filter fun i=>demB E i t).length∧
   ((∃ i∈l,demB E i t=true∧demB E i f=false)→(l.filter fun i=>demB E i f).length<(l.filter fun i=>demB E i t).length):=by
  intro l
  induction l with
  | nil=>intro _;exact ⟨Nat.le_refl _,fun ⟨i,hi,_⟩=>by simp at hi⟩
  | cons a l ih=>
   intro h;obtain ⟨i1,i2⟩:=ih (fun i hi=>h i (List.mem_cons_of_mem _ hi));have ha:=h a (by simp)
   cases hf:demB E a f<;>cases ht:demB E a t
   ·simp only [List.filter_cons,hf,ht]
    refine ⟨i1,?_⟩;rintro ⟨i,hi,h3,h4⟩
    rcases List.mem_cons.1 hi with rfl | hi
    ·rw [ht] at h3;exact absurd h3 (by simp)
    ·exact i2 ⟨i,hi,h3,h4⟩
   ·simp only [List.filter_cons,hf,ht,if_true,List.length_cons]
    exact ⟨by simp;omega,fun _=>by simp;omega⟩
   ·rw [ha hf] at ht;exact absurd ht (by simp)
   ·simp only [List.filter_cons,hf,ht,if_true,List.length_cons]
    refine ⟨by omega,?_⟩;rintro ⟨i,hi,h3,h4⟩
    rcases List.mem_cons.1 hi with rfl | hi
    ·rw [hf] at h4;exact absurd h4 (by simp)
    ·have:=i2 ⟨i,hi,h3,h4⟩;omega
 exact (gen _ h1).2 h2
theorem see_gl {E:List Fm} {f t:Nat} (h:seeB 5 E f t=true):∃ i∈mods E,demB E i t=true∧demB E i f=false:=by
 unfold seeB at h;rw [if_neg (by decide),if_neg (by decide),if_pos rfl,Bool.and_eq_true] at h;obtain ⟨i,hi,hq⟩:=List.any_eq_true.1 h.2;rw [Bool.and_eq_true] at hq;exact ⟨i,hi,hq.1,by simpa using hq.2⟩
theorem pas_of {L:Nat} {E:List Fm} {f t:Nat} (h1:∀ i∈mods E,demB E i f=true→meeB E i t=true) (h2:L=3∨L=4∨L=5→∀ i∈mods E,demB E i f=true→demB E i t=true):pasB L E f t=true:=by
 refine pas_at.2 fun i hi=>?_
 unfold pasQ
 cases hd:demB E i f
 ·rfl
 ·have a:=h1 i hi hd
  split
  ·rw [h2 (by omega) i hi hd,a];rfl
  ·split
   ·rw [h2 (by omega) i hi hd];rfl
   ·rw [a];rfl
theorem see_of {L:Nat} {E:List Fm} {f t:Nat} (h1:∀ i∈mods E,demB E i f=true→meeB E i t=true) (h2:L=3∨L=4∨L=5∨L=6→∀ i∈mods E,demB E i f=true→demB E i t=true)
  (h3:L=6→∀ i∈mods E,demB E i t=true→demB E i f=true) (h4:L=7→∀ i∈mods E,demB E i t=true→meeB E i f=true) (h5:L=5→∃ i∈mods E,demB E i t=true∧demB E i f=false):seeB L E f t=true:=by
 have hp:pasB L E f t=true:=pas_of h1 (fun h=>h2 (by omega));unfold seeB
 by_cases c6:L=6
 ·rw [if_pos c6]
  refine List.all_eq_true.2 fun i hi=>?_
  have a:=h2 (by omega) i hi;have b:=h3 c6 i hi
  cases hf:demB E i f<;>cases ht:demB E i t<;>simp_all
 ·rw [if_neg c6]
  by_cases c7:L=7
  ·rw [if_pos c7,hp,pas_of (h4 c7) (fun h=>by omega)];rfl
  ·rw [if_neg c7]
   by_cases c5:L=5
   ·rw [if_pos c5,hp]
    obtain ⟨i,hi,a,b⟩:=h5 c5;rw [Bool.true_and];exact List.any_eq_true.2 ⟨i,hi,by rw [a,b];rfl⟩
   ·rw [if_neg c5];exact hp
theorem live_frame (L:Nat) (E:List Fm) (N:Nat):FrC L (fun f u:LvW L E N=>seeB L E f.1 u.1=true):=by
 constructor
 ·rintro rfl t
  have h:=(live_self 1 E N t.1 t.2.1 t.2.2).2;unfold surB at h;rw [Bool.and_eq_true] at h;have h2:=h.1;rw [show decide ((1:Nat)≠1)=false from by decide,Bool.false_or] at h2;obtain ⟨u,hu,hq⟩:=List.any_eq_true.1 h2;rw [Bool.and_eq_true] at hq;exact ⟨⟨u,List.mem_range.1 hu,hq.1⟩,hq.2⟩
 ·intro hL t
  have ha:=alw_at (live_alw t.2.1 t.2.2) hL
  have hm:∀ i∈mods E,demB E i t.1=true→meeB E i t.1=true:=fun i hi hd=>by
   have:=ha i hi;rw [hd] at this
   simpa using this
  exact see_of hm (fun _ i _ h=>h) (fun _ i _ h=>h) (fun _=>hm) (fun h=>by omega)
 ·intro hL f t u h1 h2
  refine see_of (fun i hi hd=>see_mee (live_alw u.2.1 u.2.2) h2 hi (see_dem hL h1 hi hd)) (fun _ i hi hd=>see_dem hL h2 hi (see_dem hL h1 hi hd)) ?_ (fun h=>by omega) ?_
  ·rintro rfl i hi hd
   rw [see_six h1 i hi,see_six h2 i hi];exact hd
  ·rintro rfl
   obtain ⟨i,hi,a,b⟩:=see_gl h1;exact ⟨i,hi,see_dem (by omega) h2 hi a,b⟩
 ·rintro rfl
  refine Subrelation.wf (r:=InvImage (· < ·) fun t:LvW 5 E N=>(mods E).length-((mods E).filter fun i=>demB E i t.1).length) ?_ (InvImage.wf _ Nat.lt_wfRel.wf);intro a b h;have:=dem_count (fun i hi hd=>see_dem (by omega) h hi hd) (see_gl h);have:=List.length_filter_le (fun i=>demB E i a.1) (mods E)
  show (mods E).length-_<(mods E).length-_
  omega
 ·intro hL f t h
  rcases hL with rfl | rfl
  ·have e:=see_six h
   exact see_of (fun i hi hd=>see_mee (live_alw f.2.1 f.2.2) (by
    unfold seeB;rw [if_pos rfl]
    exact List.all_eq_true.2 fun j hj=>by rw [e j hj];simp) hi hd) (fun _ i hi hd=>by rw [e i hi];exact hd) (fun _ i hi hd=>by rw [←e i hi];exact hd) (fun h=>by omega) (fun h=>by omega)
  ·unfold seeB at h ⊢
   rw [if_neg (by decide),if_pos rfl,Bool.and_eq_true] at h ⊢;exact ⟨h.2,h.1⟩
theorem mskB_bit (p:Nat→Bool) (i:Nat):∀ n,(mskB p n).testBit i=(decide (i<n)&&p i)
 | 0=>by simp [mskB]
 | n + 1=>by
  have ih:=mskB_bit p i n;rw [mskB]
  split
  ·rename_i hp
   rw [Nat.testBit_or,ih,Nat.testBit_two_pow]
   by_cases hi:n=i
   ·subst hi;simp [hp]
   ·have:decide (n=i)=false:=by simpa using hi
    rw [this,Bool.or_false]
    by_cases h:i<n
    ·simp [h,show i<n+1 by omega]
    ·simp [h,show ¬i<n+1 by omega]
  ·rename_i hp
   rw [ih]
   by_cases hi:n=i
   ·subst hi;simp [hp]
   ·by_cases h:i<n
    ·simp [h,show i<n+1 by omega]
    ·simp [h,show ¬i<n+1 by omega]
noncomputable def typW {W:Type} (R:W→W→Prop) (V:W→Nat→Prop) (E:List Fm) (x:W):Nat:=mskB (fun i=>@decide (frc R V (E.getD i .fls) x) (Classical.propDecidable _)) E.length
theorem typ_el {W:Type} {R:W→W→Prop} {V:W→Nat→Prop} {E:List Fm} {C:Fm→Prop} (hE:ElP E C) {f:Fm} (hf:C f) (he:isEl f=true) (x:W):valB E (typW R V E x) f=true↔frc R V f x:=by
 obtain ⟨i,hi,e⟩:=List.getElem_of_mem (hE.mem _ hf he);have hb:=hE.bit (typW R V E x) i hi;rw [e] at hb;rw [hb];unfold typW;rw [mskB_bit,Bool.and_eq_true,decide_eq_true_eq];rw [show (@decide (frc R V (E.getD i .fls) x) (Classical.propDecidable _)=true)=frc R V f x from by rw [getD_at hi,e];exact propext (@decide_eq_true_iff _ (Classical.propDecidable _))];exact ⟨fun h=>h.2,fun h=>⟨hi,h⟩⟩
theorem typ_val {W:Type} {R:W→W→Prop} {V:W→Nat→Prop} {E:List Fm} {C:Fm→Prop} (hE:ElP E C):∀ f,C f→∀ x:W,valB E (typW R V E x) f=true↔frc R V f x
 | .var _,h,x=>typ_el hE h rfl x
 | .box _,h,x=>typ_el hE h rfl x
 | .dia _,h,x=>typ_el hE h rfl x
 | .fls,_,_=>by simp [frc,valB]
 | .and a b,h,x=>by
  have h1:=typ_val (R:=R) (V:=V) hE a (hE.sub _ h a (by simp [subs,subs_self])) x;have h2:=typ_val (R:=R) (V:=V) hE b (hE.sub _ h b (by simp [subs,subs_self])) x;rw [frc,←h1,←h2,valB,Bool.and_eq_true]
 | .or a b,h,x=>by
  have h1:=typ_val (R:=R) (V:=V) hE a (hE.sub _ h a (by simp [subs,subs_self])) x;have h2:=typ_val (R:=R) (V:=V) hE b (hE.sub _ h b (by simp [subs,subs_self])) x;rw [frc,←h1,←h2,valB,Bool.or_eq_true]
 | .imp a b,h,x=>by
  have h1:=typ_val (R:=R) (V:=V) hE a (hE.sub _ h a (by simp [subs,subs_self])) x;have h2:=typ_val (R:=R) (V:=V) hE b (hE.sub _ h b (by simp [subs,subs_self])) x;rw [frc,←h1,←h2,valB]
  cases valB E (typW R V E x) a<;>simp
theorem typ_lt {W:Type} (R:W→W→Prop) (V:W→Nat→Prop) (E:List Fm) (x:W):typW R V E x<2^E.length:=mskB_lt _ _
theorem typ_dm {W:Type} {R:W→W→Prop} {V:W→Nat→Prop} {E:List Fm} {C:Fm→Prop} (hE:ElP E C) {i:Nat} (hi:i∈mods E) (x:W):
  demB E i (typW R V E x)=true↔∀ y,R x y→meeB E i (typW R V E y)=true:=by
 obtain ⟨h,a,ha,⟨e,hd,hm⟩ | ⟨e,hd,hm⟩⟩:=mod_at hE hi
 ·have hC:=hE.inn _ (List.getElem_mem h)
  rw [e] at hC;rw [hd,typ_val hE _ hC x,frc];exact ⟨fun k y r=>by rw [hm,typ_val hE _ ha y];exact k y r,fun k y r=>by have:=k y r;rw [hm,typ_val hE _ ha y] at this;exact this⟩
 ·have hC:=hE.inn _ (List.getElem_mem h)
  rw [e] at hC;have hv:=typ_val (R:=R) (V:=V) hE _ hC x;rw [frc] at hv;rw [hd];constructor
  ·intro k y r
   rw [hm]
   cases hy:valB E (typW R V E y) a
   ·rfl
   ·rw [hv.2 ⟨y,r,(typ_val hE _ ha y).1 hy⟩] at k;exact absurd k (by simp)
  ·intro k
   cases hx:valB E (typW R V E x) (.dia a)
   ·rfl
   ·obtain ⟨y,r,hy⟩:=hv.1 hx
    have:=k y r;rw [hm,(typ_val hE _ ha y).2 hy] at this;exact absurd this (by simp)
theorem typ_see {W:Type} {R:W→W→Prop} {V:W→Nat→Prop} {E:List Fm} {C:Fm→Prop} {L:Nat} (hE:ElP E C) (hF:FrC L R) {x y:W} (r:R x y)
  (h5:L=5→∃ i∈mods E,demB E i (typW R V E y)=true∧demB E i (typW R V E x)=false):seeB L E (typW R V E x) (typW R V E y)=true:=by
 refine see_of (fun i hi hd=>(typ_dm hE hi x).1 hd y r) (fun hL i hi hd=>(typ_dm hE hi y).2 fun z rz=>(typ_dm hE hi x).1 hd z (hF.trs hL x y z r rz)) (fun hL i hi hd=>(typ_dm hE hi x).2 fun z rz=>(typ_dm hE hi y).1 hd z (hF.trs (by omega) y x z (hF.sym (by omega) x y r) rz))
  (fun hL i hi hd=>(typ_dm hE hi y).1 hd x (hF.sym (by omega) x y r)) h5
theorem typ_live {W:Type} {R:W→W→Prop} {V:W→Nat→Prop} {E:List Fm} {C:Fm→Prop} {L:Nat} (hE:ElP E C) (hF:FrC L R) (x:W):liveB L E (2^E.length) (typW R V E x)=true:=by
 refine live_max (S:=fun m=>@decide (∃ y,typW R V E y=m) (Classical.propDecidable _)) ?_ (typ_lt R V E x) ((@decide_eq_true_iff _ (Classical.propDecidable _)).2 ⟨x,rfl⟩);intro m _ hs;obtain ⟨x,rfl⟩:=(@decide_eq_true_iff _ (Classical.propDecidable _)).1 hs
 have hS:∀ y,(@decide (∃ z,typW R V E z=typW R V E y) (Classical.propDecidable _))=true:=fun y=>(@decide_eq_true_iff _ (Classical.propDecidable _)).2 ⟨y,rfl⟩
 constructor
 ·unfold alwB
  by_cases hL:L=2∨L=4∨L=6
  ·rw [Bool.or_eq_true]
   refine .inr (List.all_eq_true.2 fun i hi=>?_)
   cases hd:demB E i (typW R V E x)
   ·rfl
   ·rw [(typ_dm hE hi x).1 hd x (hF.rfl hL x)];rfl
  ·rw [decide_eq_false hL];rfl
 ·unfold surB
  rw [Bool.and_eq_true];constructor
  ·by_cases hL:L=1
   ·obtain ⟨y,r⟩:=hF.ser hL x
    rw [Bool.or_eq_true];refine .inr (List.any_eq_true.2 ⟨typW R V E y,List.mem_range.2 (typ_lt R V E y),?_⟩);rw [Bool.and_eq_true];exact ⟨hS y,typ_see hE hF r (fun h=>by omega)⟩
   ·rw [Bool.or_eq_true];exact .inl (decide_eq_true hL)
  ·refine List.all_eq_true.2 fun i hi=>?_
   cases hd:demB E i (typW R V E x)
   ·have hex:∃ y,R x y∧meeB E i (typW R V E y)=false:=by
     refine Classical.byContradiction fun hn=>?_
     have:demB E i (typW R V E x)=true:=(typ_dm hE hi x).2 fun y r=>by
      cases hm:meeB E i (typW R V E y)
      ·exact absurd ⟨y,r,hm⟩ hn
      ·rfl
     rw [hd] at this;exact absurd this (by simp)
    have hex2:∃ y,R x y∧meeB E i (typW R V E y)=false∧(L=5→demB E i (typW R V E y)=true):=by
     obtain ⟨y,r,hm⟩:=hex
     by_cases hL:L=5
     ·have ind:∀ y,R x y→meeB E i (typW R V E y)=false→∃ y,R x y∧meeB E i (typW R V E y)=false∧(L=5→demB E i (typW R V E y)=true):=by
       intro y
       induction y using (hF.wfd hL).induction with
       | _ y ih=>
        intro r hm
        by_cases hz:∃ z,R y z∧meeB E i (typW R V E z)=false
        ·obtain ⟨z,rz,hmz⟩:=hz
         exact ih z rz (hF.trs (by omega) x y z r rz) hmz
        ·refine ⟨y,r,hm,fun _=>(typ_dm hE hi y).2 fun z rz=>?_⟩
         cases hmz:meeB E i (typW R V E z)
         ·exact absurd ⟨z,rz,hmz⟩ hz
         ·rfl
      exact ind y r hm
     ·exact ⟨y,r,hm,fun h=>absurd h hL⟩
    obtain ⟨y,r,hm,h5⟩:=hex2;rw [Bool.or_eq_true];refine .inr (List.any_eq_true.2 ⟨typW R V E y,List.mem_range.2 (typ_lt R V E y),?_⟩);rw [Bool.and_eq_true];refine ⟨hS y,?_⟩;unfold witB;rw [typ_see hE hF r (fun h=>⟨i,hi,h5 h,hd⟩),hm]
    by_cases hL:L=5
    ·rw [h5 hL];simp
    ·simp [hL]
   ·rfl
theorem thm_val {E:List Fm} {C:Fm→Prop} (hE:ElP E C) (L:Nat) {A B:List Fm} (hA:∀ a∈A,C a) (hB:∀ b∈B,C b):thmB L E (2^E.length) A B=true↔ValS L A B:=by
 rw [thm_iff];constructor
 ·intro h W R V hF x hx
  have hr:=h (typW R V E x) (typ_lt R V E x) (typ_live hE hF x)
  refine Classical.byContradiction fun hn=>?_
  have:refB E A B (typW R V E x)=true:=by
   unfold refB;rw [Bool.and_eq_true];refine ⟨List.all_eq_true.2 fun a ha=>(typ_val hE a (hA a ha) x).2 (hx a ha),?_⟩
   cases hb:B.any (valB E (typW R V E x))
   ·rfl
   ·obtain ⟨b,hb1,hb2⟩:=List.any_eq_true.1 hb
    exact absurd ⟨b,hb1,(typ_val hE b (hB b hb1) x).1 hb2⟩ hn
  rw [hr] at this;exact absurd this (by simp)
 ·intro h m hm hl
  cases hr:refB E A B m
  ·rfl
  ·unfold refB at hr
   rw [Bool.and_eq_true] at hr;obtain ⟨b,hb,hf⟩:=h (LvW L E (2^E.length)) _ (fun u k=>valB E u.1 (.var k)=true) (live_frame L E _) ⟨m,hm,hl⟩ (fun a ha=>(live_truth hE a (hA a ha) ⟨m,hm,hl⟩).2 (List.all_eq_true.1 hr.1 a ha));have:=(live_truth hE b (hB b hb) ⟨m,hm,hl⟩).1 hf;rw [List.any_eq_true.2 ⟨b,hb,this⟩] at hr;exact absurd hr.2 (by simp)
def clT (V:Nat→Prop):Fm→Prop
 | .var v=>V v
 | .fls=>False
 | .and a b=>clT V a∧clT V b
 | .or a b=>clT V a∨clT V b
 | .imp a b=>clT V a→clT V b
 | .box _=>False
 | .dia _=>False
def Fol (L:Nat) (A:List Fm) (b:Fm):Prop:=if L=8 then Sq A b else if L=9 then ∀ V:Nat→Prop,(∀ a∈A,clT V a)→clT V b else ValS L A [b]
theorem fol_modal {L:Nat} {A:List Fm} {b:Fm} (h8:L≠8) (h9:L≠9):Fol L A b↔∀ (W:Type) (R:W→W→Prop) (V:W→Nat→Prop),FrC L R→∀ x,(∀ a∈A,frc R V a x)→frc R V b x:=by
 unfold Fol;rw [if_neg h8,if_neg h9];constructor
 ·intro h W R V hF x hx
  obtain ⟨c,hc,hf⟩:=h W R V hF x hx;rw [List.mem_singleton.1 hc] at hf;exact hf
 ·intro h W R V hF x hx
  exact ⟨b,by simp,h W R V hF x hx⟩
theorem fol_mono {L:Nat} {A B:List Fm} {b:Fm} (hs:∀ a∈A,a∈B) (h:Fol L A b):Fol L B b:=by
 unfold Fol at h ⊢
 split
 ·rename_i e;rw [if_pos e] at h
  exact fun M w hw=>h M w (fun a ha=>hw a (hs a ha))
 ·rename_i e;rw [if_neg e] at h
  split
  ·rename_i e;rw [if_pos e] at h
   exact fun V hV=>h V (fun a ha=>hV a (hs a ha))
  ·rename_i e;rw [if_neg e] at h
   exact fun W R V hF x hx=>h W R V hF x (fun a ha=>hx a (hs a ha))
theorem fol_mem {L:Nat} {A:List Fm} {b:Fm} (h:b∈A):Fol L A b:=by
 unfold Fol
 split
 ·exact fun M w hw=>hw b h
 ·split
  ·exact fun V hV=>hV b h
  ·exact fun W R V hF x hx=>⟨b,by simp,hx b h⟩
theorem fol_mp {L:Nat} {A:List Fm} {a b:Fm} (h1:Fol L A (.imp a b)) (h2:Fol L A a):Fol L A b:=by
 by_cases h8:L=8
 ·unfold Fol at*
  rw [if_pos h8] at*
  exact fun M w hw=>h1 M w hw w (M.refl w) (h2 M w hw)
 ·by_cases h9:L=9
  ·unfold Fol at*
   rw [if_neg h8,if_pos h9] at*
   exact fun V hV=>h1 V hV (h2 V hV)
  ·rw [fol_modal h8 h9] at*
   exact fun W R V hF x hx=>h1 W R V hF x hx (h2 W R V hF x hx)
theorem fol_box {L:Nat} {a:Fm} (h8:L≠8) (h9:L≠9) (h:Fol L [] a):Fol L [] (.box a):=by
 rw [fol_modal h8 h9] at*
 exact fun W R V hF x _ y _=>h W R V hF y (by simp)
theorem fol_imp {L:Nat} {A:List Fm} {a b:Fm} (h:Fol L (a::A) b):Fol L A (.imp a b):=by
 by_cases h8:L=8
 ·unfold Fol at*
  rw [if_pos h8] at*;intro M w hw u hu ha
  refine h M u fun c hc=>?_
  rcases List.mem_cons.1 hc with rfl | hc
  ·exact ha
  ·exact M.up c w u hu (hw c hc)
 ·by_cases h9:L=9
  ·unfold Fol at*
   rw [if_neg h8,if_pos h9] at*;intro V hV ha
   refine h V fun c hc=>?_
   rcases List.mem_cons.1 hc with rfl | hc
   ·exact ha
   ·exact hV c hc
  ·rw [fol_modal h8 h9] at*
   intro W R V hF x hx ha
   refine h W R V hF x fun c hc=>?_
   rcases List.mem_cons.1 hc with rfl | hc
   ·exact ha
   ·exact hx c hc
theorem sch_int (k:Nat) (hk:k<9) (τ:Nat→Fm) (M:KM) (w:M.W):M.forces w (sbF τ (schm k)):=by
 have up:=fun a u v h k=>M.up a u v h k
 rcases k with _ | _ | _ | _ | _ | _ | _ | _ | _ | k<;>simp only [schm,schF,sbF,List.getD_cons_zero,List.getD_cons_succ,KM.forces]
 ·exact fun u _ a v hv _=>up _ u v hv a
 ·exact fun u _ f v hv g x hx a=>f x (M.trans _ _ _ hv hx) a x (M.refl x) (g x hx a)
 ·exact fun u _ a=>a.1
 ·exact fun u _ a=>a.2
 ·exact fun u _ a v hv b=>⟨up _ u v hv a,b⟩
 ·exact fun u _ a=>.inl a
 ·exact fun u _ a=>.inr a
 ·intro u _ f v hv g x hx a
  rcases a with a | a
  ·exact f x (M.trans _ _ _ hv hx) a
  ·exact g x hx a
 ·exact fun u _ a=>a.elim
 ·omega
theorem sch_cl (k:Nat) (hk:k<10) (τ:Nat→Fm) (V:Nat→Prop):clT V (sbF τ (schm k)):=by
 rcases k with _ | _ | _ | _ | _ | _ | _ | _ | _ | _ | k<;>simp only [schm,schF,sbF,List.getD_cons_zero,List.getD_cons_succ,clT]
 ·exact fun a _=>a
 ·exact fun f g a=>f a (g a)
 ·exact fun a=>a.1
 ·exact fun a=>a.2
 ·exact fun a b=>⟨a,b⟩
 ·exact fun a=>.inl a
 ·exact fun a=>.inr a
 ·intro f g a
  rcases a with a | a
  ·exact f a
  ·exact g a
 ·exact fun a=>a.elim
 ·exact fun a=>Classical.byContradiction a
 ·omega
theorem sch_modal {L:Nat} (k:Nat) (hk:(k:Int)∈schS L) (h8:L≠8) (h9:L≠9) (τ:Nat→Fm) {W:Type} {R:W→W→Prop} (V:W→Nat→Prop) (hF:FrC L R) (x:W):frc R V (sbF τ (schm k)) x:=by
 unfold schS lastS at hk;rw [if_neg h8,if_neg h9,List.mem_append] at hk
 have hk2:k<13∨(k:Int)∈moreS L:=by
  rcases hk with hk | hk
  ·obtain ⟨j,hj,e⟩:=List.mem_map.1 hk
   have:=List.mem_range.1 hj;have e2:(j:Int)=k:=e;exact .inl (by omega)
  ·exact .inr hk
 have c13:k=13→∀ a:W→Prop,(∀ y,R x y→a y)→a x:=fun e a h=>by
  subst e;refine h x (hF.rfl ?_ x)
  rcases hk2 with h | h
  ·omega
  ·unfold moreS at h
   repeat' (split at h;first | omega | simp at h)
   all_goals simp_all
 have c14:k=14→∀ y z,R x y→R y z→R x z:=fun e y z=>by
  subst e;refine hF.trs ?_ x y z
  rcases hk2 with h | h
  ·omega
  ·unfold moreS at h
   repeat' (split at h;first | omega | simp at h)
   all_goals simp_all
 have c15:k=15→L=6:=fun e=>by
  subst e
  rcases hk2 with h | h
  ·omega
  ·unfold moreS at h
   repeat' (split at h;first | omega | simp at h)
   all_goals simp_all
 have c16:k=16→L=7:=fun e=>by
  subst e
  rcases hk2 with h | h
  ·omega
  ·unfold moreS at h
   repeat' (split at h;first | omega | simp at h)
   all_goals simp_all
 have c17:k=17→L=1:=fun e=>by
  subst e
  rcases hk2 with h | h
  ·omega
  ·unfold moreS at h
   repeat' (split at h;first | omega | simp at h)
   all_goals simp_all
 have c18:k=18→L=5:=fun e=>by
  subst e
  rcases hk2 with h | h
  ·omega
  ·unfold moreS at h
   repeat' (split at h;first | omega | simp at h)
   all_goals simp_all
 have hlt:k<19:=by
  rcases hk2 with h | h
  ·omega
  ·unfold moreS at h
   repeat' (split at h;first | omega | simp at h)
   all_goals (try omega)
   all_goals simp_all
 rcases k with _ | _ | _ | _ | _ | _ | _ | _ | _ | _ | _ | _ | _ | _ | _ | _ | _ | _ | _ | k<;>simp only [schm,schF,sbF,List.getD_cons_zero,List.getD_cons_succ,frc]
 ·exact fun a _=>a
 ·exact fun f g a=>f a (g a)
 ·exact fun a=>a.1
 ·exact fun a=>a.2
 ·exact fun a b=>⟨a,b⟩
 ·exact fun a=>.inl a
 ·exact fun a=>.inr a
 ·intro f g a
  rcases a with a | a
  ·exact f a
  ·exact g a
 ·exact fun a=>a.elim
 ·exact fun a=>Classical.byContradiction a
 ·exact fun f g y r=>f y r (g y r)
 ·rintro ⟨y,r,a⟩ h
  exact h y r a
 ·intro h
  refine Classical.byContradiction fun hn=>h fun y r a=>hn ⟨y,r,a⟩
 ·exact c13 rfl _
 ·exact fun h y r z s=>h z (c14 rfl y z r s)
 ·rintro ⟨y,r,a⟩ z s
  have:=c15 rfl;subst this;exact ⟨y,hF.trs (by omega) z x y (hF.sym (by omega) x z s) r,a⟩
 ·intro a y r
  have:=c16 rfl;subst this;exact ⟨x,hF.sym (by omega) x y r,a⟩
 ·intro h
  have:=c17 rfl;subst this;obtain ⟨y,r⟩:=hF.ser rfl x;exact ⟨y,r,h y r⟩
 ·have:=c18 rfl;subst this
  intro h y
  induction y using (hF.wfd rfl).induction with
  | _ y ih=>exact fun r=>h y r (fun z s=>ih z s (hF.trs (by omega) x y z r s))
 ·omega
theorem sch_fol {L:Nat} (hL:L≤9) {k:Nat} (hk:(k:Int)∈schS L) (τ:Nat→Fm):Fol L [] (sbF τ (schm k)):=by
 by_cases h8:L=8
 ·subst h8
  unfold Fol;rw [if_pos rfl]
  refine fun M w _=>sch_int k ?_ τ M w
  obtain ⟨j,hj,e⟩:∃ a,a<lastS 8∧(a:Int)=k:=by simpa [schS,moreS] using hk
  simp [lastS] at hj;omega
 ·by_cases h9:L=9
  ·subst h9
   unfold Fol;rw [if_neg h8,if_pos rfl]
   refine fun V _=>sch_cl k ?_ τ V
   obtain ⟨j,hj,e⟩:∃ a,a<lastS 9∧(a:Int)=k:=by simpa [schS,moreS] using hk
   simp [lastS] at hj;omega
  ·rw [fol_modal h8 h9]
   exact fun W R V hF x _=>sch_modal k hk h8 h9 τ V hF x
end Go.Proofs.YtbccmdfdclomiaaGreatDoor
