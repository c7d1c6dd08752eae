import Derived.Test.YtbccmdfdclomiaaGreatDoorHND
/- own -/
namespace Go.Proofs.YtbccmdfdclomiaaGreatDoor
section
open Go.RowKit
def nee (E:List Fm) (N i:Nat):Nee:=⟨i,bxB E i,(List.range N).map (innB E i)⟩
def nees (E:List Fm) (N:Nat):List Nee:=(mods E).map (nee E N)
theorem nee_dem (E:List Fm) (N i m:Nat):(nee E N i).dem m=demB E i m:=rfl
theorem nee_mee (E:List Fm) (N i m:Nat) (h:m<N):(nee E N i).mee m=meeB E i m:=by
 unfold Nee.mee nee meeB
 simp only
 rw [List.getD_eq_getElem?_getD,List.getElem?_map,List.getElem?_range h];rfl
theorem nee_pas (L:Nat) (E:List Fm) (N f t i:Nat) (h:t<N):nPas L f t (nee E N i)=pasQ L E f t i:=by
 unfold nPas pasQ;rw [nee_mee E N i t h,nee_dem,nee_dem]
theorem all_same {α:Type} {l:List α} {p q:α→Bool} (h:∀ x∈l,p x=q x):l.all p=l.all q:=by
 induction l with
 | nil=>rfl
 | cons a l ih=>rw [List.all_cons,List.all_cons,h a (by simp),ih (fun x hx=>h x (by simp [hx]))]
theorem any_same {α:Type} {l:List α} {p q:α→Bool} (h:∀ x∈l,p x=q x):l.any p=l.any q:=by
 induction l with
 | nil=>rfl
 | cons a l ih=>rw [List.any_cons,List.any_cons,h a (by simp),ih (fun x hx=>h x (by simp [hx]))]
theorem nees_all (E:List Fm) (N:Nat) (p:Nee→Bool) (q:Nat→Bool) (h:∀ i,p (nee E N i)=q i):(nees E N).all p=(mods E).all q:=by
 unfold nees;rw [List.all_map]
 exact all_same fun x _=>h x
theorem nees_any (E:List Fm) (N:Nat) (p:Nee→Bool) (q:Nat→Bool) (h:∀ i,p (nee E N i)=q i):(nees E N).any p=(mods E).any q:=by
 unfold nees;rw [List.any_map]
 exact any_same fun x _=>h x
theorem nees_pas (L:Nat) (E:List Fm) (N f t:Nat) (h:t<N):nPasB L (nees E N) f t=pasB L E f t:=nees_all E N _ _ fun i=>nee_pas L E N f t i h
theorem nees_see (L:Nat) (E:List Fm) (N f t:Nat) (hf:f<N) (ht:t<N):nSee L (nees E N) f t=seeB L E f t:=by
 unfold nSee seeB;rw [nees_pas L E N f t ht,nees_pas L E N t f hf,nees_all E N (fun n=>n.dem f==n.dem t) (fun i=>demB E i f==demB E i t) (fun i=>rfl),nees_any E N (fun n=>n.dem t&&!n.dem f) (fun i=>demB E i t&&!demB E i f) (fun i=>rfl)]
theorem nees_alw (L:Nat) (E:List Fm) (N m:Nat) (h:m<N):nAlw L (nees E N) m=alwB L E m:=by
 unfold nAlw alwB;rw [nees_all E N (fun n=>!n.dem m||n.mee m) (fun i=>!demB E i m||meeB E i m) (fun i=>by rw [nee_mee E N i m h,nee_dem])]
theorem nees_wit (L:Nat) (E:List Fm) (N i f t:Nat) (hf:f<N) (ht:t<N):nWit L (nees E N) f t (nee E N i)=witB L E i f t:=by
 unfold nWit witB;rw [nees_see L E N f t hf ht,nee_mee E N i t ht,nee_dem,decide_not]
theorem nees_sur (L:Nat) (E:List Fm) (N:Nat) (S:List Bool) (m:Nat) (h:m<N):nSur L (nees E N) N S m=surB L E N (fun t=>S.getD t false) m:=by
 unfold nSur surB;rw [any_same (q:=fun t=>S.getD t false&&seeB L E m t) (fun t ht=>by rw [nees_see L E N m t h (List.mem_range.1 ht)])]
 rw [nees_all E N _ (fun i=>demB E i m||(List.range N).any fun t=>S.getD t false&&witB L E i m t) (fun i=>by
  rw [nee_dem]
  congr 1
  exact any_same fun t ht=>by rw [nees_wit L E N i m t h (List.mem_range.1 ht)])]
theorem live_nSur (L:Nat) (E:List Fm) (N:Nat):∀ T:List Bool,(∀ t,t<N→liveB L E N t=true→T.getD t false=true)→∀ m,m<N→liveB L E N m=true→nSur L (nees E N) N T m=true:=by
 intro T hT m hm hl;rw [nees_sur L E N T m hm];exact live_stays hT hm hl
def alwL (L:Nat) (E:List Fm) (N:Nat):List Bool:=(List.range N).map (alwB L E)
theorem alwL_get (L:Nat) (E:List Fm) (N m:Nat) (h:m<N):(alwL L E N).getD m false=alwB L E m:=by
 unfold alwL;rw [List.getD_eq_getElem?_getD,List.getElem?_map,List.getElem?_range h];rfl
theorem left_live (L:Nat) (E:List Fm) (N:Nat) (T:List Bool) (hlv:∀ t,t<N→liveB L E N t=true→T.getD t false=true) (hsub:∀ t,T.getD t false=true→(alwL L E N).getD t false=true)
  (hself:∀ m,m<N→T.getD m false=true→nSur L (nees E N) N T m=true):∀ m,m<N→T.getD m false=liveB L E N m:=by
 intro m hm;refine live_eq (S:=fun t=>T.getD t false) hlv (fun t ht h=>⟨?_,?_⟩) hm
 ·rw [←alwL_get L E N t ht];exact hsub t h
 ·rw [←nees_sur L E N T t ht];exact hself t ht h
theorem live_alwL (L:Nat) (E:List Fm) (N t:Nat) (ht:t<N) (h:liveB L E N t=true):(alwL L E N).getD t false=true:=by
 rw [alwL_get L E N t ht];exact live_alw ht h
noncomputable def liveL (L:Nat) (E:List Fm) (N:Nat):List Bool:=(List.range N).map (liveB L E N)
theorem left_row (L:Nat) (E:List Fm) (N:Nat) (T:List Bool) (hl:T.length=N) (h:∀ m,m<N→T.getD m false=liveB L E N m):T=liveL L E N:=by
 apply List.ext_getElem?;intro i;unfold liveL;rw [List.getElem?_map]
 by_cases hi:i<N
 ·have:=h i hi
  rw [List.getD_eq_getElem?_getD,List.getElem?_eq_getElem (by omega)] at this;rw [List.getElem?_range hi,List.getElem?_eq_getElem (by omega),Option.map_some,←this];rfl
 ·rw [List.getElem?_eq_none (by omega),List.getElem?_eq_none (by simp;omega)]
  rfl
theorem nees_ix {E:List Fm} {N:Nat}:∀ n∈nees E N,n.ix<E.length:=by
 intro n hn;obtain ⟨i,hi,rfl⟩:=List.mem_map.1 hn;exact List.mem_range.1 (List.mem_filter.1 hi).1
theorem nees_inn {E:List Fm} {N:Nat}:∀ n∈nees E N,n.inn.length=N:=by
 intro n hn;obtain ⟨i,_,rfl⟩:=List.mem_map.1 hn;simp [nee]
theorem nees_len (E:List Fm) (N:Nat):(nees E N).length≤E.length:=by
 unfold nees mods;rw [List.length_map];exact Nat.le_trans (List.length_filter_le _ _) (by simp)
def refB (E A B:List Fm) (m:Nat):Bool:=A.all (valB E m)&&!B.any (valB E m)
noncomputable def fstI (L:Nat) (E:List Fm) (N:Nat) (A B:List Fm):Int:=idxOf (fun t=>liveB L E N t&&refB E A B t) (List.range N) 0
noncomputable def thmB (L:Nat) (E:List Fm) (N:Nat) (A B:List Fm):Bool:=decide (fstI L E N A B<0)
theorem idx_range (p q:Nat→Bool) (N:Nat) (h:∀ t,t<N→p t=q t):∀ k,k≤N→idxOf p ((List.range N).drop k) k=idxOf q ((List.range N).drop k) k:=by
 intro k hk
 by_cases hlt:k<N
 ·rw [rng_drop p N k hlt,rng_drop q N k hlt,h k hlt,idx_range p q N h (k+1) (by omega)]
 ·obtain rfl:k=N:=by omega
  rw [rng_end,rng_end]
 termination_by k=>N-k
theorem idx_same (p q:Nat→Bool) (N:Nat) (h:∀ t,t<N→p t=q t):idxOf p (List.range N) 0=idxOf q (List.range N) 0:=idx_range p q N h 0 (by omega)
theorem range_take (p:Nat→Bool) (k:Nat):(List.range (k+1)).filter p=(List.range k).filter p++(if p k then [k] else []):=by
 rw [List.range_succ,List.filter_append,List.filter_cons]
 simp
theorem alw_at {L:Nat} {E:List Fm} {m:Nat} (h:alwB L E m=true) (hL:L=2∨L=4∨L=6):∀ i∈mods E,(!demB E i m||meeB E i m)=true:=by
 unfold alwB at h;rw [decide_eq_true hL] at h;exact List.all_eq_true.1 h
theorem pas_at {L:Nat} {E:List Fm} {f t:Nat}:pasB L E f t=true↔∀ i∈mods E,pasQ L E f t i=true:=List.all_eq_true
theorem idx_low (p:Nat→Bool) (N:Nat):idxOf p (List.range N) 0<0↔∀ m,m<N→p m=false:=by
 have key:∀ d k,k≤N→d=N-k→(idxOf p ((List.range N).drop k) k<0↔∀ m,k≤m→m<N→p m=false):=by
  intro d
  induction d with
  | zero=>
   intro k hk hd
   obtain rfl:k=N:=by omega
   rw [rng_end];exact ⟨fun _ m h1 h2=>by omega,fun _=>by decide⟩
  | succ d ih=>
   intro k hk hd;rw [rng_drop p N k (by omega)]
   by_cases hp:p k=true
   ·rw [if_pos hp]
    refine ⟨fun h=>by omega,fun h=>?_⟩;rw [h k (by omega) (by omega)] at hp
    cases hp
   ·rw [if_neg hp,ih (k+1) (by omega) (by omega)]
    rw [Bool.not_eq_true] at hp;refine ⟨fun h m h1 h2=>?_,fun h m h1 h2=>h m (by omega) h2⟩
    by_cases e:m=k
    ·subst e;exact hp
    ·exact h m (by omega) h2
 have:=key N 0 (by omega) (by omega)
 simpa using this
theorem thm_iff (L:Nat) (E:List Fm) (N:Nat) (A B:List Fm):thmB L E N A B=true↔∀ m,m<N→liveB L E N m=true→refB E A B m=false:=by
 unfold thmB fstI;rw [decide_eq_true_eq,idx_low];refine ⟨fun h m hm hl=>?_,fun h m hm=>?_⟩
 ·have:=h m hm
  rw [hl] at this;exact this
 ·cases hl:liveB L E N m
  ·rfl
  ·exact h m hm hl
set_option maxRecDepth 20000 in
set_option maxHeartbeats 4000000 in
theorem valueIn_any (E:List Fm) (ss:List ByteArray) (h8:E.length≤8) (m:Nat) (hm:m<256) (r:Nat) (pv:Value) (t:Fm):
  ∀ (v:Value) (w:World),(∀ x∈subs t,isEl x=true→x∈E)→Nds w v t.enc→w.cell? ⟨r,1,none⟩=some pv→ElL w pv ss (E.map Fm.enc)→
  Calls Tryz.prog 173 #[.pointer (some ⟨r,0,none⟩),v,.int .i64 m] w fun e w'=>e=.returned (.bool (valB E m t))∧Keeps w w':=by
 induction t with
 | var i=>intro v w hs hv hc hp;exact valueIn_el E ss h8 m hm (.var i) (.inl rfl) (hs _ (subs_self _) rfl) v w r pv hv hc hp
 | box a _=>intro v w hs hv hc hp;exact valueIn_el E ss h8 m hm (.box a) (.inr (.inl rfl)) (hs _ (subs_self _) rfl) v w r pv hv hc hp
 | dia a _=>intro v w hs hv hc hp;exact valueIn_el E ss h8 m hm (.dia a) (.inr (.inr rfl)) (hs _ (subs_self _) rfl) v w r pv hv hc hp
 | fls=>
  intro v w hs hv hc1 hp;obtain ⟨b,off,n,cap,rfl,h0,h1,h2,h3,hc,-⟩:=hv.root;have kA:=(Keeps.refl w).alloc (.cells #[.slice (some ⟨b,off,none⟩) n cap] 34);have hcA:=kA.cell hc;rw [show Fm.fls.kind=1 from rfl] at hcA;unfold maxLen at h2;clear hs hp hv hc1 hc;go_enter Tryz.func173,Tryz.ntmps173;go_wp2_with fail;go_ret;exact ⟨rfl,kA⟩
 | and x y ihx ihy=>
  intro v w hs hv hc1 hp;have HX:=hid (fun vz wz (kz:Keeps w wz) (hz:Nds wz vz x.enc)=>ihx vz wz (fun a ha=>hs a (by simp [subs,ha])) hz (kz.cell hc1) (hp.keeps kz));have HY:=hid (fun vz wz (kz:Keeps w wz) (hz:Nds wz vz y.enc)=>ihy vz wz (fun a ha=>hs a (by simp [subs,ha])) hz (kz.cell hc1) (hp.keeps kz));have hv0:=hv;obtain ⟨b,off,n,cap,rfl,h0,h1,h2,h3,hc,-⟩:=hv.root;have kA:=(Keeps.refl w).alloc (.cells #[.slice (some ⟨b,off,none⟩) n cap] 34)
  have c0:(w.alloc (.cells #[.slice (some ⟨b,off,none⟩) n cap] 34)).cell? ⟨w.heap.size,0,none⟩=some (.slice (some ⟨b,off,none⟩) n cap):=by simp
  have hcA:=kA.cell hc;rw [show (Fm.and x y).kind=2 from rfl] at hcA;have hvA:=hv0.keeps kA;unfold maxLen at h2;clear hs hp hv hc1 hc hv0 ihx ihy;go_enter Tryz.func173,Tryz.ntmps173;go_wp2_with fail;refine (first_any _ _ x y.enc _ _ hvA rfl).mono ?_;rintro e w' ⟨v1,rfl,hv1,rfl⟩;go_wp2_with fail;refine (HX.out v1 _ kA hv1).mono ?_;rintro e w2 ⟨rfl,k2⟩;have c2:=k2.cell c0
  cases hbx:valB E m x
  ·go_wp2_with fail
   go_ret;exact ⟨ret_bool (by simp [valB,hbx]),kA.trans k2⟩
  ·go_wp2_with fail
   refine (second_any _ _ x y _ _ (hvA.keeps k2) rfl).mono ?_;rintro e w' ⟨v3,rfl,hv3,rfl⟩;go_wp2_with fail;refine (HY.out v3 _ (kA.trans k2) hv3).mono ?_;rintro e w4 ⟨rfl,k4⟩;go_wp2_with fail;go_ret;exact ⟨ret_bool (by simp [valB,hbx]),(kA.trans k2).trans k4⟩
 | or x y ihx ihy=>
  intro v w hs hv hc1 hp;have HX:=hid (fun vz wz (kz:Keeps w wz) (hz:Nds wz vz x.enc)=>ihx vz wz (fun a ha=>hs a (by simp [subs,ha])) hz (kz.cell hc1) (hp.keeps kz));have HY:=hid (fun vz wz (kz:Keeps w wz) (hz:Nds wz vz y.enc)=>ihy vz wz (fun a ha=>hs a (by simp [subs,ha])) hz (kz.cell hc1) (hp.keeps kz));have hv0:=hv;obtain ⟨b,off,n,cap,rfl,h0,h1,h2,h3,hc,-⟩:=hv.root;have kA:=(Keeps.refl w).alloc (.cells #[.slice (some ⟨b,off,none⟩) n cap] 34)
  have c0:(w.alloc (.cells #[.slice (some ⟨b,off,none⟩) n cap] 34)).cell? ⟨w.heap.size,0,none⟩=some (.slice (some ⟨b,off,none⟩) n cap):=by simp
  have hcA:=kA.cell hc;rw [show (Fm.or x y).kind=3 from rfl] at hcA;have hvA:=hv0.keeps kA;unfold maxLen at h2;clear hs hp hv hc1 hc hv0 ihx ihy;go_enter Tryz.func173,Tryz.ntmps173;go_wp2_with fail;refine (first_any _ _ x y.enc _ _ hvA rfl).mono ?_;rintro e w' ⟨v1,rfl,hv1,rfl⟩;go_wp2_with fail;refine (HX.out v1 _ kA hv1).mono ?_;rintro e w2 ⟨rfl,k2⟩;have c2:=k2.cell c0
  cases hbx:valB E m x
  ·go_wp2_with fail
   refine (second_any _ _ x y _ _ (hvA.keeps k2) rfl).mono ?_;rintro e w' ⟨v3,rfl,hv3,rfl⟩;go_wp2_with fail;refine (HY.out v3 _ (kA.trans k2) hv3).mono ?_;rintro e w4 ⟨rfl,k4⟩;go_wp2_with fail;go_ret;exact ⟨ret_bool (by simp [valB,hbx]),(kA.trans k2).trans k4⟩
  ·go_wp2_with fail
   go_ret;exact ⟨ret_bool (by simp [valB,hbx]),kA.trans k2⟩
 | imp x y ihx ihy=>
  intro v w hs hv hc1 hp;have HX:=hid (fun vz wz (kz:Keeps w wz) (hz:Nds wz vz x.enc)=>ihx vz wz (fun a ha=>hs a (by simp [subs,ha])) hz (kz.cell hc1) (hp.keeps kz));have HY:=hid (fun vz wz (kz:Keeps w wz) (hz:Nds wz vz y.enc)=>ihy vz wz (fun a ha=>hs a (by simp [subs,ha])) hz (kz.cell hc1) (hp.keeps kz));have hv0:=hv;obtain ⟨b,off,n,cap,rfl,h0,h1,h2,h3,hc,-⟩:=hv.root;have kA:=(Keeps.refl w).alloc (.cells #[.slice (some ⟨b,off,none⟩) n cap] 34)
  have c0:(w.alloc (.cells #[.slice (some ⟨b,off,none⟩) n cap] 34)).cell? ⟨w.heap.size,0,none⟩=some (.slice (some ⟨b,off,none⟩) n cap):=by simp
  have hcA:=kA.cell hc;rw [show (Fm.imp x y).kind=4 from rfl] at hcA;have hvA:=hv0.keeps kA;unfold maxLen at h2;clear hs hp hv hc1 hc hv0 ihx ihy;go_enter Tryz.func173,Tryz.ntmps173;go_wp2_with fail;refine (first_any _ _ x y.enc _ _ hvA rfl).mono ?_;rintro e w' ⟨v1,rfl,hv1,rfl⟩;go_wp2_with fail;refine (HX.out v1 _ kA hv1).mono ?_;rintro e w2 ⟨rfl,k2⟩;have c2:=k2.cell c0
  cases hbx:valB E m x
  ·go_wp2_with fail
   go_ret;exact ⟨ret_bool (by simp [valB,hbx]),kA.trans k2⟩
  ·go_wp2_with fail
   refine (second_any _ _ x y _ _ (hvA.keeps k2) rfl).mono ?_;rintro e w' ⟨v3,rfl,hv3,rfl⟩;go_wp2_with fail;refine (HY.out v3 _ (kA.trans k2) hv3).mono ?_;rintro e w4 ⟨rfl,k4⟩;go_wp2_with fail;go_ret;exact ⟨ret_bool (by simp [valB,hbx]),(kA.trans k2).trans k4⟩
theorem idx_at (E:List Fm) (t:Fm) (h:t∈E):∃ hj:E.idxOf t<E.length,E[E.idxOf t]=t:=by
 have hj:=(idx_el E t h 0).2;exact ⟨hj,List.getElem_idxOf hj⟩
end
section
open Go.RowKit
def RowsB (w:World) (B:Nat) (vs:List Value) (xs:List (List Bool)):Prop:=vs.length=xs.length∧∀ i (h1:i<vs.length) (h2:i<xs.length),OwnB w B vs[i] xs[i]
theorem RowsB.nil (w:World) (B:Nat):RowsB w B [] []:=⟨rfl,fun i h=>by simp at h⟩
theorem RowsB.snoc {w:World} {B:Nat} {v:Value} {vs:List Value} {x:List Bool} {xs:List (List Bool)} (h:OwnB w B v x) (hs:RowsB w B vs xs):RowsB w B (vs++[v]) (xs++[x]):=
 ⟨by simp [hs.1],fun i h1 h2=>by
  have hl:=hs.1
  by_cases hi:i<vs.length
  ·rw [List.getElem_append_left hi,List.getElem_append_left (by omega)];exact hs.2 i hi (by omega)
  ·simp at h1
   obtain rfl:i=vs.length:=by omega
   rw [List.getElem_append_right (Nat.le_refl _),List.getElem_append_right (by omega)]
   simpa [hl] using h⟩
theorem OwnB.touch {w w':World} {S:Nat→Prop} {B:Nat} {v:Value} {x:List Bool} (h:OwnB w B v x) (k:Touch w w' S) (hS:∀ i,v.ownBlock=some i→¬S i):OwnB w' B v x:=own_touch h k hS
theorem RowsB.touch {w w':World} {S:Nat→Prop} {B:Nat} {vs:List Value} {xs:List (List Bool)} (h:RowsB w B vs xs) (k:Touch w w' S) (hS:∀ i,blk vs i→¬S i):RowsB w' B vs xs:=
 ⟨h.1,fun i h1 h2=>(h.2 i h1 h2).touch k (fun j e=>hS j ⟨i,h1,e⟩)⟩
theorem RowsB.keeps {w w':World} {B:Nat} {vs:List Value} {xs:List (List Bool)} (h:RowsB w B vs xs) (k:Keeps w w'):RowsB w' B vs xs:=⟨h.1,fun i h1 h2=>(h.2 i h1 h2).keeps k⟩
def neCells:List Nee→List Value→List Value
 | n::ns,u::us=>.int .i64 n.ix::.int .i64 n.kd::u::neCells ns us
 | _,_=>[]
theorem neCells_len:∀ (ns:List Nee) (us:List Value),ns.length=us.length→(neCells ns us).length=ns.length*3
 | [],[],_=>rfl
 | n::ns,u::us,h=>by
  have:=neCells_len ns us (by simpa using h);simp only [neCells,List.length_cons,this];omega
 | [],_::_,h=>by simp at h
 | _::_,[],h=>by simp at h
theorem neCells_snoc:∀ (ns:List Nee) (us:List Value) (n:Nee) (u:Value),ns.length=us.length→neCells (ns++[n]) (us++[u])=neCells ns us++[.int .i64 n.ix,.int .i64 n.kd,u]
 | [],[],_,_,_=>rfl
 | x::ns,y::us,n,u,h=>by
  have:=neCells_snoc ns us n u (by simpa using h);simp only [List.cons_append,neCells,this]
 | [],_::_,_,_,h=>by simp at h
 | _::_,[],_,_,h=>by simp at h
theorem neCells_get:∀ (ns:List Nee) (us:List Value) (i:Nat) (h1:i<ns.length) (h2:i<us.length),(neCells ns us)[i*3]? = some (.int .i64 ns[i].ix)∧(neCells ns us)[i*3+1]? = some (.int .i64 ns[i].kd)∧(neCells ns us)[i*3+2]? = some us[i]
 | n::ns,u::us,0,_,_=>by simp [neCells]
 | n::ns,u::us,i+1,h1,h2=>by
  have:=neCells_get ns us i (by simpa using h1) (by simpa using h2)
  simpa [neCells,Nat.add_mul] using this
theorem infoNe:(Tryz.prog.info? 190).map (fun i=>(i.zero,i.size,i.bytes))=some (some (.agg #[.int .i64 0,.int .i64 0,.slice none 0 0]),3,40):=by kernel_rfl
theorem tyNeB:(190:TypeId)≠4:=by decide
def OwnNe (w:World) (B:Nat) (v:Value) (ns:List Nee):Prop:=
 ∃ us,w.ownsRow B 190 3 v ns.length (neCells ns us)∧RowsB w B us (ns.map Nee.inn)
theorem OwnNe.nil (w:World) (B:Nat):OwnNe w B (.slice none 0 0) []:=⟨[],World.ownsRow_nil w B _ 3,RowsB.nil _ _⟩
theorem OwnNe.keeps {w w':World} {B:Nat} {v:Value} {ns:List Nee} (h:OwnNe w B v ns) (k:Keeps w w'):OwnNe w' B v ns:=by
 obtain ⟨us,h1,h2⟩:=h;exact ⟨us,own_keeps h1 k,h2.keeps k⟩
theorem OwnNe.other {w w':World} {B B':Nat} {v u:Value} {ns:List Nee} {T:TypeId} {s m:Nat} {cs:List Value} {S:Nat→Prop} (h:OwnNe w B v ns) (ho:w.ownsRow B' T s u m cs) (t1:T≠190) (t2:T≠4) (hS:∀ i,S i→u.ownBlock=some i) (k:Touch w w' S):OwnNe w' B v ns:=by
 obtain ⟨us,h1,h2⟩:=h;refine ⟨us,own_touch h1 k (fun i e hi=>type_ne ho h1 t1 (hS i hi) e),h2.touch k (fun i hb hi=>?_)⟩;obtain ⟨j,hj,e⟩:=hb;exact type_ne ho (h2.2 j hj (by have:=h2.1;omega)) t2 (hS i hi) e
theorem OwnNe.shape {w:World} {B:Nat} {v:Value} {ns:List Nee} (h:OwnNe w B v ns):∃ p c,v=.slice p ns.length c:=by
 obtain ⟨us,h1,_⟩:=h;obtain ⟨p,c,e,_⟩:=At.of_own h1;exact ⟨p,c,e⟩
theorem OwnNe.neeO {w w':World} {B g:Nat} {v:Value} {ns:List Nee} (_h:OwnNe w' B v ns) (hl:ns.length≤8) (hb:∀ n∈ns,n.inn.length≤2147483648) (h0:OwnNe w B v ns) (k:∀ us,w.ownsRow B 190 3 v ns.length (neCells ns us)→RowsB w B us (ns.map Nee.inn)→w'.ownsRow B 190 3 v ns.length (neCells ns us)∧RowsB w' B us (ns.map Nee.inn)) (hg:w.heap.size≤g):NeeO w' g v ns:=by
 obtain ⟨us,a1,a2⟩:=h0;obtain ⟨h1,h2⟩:=k us a1 a2
 have hul:us.length=ns.length:=by rw [h2.1,List.length_map]
 obtain ⟨p,cap,e,hn,hm,hat⟩:=At.of_own h1;refine ⟨p,cap,e,hn,hm,hl,fun i a=>?_⟩;obtain ⟨g1,g2,g3⟩:=neCells_get ns us i a (by omega);have l2:=neCells_len ns us hul.symm;obtain ⟨b,off,hp,hc⟩:=hat (i*3) (by omega);obtain ⟨b',off',hp',hc'⟩:=hat (i*3+1) (by omega);obtain ⟨b'',off'',hp'',hc''⟩:=hat (i*3+2) (by omega);rw [hp] at hp' hp''
 cases hp'
 cases hp''
 rw [List.getElem?_eq_getElem (by omega)] at g1 g2 g3;rw [Option.some.inj g1] at hc;rw [Option.some.inj g2] at hc';rw [Option.some.inj g3] at hc''
 have hbl:b≠g:=by
  rw [e,hp] at a1
  have:=(World.ownsRow.lt a1 b (by
   rcases a1.2 with ⟨e0,_⟩ | ⟨g9,c9,_,e0,_⟩
   ·cases e0
   ·cases e0;rfl)).2
  omega
 have hu:=a2.2 i (by omega) (by simpa using a);have hu':=h2.2 i (by omega) (by simpa using a);refine ⟨b,off,us[i]'(by omega),hp,hbl,?_,hc,by rw [←Nat.add_assoc] at hc';exact hc',by rw [←Nat.add_assoc] at hc'';exact hc'',?_⟩
 ·intro b2 o2 m2 c2 e2
  rcases hu.2 with ⟨e0,_⟩ | ⟨g9,c9,_,e0,_,hg9,_⟩
  ·rw [e2] at e0;cases e0
  ·rw [e2] at e0
   cases e0
   have:=(Array.getElem?_eq_some_iff.1 hg9).1;omega
 ·have:=OwnB.bools hu' (by simpa using hb _ (List.getElem_mem a))
  simpa using this
theorem OwnNe.neeL {w:World} {B:Nat} {v:Value} {ns:List Nee} (h:OwnNe w B v ns) (hl:ns.length≤8) (hb:∀ n∈ns,n.inn.length≤2147483648):NeeL w v ns:=
 (h.neeO hl hb h (fun _us a b=>⟨a,b⟩) (Nat.le_refl _)).neeL
theorem appNeK {w:World} {o:Oper} {a:Act} {K:Act→World→Prop} {Q:Exit→Act→World→Prop} (s x:Operand)
  (ho:o.op=.call { callee:=.builtin .append,args:=#[s,x],argTypes:=#[186,186] }) (base:Nat) (v:Value) (ns:List Nee) (hs:a.eval s=v)
  (hown:OwnNe w base v ns) (n:Nee) (u:Value) (hu:OwnB w base u n.inn) (hbase:base≤w.heap.size)
  (p:Option Addr) (c:Nat) (hx:a.eval x=.slice p 1 c) (hat:At w p [.int .i64 n.ix,.int .i64 n.kd,u]) (hlen:ns.length≤1000000)
  (h:∀ v' w',OwnNe w' base v' (ns++[n])→w.grownBy w' v.ownBlock→(∀ k,v.ownBlock=some k→base≤k)→K (a.put o.dst v') w'):o.wp Tryz.prog a w K Q:=by
 obtain ⟨i0,hi,hz0,hz1,hz2⟩:=info_parts infoNe;obtain ⟨us,hrow,hr⟩:=hown
 have hone:∀ z∈[Value.int .i64 n.ix,.int .i64 n.kd,u],z.oneCell'=true:=by
  intro z hz
  simp at hz
  rcases hz with rfl | rfl | rfl
  ·rfl
  ·rfl
  ·obtain ⟨p,c,e,_⟩:=At.of_own hu
   rw [e];rfl
 refine wp_append_at s x _ ho _ i0 _ 3 40 Tryz.underlying186 hi hz0 hz1 hz2 rfl (by decide) base v _ _ hs hrow p 1 c [.int .i64 n.ix,.int .i64 n.kd,u] hx (by simp) hat hone (by unfold maxLen;omega) (by omega) hbase ?_;intro v' w' h1 h2 h3;refine h v' w' ⟨us++[u],?_,?_⟩ h2 h3
 ·rw [neCells_snoc _ _ _ _ (by rw [hr.1,List.length_map]),List.length_append]
  exact h1
 ·rw [List.map_append,List.map_cons,List.map_nil]
  have hoff:∀ i,v.ownBlock=some i→¬blk us i:=fun i hv ⟨j,hj,e⟩=>type_ne hrow (hr.2 j hj (by have:=hr.1;omega)) tyNeB hv e
  refine RowsB.snoc ?_ (hr.touch (Touch.grown h2) (fun i hb e=>hoff i e.symm hb));exact hu.touch (Touch.grown h2) (fun i hi e=>type_ne hrow hu tyNeB e.symm hi)
theorem stepNe {w:World} {ops:Array Oper} {o:Oper} {a:Act} {K:Act→World→Prop} {Q:Exit→Act→World→Prop} {E:Prop} (hgd:o.guard=none) (s x:Operand)
  (ho:o.op=.call { callee:=.builtin .append,args:=#[s,x],argTypes:=#[186,186] }) (base:Nat) (v:Value) (ns:List Nee) (hs:a.eval s=v)
  (hown:OwnNe w base v ns) (n:Nee) (u:Value) (hu:OwnB w base u n.inn) (hbase:base≤w.heap.size)
  (p:Option Addr) (c:Nat) (hx:a.eval x=.slice p 1 c) (hat:At w p [.int .i64 n.ix,.int .i64 n.kd,u]) (hlen:ns.length≤1000000)
  (h:∀ v' w',OwnNe w' base v' (ns++[n])→w.grownBy w' v.ownBlock→(∀ k,v.ownBlock=some k→base≤k)→K (a.put o.dst v') w'):if Region.wanted o (yielded ops a.tmps)=true then Oper.wp Tryz.prog o a w K Q else E:=by
 rw [if_pos (by simp [Region.wanted,hgd])];exact appNeK s x ho base v ns hs hown n u hu hbase p c hx hat hlen h
theorem At.lit3v (w:World) (a b u:Value) (E:TypeId):At (w.alloc (.cells #[a,b,u] E)) (some ⟨w.heap.size,0,none⟩) [a,b,u]:=by
 intro j hj
 match j,hj with
 | 0,_=>exact ⟨_,_,rfl,by simp⟩
 | 1,_=>exact ⟨_,_,rfl,by simp⟩
 | 2,_=>exact ⟨_,_,rfl,by simp⟩
def BoxT (w:World) (r:Nat) (c0 c1 c2 c3 c4 c5:Value):Prop:=w.ownsRow r 188 6 (.slice (some ⟨r,0,none⟩) 1 1) 1 [c0,c1,c2,c3,c4,c5]
section
variable {w w':World} {r:Nat} {c0 c1 c2 c3 c4 c5:Value}
theorem BoxT.cell0 (h:BoxT w r c0 c1 c2 c3 c4 c5):w.cell? ⟨r,0,none⟩=some c0:=by rw [World.ownsRow.cellAt h 0 (by omega)];rfl
theorem BoxT.cell1 (h:BoxT w r c0 c1 c2 c3 c4 c5):w.cell? ⟨r,1,none⟩=some c1:=by rw [World.ownsRow.cellAt h 1 (by omega)];rfl
theorem BoxT.cell2 (h:BoxT w r c0 c1 c2 c3 c4 c5):w.cell? ⟨r,2,none⟩=some c2:=by rw [World.ownsRow.cellAt h 2 (by omega)];rfl
theorem BoxT.cell3 (h:BoxT w r c0 c1 c2 c3 c4 c5):w.cell? ⟨r,3,none⟩=some c3:=by rw [World.ownsRow.cellAt h 3 (by omega)];rfl
theorem BoxT.cell4 (h:BoxT w r c0 c1 c2 c3 c4 c5):w.cell? ⟨r,4,none⟩=some c4:=by rw [World.ownsRow.cellAt h 4 (by omega)];rfl
theorem BoxT.cell5 (h:BoxT w r c0 c1 c2 c3 c4 c5):w.cell? ⟨r,5,none⟩=some c5:=by rw [World.ownsRow.cellAt h 5 (by omega)];rfl
theorem BoxT.froz (h:BoxT w r c0 c1 c2 c3 c4 c5) (i:Nat):w.frozen? ⟨r,i,none⟩=false:=World.ownsRow.frozenAt h i
theorem BoxT.lt (h:BoxT w r c0 c1 c2 c3 c4 c5):r<w.heap.size:=(World.ownsRow.lt h r rfl).2
theorem BoxT.set2 (h:BoxT w r c0 c1 c2 c3 c4 c5) (x:Value):BoxT (w.setCell ⟨r,2,none⟩ x) r c0 c1 x c3 c4 c5:=(World.ownsRow.stored h 2 x).1
theorem BoxT.set3 (h:BoxT w r c0 c1 c2 c3 c4 c5) (x:Value):BoxT (w.setCell ⟨r,3,none⟩ x) r c0 c1 c2 x c4 c5:=(World.ownsRow.stored h 3 x).1
theorem BoxT.set4 (h:BoxT w r c0 c1 c2 c3 c4 c5) (x:Value):BoxT (w.setCell ⟨r,4,none⟩ x) r c0 c1 c2 c3 x c5:=(World.ownsRow.stored h 4 x).1
theorem BoxT.set5 (h:BoxT w r c0 c1 c2 c3 c4 c5) (x:Value):BoxT (w.setCell ⟨r,5,none⟩ x) r c0 c1 c2 c3 c4 x:=(World.ownsRow.stored h 5 x).1
theorem BoxT.grown (h:BoxT w r c0 c1 c2 c3 c4 c5) (i:Nat) (x:Value):w.grownBy (w.setCell ⟨r,i,none⟩ x) (some r):=(World.ownsRow.stored h i x).2
theorem BoxT.keeps (h:BoxT w r c0 c1 c2 c3 c4 c5) (k:Keeps w w'):BoxT w' r c0 c1 c2 c3 c4 c5:=own_keeps h k
theorem BoxT.other {B s m:Nat} {T:TypeId} {u:Value} {cs:List Value} {S:Nat→Prop} (h:BoxT w r c0 c1 c2 c3 c4 c5) (ho:w.ownsRow B T s u m cs) (t:T≠188) (hS:∀ i,S i→u.ownBlock=some i) (k:Touch w w' S):BoxT w' r c0 c1 c2 c3 c4 c5:=
 own_touch h k (fun i e hi=>type_ne ho h t (hS i hi) e)
theorem BoxT.made (w:World) (c0 c1 c2 c3 c4 c5:Value):BoxT (w.alloc (.cells #[c0,c1,c2,c3,c4,c5] 188)) w.heap.size c0 c1 c2 c3 c4 c5:=by
 have h:=World.ownsRow_lit (base:=w.heap.size) (e:=188) (size:=6) w #[c0,c1,c2,c3,c4,c5] 1 (Nat.le_refl _) (by simp [maxLen]) (by simp)
 simpa [BoxT] using h
end
theorem OwnE.touch {w w':World} {B:Nat} {v:Value} {ss:List ByteArray} {xs:List (List Nd)} {S:Nat→Prop} (h:OwnE w B v ss xs) (k:Touch w w' S) (hS:∀ i,S i→w.heap.size≤i∨∃ r T s c0,w.ownsRow r T s (.slice (some ⟨i,0,none⟩) 1 1) 1 c0∧T≠185∧T≠74):OwnE w' B v ss xs:=by
 obtain ⟨us,h1,h2,h3⟩:=h;refine ⟨us,own_touch h1 k (fun i e hi=>?_),h2.touch k (fun i hb hi=>?_),h3⟩
 ·have hl:=(World.ownsRow.lt h1 i e).2
  rcases hS i hi with h0 | ⟨r,T,s,c0,ho,t1,_⟩
  ·omega
  ·exact type_ne ho h1 t1 rfl e
 ·have hl:=(h2.lt hb).2
  rcases hS i hi with h0 | ⟨r,T,s,c0,ho,_,t2⟩
  ·omega
  ·obtain ⟨j,hj,e⟩:=hb
   exact type_ne ho (h2.2 j hj (by have:=h2.1;omega)) t2 rfl e
end
end Go.Proofs.YtbccmdfdclomiaaGreatDoor
