import Derived.Test.YtikooimokfbffaaGreatDoorHOI
import Derived.Test.YtikooimokfbffaaGreatDoorHOM
import Derived.Test.YtikooimokfbffaaGreatDoorHVS
import Derived.Lib.OwnBridge
import Derived.Sort.OwnSorted
import Derived.Lib.SliceRun
/- The library's SortFunc and CompactFunc at lists of numbers; the program's sorted lists. -/
namespace Go.Proofs.YtikooimokfbffaaGreatDoor
open Go.RowKit Go.Sort
theorem grown_drewN (w : World) (q : Nat) (r : Option Nat) : w.grownBy (w.drewN q) r := ⟨rfl, rfl, rfl, Nat.le_refl _, fun _ _ _ => rfl⟩
theorem drewN2 (w : World) (a b : Nat) : (w.drewN a).drewN b = w.drewN (a + b) := by simp [World.drewN, Nat.add_assoc]
set_option maxRecDepth 20000 in
set_option maxHeartbeats 1000000 in
theorem equalQ_any (a b : List Int) (va vb : Value) (w : World) (hva : Ints w va a) (hvb : Ints w vb b) :
  Calls Tryz.prog 183 #[va, vb] w fun e w' => e = .returned (.bool (decide (a = b))) ∧ ∃ q, w' = w.drewN q := by
 have hva0 := hva
 have hvb0 := hvb
 obtain ⟨pa, ca, rfl, hlea, hmxa, _, hlena⟩ := hva
 obtain ⟨pb, cb, rfl, hleb, hmxb, _, hlenb⟩ := hvb
 unfold maxLen at hmxa hmxb
 by_cases hl : a.length = b.length
 ·have hl' : ((a.length : Int) != (b.length : Int)) = false := by simp [hl]
  have HL := hid hl; clear hl
  go_enter Tryz.func183, Tryz.ntmps183
  go_wp2
  go_loopw [4, 13] (fun r i' wr => ∃ k : Nat, k ≤ a.length ∧ a.take k = b.take k ∧ (∃ q, wr = w.drewN q) ∧ i' = .int .i64 k ∧ r = .bool false) (fun _ i _ => a.length - (intOf i).toNat)
  case atStart => exact ⟨0, by omega, rfl, ⟨0, rfl⟩, rfl, rfl⟩
  case round =>
   obtain ⟨k, hk, htk, ⟨q, rfl⟩, rfl, rfl⟩ := hrel
   have HT := hid htk; clear htk
   clear hl'
   by_cases hlt : k < a.length
   ·have hltb : k < b.length := by have := HL.out; omega
    obtain ⟨_, _, e1, _, _, hata, _⟩ := id hva0
    obtain ⟨_, _, e2, _, _, hatb, _⟩ := id hvb0
    cases e1; cases e2
    obtain ⟨b1, o1, rfl, h1⟩ := hata.int k hlt
    obtain ⟨b2, o2, rfl, h3⟩ := hatb.int k hltb
    clear hata hatb hva0 hvb0
    have hlt' : (k : Int) < a.length := by omega
    have hltb' : (k : Int) < b.length := by omega
    by_cases he : a[k] = b[k]
    ·have hd : (a[k] != b[k]) = false := by simp [he]
     have HE := hid he; clear he
     go_wp2_with fail
     go_quiet (fail)
     go_wp2
     go_roundw
     case rel => exact ⟨k + 1, by omega, by rw [List.take_succ_eq_append_getElem hlt, List.take_succ_eq_append_getElem hltb, HT.out, HE.out], ⟨_, rfl⟩, by go_num, rfl⟩
     case measure => simp [intOf]; omega
    ·have hd : (a[k] != b[k]) = true := by simp [he]
     have HE := hid he; clear he
     go_wp2_with fail
     go_quiet (fail)
     go_wp2
     go_ret
     refine ⟨ret_bool ?_, ⟨_, drewN2 _ _ _⟩⟩
     symm; rw [decide_eq_false_iff_not]
     rintro rfl; exact HE.out rfl
   ·have hlt' : ¬ (k : Int) < a.length := by omega
    go_wp2
    go_ret
    refine ⟨ret_bool ?_, ⟨_, rfl⟩⟩
    symm; rw [decide_eq_true_eq]
    have h1 := HL.out; have h2 := HT.out
    rw [List.take_of_length_le (by omega), List.take_of_length_le (by omega)] at h2
    exact h2
 ·have hl' : ((a.length : Int) != (b.length : Int)) = true := by simp; omega
  have HL := hid hl; clear hl
  go_enter Tryz.func183, Tryz.ntmps183
  go_wp2
  go_ret
  refine ⟨ret_bool ?_, ⟨0, rfl⟩⟩
  symm; rw [decide_eq_false_iff_not]
  rintro rfl; exact HL.out rfl
theorem OwnLI.store {w : World} {B g n cap : Nat} {xs : List (List Nat)} (h : OwnLI w B (.slice (some ⟨g, 0, none⟩) n cap) xs) (i : Nat) {u : Value} {y : List Nat} (hu : OwnI w B u (zs y)) :
  OwnLI (w.setCell ⟨g, i, none⟩ u) B (.slice (some ⟨g, 0, none⟩) n cap) (xs.set i y) ∧ w.grownBy (w.setCell ⟨g, i, none⟩ u) (some g) ∧ w.frozen? ⟨g, i, none⟩ = false := by
 obtain ⟨vs, ho, hr⟩ := h
 have hn : n = xs.length := by
  obtain ⟨p, c, e, _⟩ := At.of_own ho
  cases e; rfl
 subst hn
 have hst := ho.stored i u
 have hoff := fun k (e : some k = some g) => RowsI.off hr ho tyneLI (k := k) (by simpa [Value.ownBlock] using e.symm)
 refine ⟨⟨vs.set i u, by rw [List.length_set]; exact hst.1, by simp [hr.1], fun j h1 h2 => ?_⟩, hst.2, ho.frozenAt i⟩
 have hr2 := hr.touch (Touch.grown hst.2) (fun k hb e => hoff k e hb)
 have hu2 := hu.touch (Touch.grown hst.2) (fun k hk e => type_ne ho hu tyneLI e.symm hk)
 by_cases e : i = j
 ·subst e; simpa using hu2
 ·rw [List.getElem_set_ne e, List.getElem_set_ne e]
  exact hr2.2 j (by simpa using h1) (by simpa using h2)
theorem OwnLI.cellsL {w : World} {B g n cap : Nat} {xs : List (List Nat)} (h : OwnLI w B (.slice (some ⟨g, 0, none⟩) n cap) xs) (i : Nat) (hi : i < xs.length) : ∃ u, w.cell? ⟨g, i, none⟩ = some u ∧ OwnI w B u (zs xs[i]) ∧ w.frozen? ⟨g, i, none⟩ = false := by
 obtain ⟨b, off, u, hp, hc, hu⟩ := h.get i hi
 cases hp
 obtain ⟨vs, ho, hr⟩ := h
 have hn : n = xs.length := by
  obtain ⟨p, c, e, _⟩ := At.of_own ho
  cases e; rfl
 subst hn
 exact ⟨u, by simpa using hc, hu, ho.frozenAt i⟩
theorem OwnLI.cut {w : World} {B g n cap : Nat} {xs : List (List Nat)} (h : OwnLI w B (.slice (some ⟨g, 0, none⟩) n cap) xs) (k : Nat) (hk : k ≤ n) : OwnLI w B (.slice (some ⟨g, 0, none⟩) k cap) (xs.take k) := by
 obtain ⟨vs, ho, hr⟩ := h
 have hn : n = xs.length := by
  obtain ⟨p, c, e, _⟩ := At.of_own ho
  cases e; rfl
 subst hn
 refine ⟨vs.take k, ?_, by simp [hr.1], fun j h1 h2 => ?_⟩
 ·rcases ho with ⟨hl, ⟨e, _⟩ | ⟨g', cap', cur, e, hb, hg, hn, hm, hs, ht⟩⟩
  ·cases e
  ·cases e
   have hlt : (xs.take k).length = k := by rw [List.length_take, Nat.min_eq_left hk]
   rw [hlt]
   refine ⟨by rw [List.length_take]; omega, .inr ⟨g, cap, cur, rfl, hb, hg, Nat.le_trans hk hn, hm, hs, ?_⟩⟩
   rw [← ht, List.take_take, Nat.mul_one, Nat.mul_one, Nat.min_eq_left hk]
 ·rw [List.getElem_take, List.getElem_take]
  exact hr.2 j (by simp at h1; omega) (by simp at h2; omega)
theorem OwnLI.cleared {B g cap : Nat} : ∀ (m k : Nat) (w : World) (n : Nat) (xs : List (List Nat)), OwnLI w B (.slice (some ⟨g, 0, none⟩) n cap) xs → B ≤ g → xs.length ≤ k →
  OwnLI (w.setCells g k (List.replicate m (.slice none 0 0))) B (.slice (some ⟨g, 0, none⟩) n cap) xs ∧ w.grownBy (w.setCells g k (List.replicate m (.slice none 0 0))) (some g)
 | 0, _, w, _, _, h, _, _ => ⟨h, grown_refl _ _⟩
 | m + 1, k, w, n, xs, h, hB, hk => by
  obtain ⟨h1, h2, _⟩ := h.store (y := []) k (OwnI.nil w B)
  rw [List.set_eq_of_length_le hk] at h1
  obtain ⟨h3, h4⟩ := OwnLI.cleared m (k + 1) _ n xs h1 hB (by omega)
  exact ⟨h3, grown_trans h2 h4⟩
structure RowV (w : World) (B : Nat) where
 v : Value
 l : List Nat
 ok : OwnI w B v (zs l)
 hl : l.length ≤ 100
instance (w : World) (B : Nat) : Inhabited (RowV w B) := ⟨⟨.slice none 0 0, [], OwnI.nil w B, by simp⟩⟩
theorem rows_vals {w : World} {B : Nat} : ∀ (xs : List (List Nat)) (vs : List Value), RowsI w B vs xs → (∀ x ∈ xs, x.length ≤ 100) → ∃ ds : List (RowV w B), ds.map RowV.v = vs ∧ ds.map RowV.l = xs
 | [], vs, h, _ => by
  have : vs = [] := List.eq_nil_of_length_eq_zero h.1
  subst this
  exact ⟨[], rfl, rfl⟩
 | x :: xs, [], h, _ => by have := h.1; simp at this
 | x :: xs, v :: vs, h, hl => by
  have h0 := h.2 0 (by simp) (by simp)
  obtain ⟨ds, e1, e2⟩ := rows_vals xs vs ⟨by simpa using h.1, fun i h1 h2 => h.2 (i + 1) (by simpa using h1) (by simpa using h2)⟩ (fun y hy => hl y (by simp [hy]))
  exact ⟨⟨v, x, h0, hl x (by simp)⟩ :: ds, by simp [e1], by simp [e2]⟩
theorem lt_swo {w : World} {B : Nat} : SWO (ltOf (fun x y : RowV w B => cmpL x.l y.l)) := by
 have key : ∀ x y : RowV w B, ltOf (fun x y : RowV w B => cmpL x.l y.l) x y = lessL x.l y.l := fun x y => cmpL_neg x.l y.l
 constructor
 ·intro x; rw [key]; exact lessL_irr _
 ·intro x y z h1 h2; rw [key] at *; exact lessL_trans h1 h2
 ·intro x y z h1 h2
  rw [key] at *
  rcases lessL_tri x.l z.l with h | h | h
  ·rcases lessL_tri x.l y.l with g | g | g
   ·rw [h1] at g; cases g
   ·rw [g] at h; rw [h2] at h; cases h
   ·have := lessL_trans g h
    rw [h2] at this; cases this
  ·rw [h]; exact lessL_irr _
  ·cases e : lessL x.l z.l
   ·rfl
   ·have := lessL_trans e h
    rw [lessL_irr] at this; cases this
theorem sort_grown {α : Type} [Inhabited α] {enc : α → Value} {w : World} {g n : Nat} {os : Array Obj} (d : Array α) : w.grownBy (sortWorld enc w g 0 n d os) (some g) := by
 refine ⟨rfl, rfl, rfl, by simp [sortWorld], fun k hk hne => ?_⟩
 unfold sortWorld
 rw [heap_grow_old _ _ (by simpa using hk)]
 have : g ≠ k := fun e => hne (by rw [e])
 simp [putRow, mapBlock, Sort.ahead, Array.getElem?_modify, this]
theorem keeps_grow (w : World) (os : Array Obj) : Keeps w (grow w os) := ⟨rfl, rfl, rfl, by simp, fun k hk => by rw [heap_grow_old _ _ hk]⟩
theorem sort_own {α : Type} [Inhabited α] {enc : α → Value} {w : World} {base : Nat} {e : TypeId} {g n cap q : Nat} {os : Array Obj} {cs bs : List α} (h : w.ownsRow base e 1 (.slice (some ⟨g, 0, none⟩) n cap) n (cs.map enc)) (hy : bs.length = n) :
  (sortWorld enc w g 0 q bs.toArray os).ownsRow base e 1 (.slice (some ⟨g, 0, none⟩) n cap) n (bs.map enc) := by
 have := Lib.ownsRow_putRow (q := q) h hy (Nat.le_refl n)
 rw [List.take_of_length_le (by omega)] at this
 exact own_keeps this (keeps_grow _ os)
theorem enters_cmp : Enters 141 := fun _ _ => by kernel_rfl
def SortedL (L : List (List Nat)) : Prop := ∀ i j (h1 : i < L.length) (h2 : j < L.length), i < j → lessL L[j] L[i] = false
theorem sortFuncLI_any (B : Nat) (v : Value) (w : World) (L : List (List Nat)) (hv : OwnLI w B v L) (hl : ∀ x ∈ L, x.length ≤ 100) (hL : L.length ≤ 1000000) (hne : L ≠ []) :
  Calls Tryz.prog 258 #[v, .func (.func 141) #[] #[]] w fun e w' => e = .returned (.tuple #[]) ∧
   ∃ L2, OwnLI w' B v L2 ∧ L2.length = L.length ∧ (∀ x, x ∈ L2 ↔ x ∈ L) ∧ SortedL L2 ∧ w.grownBy w' v.ownBlock := by
 have hn : v ≠ .slice none 0 0 := fun e => by
  subst e
  obtain ⟨p, c, e, _⟩ := hv.shape
  injection e with _ e2 _
  exact hne (List.eq_nil_of_length_eq_zero e2.symm)
 obtain ⟨vs, ho, hr⟩ := hv
 obtain ⟨ds, e1, e2⟩ := rows_vals L vs hr hl
 subst e1
 have hdl : ds.length = L.length := by rw [← e2, List.length_map]
 obtain ⟨g, cap, rfl, hbg, hgl, hncap, hcm, hlen, hH⟩ := Lib.holds_of_ownsRow ho hn
 have hcmp : CmpReads Tryz.prog 141 #[] RowV.v (fun x y : RowV w B => cmpL x.l y.l) g 0 ds.toArray.size w := by
  intro m os dk _ x y
  have ht := Touch.grown (sort_grown (enc := RowV.v) (w := w) (g := g) (n := m) (os := os) dk)
  have hx := x.ok.touch ht (fun i hi e => type_ne ho x.ok tyneLI e.symm hi)
  have hy := y.ok.touch ht (fun i hi e => type_ne ho y.ok tyneLI e.symm hi)
  refine (compareI_any x.l y.l x.v y.v _ (hx.ints (by rw [zs_length]; have := x.hl; omega)) (hy.ints (by rw [zs_length]; have := y.hl; omega))).mono ?_
  rintro e w' ⟨rfl, rfl⟩
  exact ⟨rfl, 0, rfl⟩
 have hs := Tryz.slices_SortFunc (RowV.v (w := w) (B := B)) (fun x => x.ok.one) (fun x y => cmpL x.l y.l) lt_swo 141 #[] g 0 cap ds.toArray w enters_cmp hcmp.lays hH hgl (by simp; omega)
 have hsz : ds.toArray.size = L.length := by simpa using hdl
 rw [hsz] at hs
 refine hs.mono ?_
 rintro e w' ⟨rfl, d', q, os, hp, hso, rfl⟩
 have hp1 : d'.size = L.length := by rw [hp.1, hsz]
 have hgr := sort_grown (enc := RowV.v) (w := w) (g := g) (n := q) (os := os) d'
 have hperm : d'.toList.Perm ds := by
  have := hp.2.2
  rw [show ds.toArray.extract 0 L.length = ds.toArray from Array.extract_eq_self_of_le (by omega)] at this
  rw [show d'.extract 0 L.length = d' from Array.extract_eq_self_of_le (by omega)] at this
  simpa using this
 refine ⟨rfl, d'.toList.map RowV.l, ⟨d'.toList.map RowV.v, ?_, by simp, fun i h1 h2 => ?_⟩, by simpa using hp1, fun x => ?_, ?_, hgr⟩
 ·have := sort_own (q := q) (os := os) (bs := d'.toList) ho (by simpa using hp1)
  have hl3 : (d'.toList.map RowV.l).length = L.length := by simpa using hp1
  rw [hl3]
  exact this
 ·rw [List.getElem_map, List.getElem_map]
  have hx := (d'.toList[i]'(by simpa using h1)).ok
  exact hx.touch (Touch.grown hgr) (fun k hk e => type_ne ho hx tyneLI e.symm hk)
 ·rw [← e2]
  exact (hperm.map RowV.l).mem_iff
 ·intro i j h1 h2 hij
  have h1' : i < d'.size := by simpa using h1
  have h2' : j < d'.size := by simpa using h2
  have := hso i j (Nat.zero_le _) hij (by omega)
  rw [toList_getD d' j h2', toList_getD d' i h1'] at this
  rw [List.getElem_map, List.getElem_map]
  have key : ltOf (fun x y : RowV w B => cmpL x.l y.l) (d'.toList[j]'(by simpa using h2)) (d'.toList[i]'(by simpa using h1)) = lessL _ _ := cmpL_neg _ _
  rw [key] at this
  exact this
theorem enters_eq : Enters 183 := fun _ _ => by kernel_rfl
theorem underLI : Tryz.prog.underlying 85 = some (.slice 32) := by kernel_rfl
theorem zeroLI (w : World) : (zeroValue 32).run Tryz.prog w = .ok (.slice none 0 0) w := by
 obtain ⟨i0, hi, hz0, hz1, hz2⟩ := info_parts infoLI
 simp [zeroValue, typeInfo, hi, hz0]
theorem OwnLI.cellA {w : World} {B g n cap : Nat} {d : Array (List Nat)} (h : OwnLI w B (.slice (some ⟨g, 0, none⟩) n cap) d.toList) (i : Nat) (hi : i < d.size) : ∃ u, w.cell? ⟨g, i, none⟩ = some u ∧ OwnI w B u (zs d[i]!) ∧ w.frozen? ⟨g, i, none⟩ = false := by
 have := h.cellsL i (by simpa using hi)
 rw [toList_getD d i hi]
 exact this
theorem OwnLI.storeA {w : World} {B g n cap : Nat} {d : Array (List Nat)} (h : OwnLI w B (.slice (some ⟨g, 0, none⟩) n cap) d.toList) (i : Nat) {u : Value} {y : List Nat} (hu : OwnI w B u (zs y)) :
  OwnLI (w.setCell ⟨g, i, none⟩ u) B (.slice (some ⟨g, 0, none⟩) n cap) (d.setIfInBounds i y).toList ∧ w.grownBy (w.setCell ⟨g, i, none⟩ u) (some g) := by
 have := h.store i hu
 exact ⟨by rw [Array.toList_setIfInBounds]; exact this.1, this.2.1⟩
set_option maxRecDepth 20000 in
set_option maxHeartbeats 4000000 in
theorem compactFuncLI_any (B g cap : Nat) (w : World) (L : List (List Nat)) (hv : OwnLI w B (.slice (some ⟨g, 0, none⟩) L.length cap) L) (hB : B ≤ g) (hl : ∀ x ∈ L, x.length ≤ 100) (hL : L.length ≤ 1000000) (hs : SortedL L) :
  Calls Tryz.prog 259 #[.slice (some ⟨g, 0, none⟩) L.length cap, .func (.func 183) #[] #[]] w fun e w' =>
   ∃ k, e = .returned (.slice (some ⟨g, 0, none⟩) k cap) ∧ OwnLI w' B (.slice (some ⟨g, 0, none⟩) k cap) (sortU L) ∧ w.grownBy w' (some g) := by
 obtain ⟨_, _, e, hcap, hmx⟩ := hv.shape
 cases e
 unfold maxLen at hmx
 have hcf : ∀ args w, (callFunc 183 args).run Tryz.prog w = .ok (.enter 183 args) w := enters_eq
 have HEND : Hid (cutK id L.toArray L.length = sortU L) := hid (by
  refine sortU_of ?_ fun u => ?_
  ·have := cutK_asc (κ := id) (d := L.toArray) (fun i j h1 h2 => by
    have h3 : j < L.length := by simpa using h2
    have := hs i j (by omega) h3 h1
    simpa [getElem!_pos, h3, show i < L.length by omega] using this)
   simpa using this
  ·have := cutK_mem (κ := id) (d := L.toArray) (u := u)
   simp only [List.map_id, List.size_toArray] at this
   rw [this]
   constructor
   ·rintro ⟨j, hj, rfl⟩
    simp [hj]
   ·intro hu
    obtain ⟨j, hj, rfl⟩ := List.getElem_of_mem hu
    exact ⟨j, hj, by simp [hj]⟩)
 clear hs
 have HALL : Hid ((∀ j, j < L.length → keepsK id L.toArray j = true) → cutK id L.toArray L.length = L.toArray.toList) := hid fun h => by
  rw [cutK_all id _ _ h]
  apply List.ext_getElem
  ·simp
  ·intro i h1 h2
   have h3 : i < L.length := by simpa using h2
   simp [h3]
 have HV : Hid (OwnLI w B (.slice (some ⟨g, 0, none⟩) L.length cap) L.toArray.toList) := hid hv
 clear hv
 have HLEN : Hid (∀ i, i < L.length → L.toArray[i]!.length ≤ 100) := hid fun i h => by simpa [h] using hl _ (List.getElem_mem h)
 clear hl
 have HSZ : Hid (L.toArray.size = L.length) := hid (by simp)
 generalize sortU L = S at *
 generalize L.toArray = d at *
 generalize L.length = n at *
 have HEQ := hid (fun (wz : World) (va vb : Value) (x y : List Nat) (hx : OwnI wz B va (zs x)) (hy : OwnI wz B vb (zs y)) (h1 : x.length ≤ 100) (h2 : y.length ≤ 100) => equalQ_any (zs x) (zs y) va vb wz (hx.ints (by rw [zs_length]; omega)) (hy.ints (by rw [zs_length]; omega)))
 by_cases h2 : n < 2
 ·have h2' : (n : Int) < 2 := by omega
  have HD : Hid (S = d.toList) := hid (by rw [← HEND.out, HALL.out (fun j hj => keepsK_one id _ j (by omega))])
  go_enter Tryz.func259, Tryz.ntmps259
  go_wp2_with fail
  go_ret
  exact ⟨_, rfl, by rw [HD.out]; exact HV.out, grown_refl _ _⟩
 ·have h2' : ¬ (n : Int) < 2 := by omega
  go_enter Tryz.func259, Tryz.ntmps259
  go_wp2_with fail
  go_loopw [5] (fun s5 wr => ∃ k : Nat, 1 ≤ k ∧ k ≤ n ∧ s5 = .int .i64 k ∧ OwnLI wr B (.slice (some ⟨g, 0, none⟩) n cap) d.toList ∧ w.grownBy wr (some g) ∧ Hid (∀ j, j < k → keepsK id d j = true)) (fun s5 _ => n - (intOf s5).toNat)
  case atStart => exact ⟨1, by omega, by omega, rfl, HV.out, grown_refl _ _, hid (keepsK_one id d)⟩
  case round =>
   obtain ⟨k, hk1, hk, rfl, hown, hgr, HA⟩ := hrel
   clear HV
   by_cases hlt : k < n
   ·have hlt' : (k : Int) < n := by omega
    have hk0 : (0 : Int) ≤ (k : Int) - 1 := by omega
    have hkn : (k : Int) - 1 < n := by omega
    have hkt : ((k : Int) - 1).toNat = k - 1 := by omega
    obtain ⟨u1, c1, o1, f1⟩ := hown.cellA k (by rw [HSZ.out]; exact hlt)
    obtain ⟨u0, c0, o0, f0⟩ := hown.cellA (k - 1) (by rw [HSZ.out]; omega)
    have kd := fun q => (Keeps.refl wr).drewN q
    have hq := HEQ.out wr u1 u0 d[k]! d[k - 1]! o1 o0 (HLEN.out _ hlt) (HLEN.out _ (by omega))
    have HQ := hid (fun q => HEQ.out (wr.drewN q) u1 u0 d[k]! d[k - 1]! (o1.keeps (kd q)) (o0.keeps (kd q)) (HLEN.out _ hlt) (HLEN.out _ (by omega)))
    obtain ⟨p1, q1, e1, -, -, -⟩ := At.of_own o1
    obtain ⟨p0, q0, e0, -, -, -⟩ := At.of_own o0
    have HOWN := hid hown; clear hown
    have HGR := hid hgr; clear hgr
    clear hq o1 o0 f0 f1
    by_cases hdup : d[k]! = d[k - 1]!
    ·have hb : decide (zs d[k]! = zs d[k - 1]!) = true := by simp [hdup]
     rw [hb] at HQ
     have HNG := hid (keepsK_neg (κ := id) (d := d) (by omega : 0 < k) hdup)
     clear hdup hb
     generalize zs d[k]! = za at *
     generalize zs d[k - 1]! = zb at *
     subst e1 e0
     go_wp2_with fail
     go_quiet (first | (go_at_call 183; refine (HQ.out _).mono ?_; rintro e w' ⟨rfl, q, rfl⟩; exact ⟨rfl, _, drewN2 _ _ _⟩))
     go_wp2_with fail
     have HST := hid (HOWN.out.keeps (kd nq))
     have HG2 := hid (grown_trans HGR.out (⟨rfl, rfl, rfl, Nat.le_refl _, fun _ _ _ => rfl⟩ : wr.grownBy (wr.drewN nq) (some g)))
     have HK0 : Hid (KInv id d (k + 1) k d) := hid (KInv.start HA.out HNG.out)
     generalize wr.drewN nq = w1 at *
     clear c1 c0 HOWN HGR HA kd HQ HNG
     go_loopw [5, 7] (fun s5 s7 wr => ∃ kk k2 : Nat, ∃ dk : Array (List Nat), s5 = .int .i64 kk ∧ s7 = .int .i64 k2 ∧ 1 ≤ k2 ∧ k + k2 ≤ n ∧ OwnLI wr B (.slice (some ⟨g, 0, none⟩) n cap) dk.toList ∧ w.grownBy wr (some g) ∧ Hid (KInv id d (k + k2) kk dk)) (fun _ s7 _ => n - (intOf s7).toNat)
     case atStart => exact ⟨k, 1, d, rfl, rfl, by omega, by omega, HST.out, HG2.out, HK0⟩
     case round =>
      obtain ⟨kk, k2, dk, rfl, rfl, h21, h22, hown, hgr, HK⟩ := hrel
      clear HST HG2 HK0
      have hkk := HK.out.lt
      have hds : dk.size = n := by rw [HK.out.size, HSZ.out]
      have HDS := hid hds; clear hds
      by_cases hlt2 : k + k2 < n
      ·have hl2 : (k2 : Int) < ((n - k : Nat) : Int) := by omega
       have hl20 : (0 : Int) ≤ (k2 : Int) - 1 := by omega
       have hl2n : (k2 : Int) - 1 < ((n - k : Nat) : Int) := by omega
       have hkt2 : ((k2 : Int) - 1).toNat = k2 - 1 := by omega
       have hkkn : (kk : Int) < n := by omega
       obtain ⟨u1, c1, o1, f1⟩ := hown.cellA (k + k2) (by rw [HDS.out]; exact hlt2)
       obtain ⟨u0, c0, o0, f0⟩ := hown.cellA (k + (k2 - 1)) (by rw [HDS.out]; omega)
       obtain ⟨uk, ck, _, fk⟩ := hown.cellA kk (by rw [HDS.out]; omega)
       rw [HK.out.high (k + k2) (by omega)] at o1
       rw [HK.out.high (k + (k2 - 1)) (by omega)] at o0
       have kd := fun q => (Keeps.refl wr).drewN q
       have HQ := hid (fun q => HEQ.out (wr.drewN q) u1 u0 d[k + k2]! d[k + (k2 - 1)]! (o1.keeps (kd q)) (o0.keeps (kd q)) (HLEN.out _ hlt2) (HLEN.out _ (by omega)))
       have hsame : k + k2 - 1 = k + (k2 - 1) := by omega
       obtain ⟨p1, q1, e1, -, -, -⟩ := At.of_own o1
       obtain ⟨p0, q0, e0, -, -, -⟩ := At.of_own o0
       have HOWN := hid hown; clear hown
       have HGR := hid hgr; clear hgr
       have HST := hid (fun q => (HOWN.out.keeps (kd q)).storeA kk (o1.keeps (kd q)))
       clear o1 o0 f0 f1
       by_cases hdup : d[k + k2]! = d[k + (k2 - 1)]!
       ·have hb : decide (zs d[k + k2]! = zs d[k + (k2 - 1)]!) = true := by simp [hdup]
        rw [hb] at HQ
        have HNG := hid (keepsK_neg (κ := id) (d := d) (m := k + k2) (by omega) (by rw [hsame]; exact hdup))
        clear hdup hb HST hsame
        generalize zs d[k + k2]! = za at *
        generalize zs d[k + (k2 - 1)]! = zb at *
        subst e1 e0
        go_wp2_with fail
        go_quiet (first | (go_at_call 183; refine (HQ.out _).mono ?_; rintro e w' ⟨rfl, q, rfl⟩; exact ⟨rfl, _, drewN2 _ _ _⟩))
        go_wp2_with fail
        go_roundw
        case rel => exact ⟨kk, k2 + 1, dk, rfl, by go_num, by omega, by omega, HOWN.out.keeps (kd _), grown_trans HGR.out ⟨rfl, rfl, rfl, Nat.le_refl _, fun _ _ _ => rfl⟩, hid (HK.out.skip HNG.out)⟩
        case measure => simp [intOf]; omega
       ·have hb : decide (zs d[k + k2]! = zs d[k + (k2 - 1)]!) = false := by
         rw [decide_eq_false_iff_not]
         intro h; exact hdup (zs_inj h)
        rw [hb] at HQ
        have HPS := hid (keepsK_pos (κ := id) (d := d) (m := k + k2) (by rw [hsame]; exact hdup))
        have HKE := hid (HK.out.keep (by rw [HSZ.out]; exact hlt2) HPS.out)
        clear hdup hb hsame
        generalize d[k + k2]! = da at *
        generalize zs d[k + (k2 - 1)]! = zb at *
        generalize hza : zs da = za at *
        have HZA := hid hza; clear hza
        subst e1 e0
        go_wp2_with fail
        go_quiet (first | (go_at_call 183; refine (HQ.out _).mono ?_; rintro e w' ⟨rfl, q, rfl⟩; exact ⟨rfl, _, drewN2 _ _ _⟩))
        go_wp2_with fail
        go_roundw
        case rel => exact ⟨kk + 1, k2 + 1, dk.setIfInBounds kk da, by go_num, by go_num, by omega, by omega, (HST.out _).1, grown_trans HGR.out (grown_trans (grown_drewN wr _ _) (HST.out _).2), HKE⟩
        case measure => simp [intOf]; omega
      ·have hend : k + k2 = n := by omega
       have hl2 : ¬ (k2 : Int) < ((n - k : Nat) : Int) := by omega
       have hkkn : kk < n := by omega
       have hcl : ∀ ty, (Builtin.clear_ #[85] ty #[.slice (some ⟨g, kk, none⟩) (n - kk) (cap - kk)]).run Tryz.prog wr = .ok (.tuple #[]) (wr.setCells g kk (List.replicate (n - kk) (.slice none 0 0))) := fun ty =>
        Lib.run_clear_slice wr _ _ ty _ underLI zeroLI rfl rfl g kk _ _ (by omega) (fun j hj => by
         obtain ⟨u, c, _, _⟩ := hown.cellA (kk + j) (by rw [HDS.out]; omega)
         rw [c]; rfl) (fun j hj => by
         obtain ⟨u, _, _, f⟩ := hown.cellA (kk + j) (by rw [HDS.out]; omega)
         exact f)
       have HFIN : Hid (dk.toList.take kk = S) := hid (by
        rw [← HEND.out]
        have hk2 := HK.out
        rw [hend] at hk2
        apply List.ext_getElem?
        intro j
        by_cases hj : j < kk
        ·rw [hk2.low j hj, List.getElem?_take_of_lt hj]
         have hjd : j < dk.size := by rw [HDS.out]; omega
         rw [toList_getD dk j hjd, List.getElem?_eq_getElem (by simpa using hjd)]
        ·rw [List.getElem?_eq_none (by simp; omega), List.getElem?_eq_none (by rw [hk2.len]; omega)])
       have HCL := hid ((hown.cut kk (by omega)).cleared (n - kk) kk wr kk _ hB (by rw [List.length_take]; exact Nat.min_le_left _ _))
       have HGR := hid hgr; clear hgr hown
       clear hend
       go_wp2_with fail
       go_ret
       exact ⟨kk, rfl, by rw [← HFIN.out]; exact HCL.out.1, grown_trans HGR.out HCL.out.2⟩
    ·have hb : decide (zs d[k]! = zs d[k - 1]!) = false := by
      rw [decide_eq_false_iff_not]
      intro h; exact hdup (zs_inj h)
     rw [hb] at HQ
     have HPS := hid (keepsK_pos (κ := id) (d := d) (m := k) hdup)
     clear hdup hb
     generalize zs d[k]! = za at *
     generalize zs d[k - 1]! = zb at *
     subst e1 e0
     go_wp2_with fail
     go_quiet (first | (go_at_call 183; refine (HQ.out _).mono ?_; rintro e w' ⟨rfl, q, rfl⟩; exact ⟨rfl, _, drewN2 _ _ _⟩))
     go_wp2_with fail
     go_roundw
     case rel => exact ⟨k + 1, by omega, by omega, by go_num, HOWN.out.keeps (kd _), grown_trans HGR.out ⟨rfl, rfl, rfl, Nat.le_refl _, fun _ _ _ => rfl⟩, hid (fun j hj => by
      by_cases e : j = k
      ·subst e; exact HPS.out
      ·exact HA.out j (by omega))⟩
     case measure => simp [intOf]; omega
   ·have e : n = k := by omega
    subst e
    have hlt' : ¬ (n : Int) < n := by omega
    have HD : Hid (S = d.toList) := hid (by rw [← HEND.out, HALL.out HA.out])
    go_wp2_with fail
    go_ret
    exact ⟨_, rfl, by rw [HD.out]; exact hown, hgr⟩
set_option maxRecDepth 20000 in
theorem sortedLists_any (w0 w : World) (v : Value) (L : List (List Nat)) (kp : Keeps w0 w) (hv : OwnLI w w0.heap.size v L) (hl : ∀ x ∈ L, x.length ≤ 100) (hL : L.length ≤ 1000000) (hne : L ≠ []) :
  Calls Tryz.prog 229 #[v] w fun e w' => ∃ v', e = .returned v' ∧ OwnLI w' w0.heap.size v' (sortU L) ∧ Keeps w0 w' := by
 have HS := hid (sortFuncLI_any w0.heap.size v w L hv hl hL hne)
 have hgB : ∀ k, v.ownBlock = some k → w0.heap.size ≤ k := fun k hk => by
  obtain ⟨vs, ho, _⟩ := hv
  exact (World.ownsRow.lt ho k hk).1
 have hn : v ≠ .slice none 0 0 := fun e => by
  subst e
  obtain ⟨p, c, e, _⟩ := hv.shape
  injection e with _ e2 _
  exact hne (List.eq_nil_of_length_eq_zero e2.symm)
 obtain ⟨g, cap, rfl⟩ : ∃ g cap, v = .slice (some ⟨g, 0, none⟩) L.length cap := by
  obtain ⟨vs, ho, _⟩ := hv
  rcases ho.2 with ⟨e, _⟩ | ⟨g, cap, cur, e, _⟩
  ·exact absurd e hn
  ·exact ⟨g, cap, e⟩
 have hg := hgB g rfl
 have HC := hid (fun (w2 : World) (L2 : List (List Nat)) (h : OwnLI w2 w0.heap.size (.slice (some ⟨g, 0, none⟩) L2.length cap) L2) (h1 : ∀ x ∈ L2, x.length ≤ 100) (h2 : L2.length ≤ 1000000) (h3 : SortedL L2) => compactFuncLI_any w0.heap.size g cap w2 L2 h hg h1 h2 h3)
 have HMEM := hid (fun (L2 : List (List Nat)) (h : ∀ x, x ∈ L2 ↔ x ∈ L) => sortU_of (sortU_asc L2) (fun u => (sortU_mem (l := L2)).trans (h u)))
 clear hv hn hgB
 go_enter Tryz.func229, Tryz.ntmps229
 go_wp2_with fail
 refine HS.out.mono ?_; rintro e w2 ⟨rfl, L2, ho2, hlen, hmem, hso, hgr⟩
 have HGR := hid hgr; clear hgr
 have HC2 := hid (HC.out w2 L2 (by rw [hlen]; exact ho2) (fun x hx => hl x ((hmem x).1 hx)) (by omega) hso)
 rw [hlen] at HC2
 have HE := hid (HMEM.out L2 hmem)
 clear hlen hmem hso ho2 hl
 go_wp2_with fail
 refine HC2.out.mono ?_; rintro e w3 ⟨k, rfl, ho3, hg3⟩
 go_wp2_with fail
 go_ret
 exact ⟨_, rfl, by rw [← HE.out]; exact ho3, (kp.grown HGR.out (fun j e => by cases e; exact hg)).grown hg3 (fun j e => by cases e; exact hg)⟩
end Go.Proofs.YtikooimokfbffaaGreatDoor
