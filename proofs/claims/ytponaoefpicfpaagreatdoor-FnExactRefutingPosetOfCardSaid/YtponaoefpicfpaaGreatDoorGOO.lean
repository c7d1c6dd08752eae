/- The library's SortFunc and CompactFunc at lists of numbers; the program's sorted lists. -/
import Derived.Test.YtponaoefpicfpaaGreatDoorGOI
import Derived.Test.YtponaoefpicfpaaGreatDoorGOL
import Derived.Test.YtponaoefpicfpaaGreatDoorGVS
import Derived.Lib.OwnBridge
import Derived.Sort.OwnSorted
import Derived.Lib.SliceRun
namespace Go.Proofs.YtponaoefpicfpaaGreatDoor
open Go.RowKit Go.Sort
theorem grown_drewN (w : World) (q : Nat) (r : Option Nat) : w.grownBy (w.drewN q) r := ⟨rfl, rfl, rfl, Nat.le_refl _, fun _ _ _ => rfl⟩
theorem drewN2 (w : World) (a b : Nat) : (w.drewN a).drewN b = w.drewN (a + b) := by simp [World.drewN, Nat.add_assoc]
--
set_option maxRecDepth 20000 in
set_option maxHeartbeats 1000000 in
theorem equalQ_any (a b : List Int) (va vb : Value) (w : World) (hva : Ints w va a) (hvb : Ints w vb b) :
    Calls Tryz.prog 203 #[va, vb] w fun e w' => e = .returned (.bool (decide (a = b))) ∧ ∃ q, w' = w.drewN q := by
  have hva0 := hva
  have hvb0 := hvb
  obtain ⟨pa, ca, rfl, hlea, hmxa, _, hlena⟩ := hva
  obtain ⟨pb, cb, rfl, hleb, hmxb, _, hlenb⟩ := hvb
  unfold maxLen at hmxa hmxb
  by_cases hl : a.length = b.length
  · have hl' : ((a.length : Int) != (b.length : Int)) = false := by simp [hl]
    have HL := hid hl; clear hl
    go_enter Tryz.func203, Tryz.ntmps203
    go_wp2
    go_loopw [4, 13] (fun r i' wr => ∃ k : Nat, k ≤ a.length ∧ a.take k = b.take k ∧ (∃ q, wr = w.drewN q) ∧ i' = .int .i64 k ∧ r = .bool false) (fun _ i _ => a.length - (intOf i).toNat)
    case atStart => exact ⟨0, by omega, rfl, ⟨0, rfl⟩, rfl, rfl⟩
    case round =>
      obtain ⟨k, hk, htk, ⟨q, rfl⟩, rfl, rfl⟩ := hrel
      have HT := hid htk; clear htk
      clear hl'
      by_cases hlt : k < a.length
      · have hltb : k < b.length := by have := HL.out; omega
        obtain ⟨_, _, e1, _, _, hata, _⟩ := id hva0
        obtain ⟨_, _, e2, _, _, hatb, _⟩ := id hvb0
        cases e1; cases e2
        obtain ⟨b1, o1, rfl, h1⟩ := hata.int k hlt
        obtain ⟨b2, o2, rfl, h3⟩ := hatb.int k hltb
        clear hata hatb hva0 hvb0
        have hlt' : (k : Int) < a.length := by omega
        have hltb' : (k : Int) < b.length := by omega
        by_cases he : a[k] = b[k]
        · have hd : (a[k] != b[k]) = false := by simp [he]
          have HE := hid he; clear he
          go_wp2_with fail
          go_quiet (fail)
          go_wp2
          go_roundw
          case rel => exact ⟨k + 1, by omega, by rw [List.take_succ_eq_append_getElem hlt, List.take_succ_eq_append_getElem hltb, HT.out, HE.out], ⟨_, rfl⟩, by go_num, rfl⟩
          case measure => simp [intOf]; omega
        · have hd : (a[k] != b[k]) = true := by simp [he]
          have HE := hid he; clear he
          go_wp2_with fail
          go_quiet (fail)
          go_wp2
          go_ret
          refine ⟨ret_bool ?_, ⟨_, drewN2 _ _ _⟩⟩
          symm; rw [decide_eq_false_iff_not]
          rintro rfl; exact HE.out rfl
      · have hlt' : ¬ (k : Int) < a.length := by omega
        go_wp2
        go_ret
        refine ⟨ret_bool ?_, ⟨_, rfl⟩⟩
        symm; rw [decide_eq_true_eq]
        have h1 := HL.out; have h2 := HT.out
        rw [List.take_of_length_le (by omega), List.take_of_length_le (by omega)] at h2
        exact h2
  · have hl' : ((a.length : Int) != (b.length : Int)) = true := by simp; omega
    have HL := hid hl; clear hl
    go_enter Tryz.func203, Tryz.ntmps203
    go_wp2
    go_ret
    refine ⟨ret_bool ?_, ⟨0, rfl⟩⟩
    symm; rw [decide_eq_false_iff_not]
    rintro rfl; exact HL.out rfl
--
theorem OwnLI.store {w : World} {B g n cap : Nat} {xs : List (List Nat)} (h : OwnLI w B (.slice (some ⟨g, 0, none⟩) n cap) xs) (i : Nat) {u : Value} {y : List Nat} (hu : OwnI w B u (zs y)) :
    OwnLI (w.setCell ⟨g, i, none⟩ u) B (.slice (some ⟨g, 0, none⟩) n cap) (xs.set i y) ∧ w.grownBy (w.setCell ⟨g, i, none⟩ u) (some g) ∧ w.frozen? ⟨g, i, none⟩ = false := by
  obtain ⟨vs, ho, hr⟩ := h
  have hn : n = xs.length := by
    obtain ⟨p, c, e, _⟩ := At.of_own ho
    cases e; rfl
  subst hn
  have hst := ho.stored i u
  have hoff := fun k (e : some k = some g) => RowsI.off hr ho tyneLI (k := k) (by simpa [Value.ownBlock] using e.symm)
  refine ⟨⟨vs.set i u, by rw [List.length_set]; exact hst.1, by simp [hr.1], fun j h1 h2 => ?_⟩, hst.2, ho.frozenAt i⟩
  have hr2 := hr.touch (Touch.grown hst.2) (fun k hb e => hoff k e hb)
  have hu2 := hu.touch (Touch.grown hst.2) (fun k hk e => type_ne ho hu tyneLI e.symm hk)
  by_cases e : i = j
  · subst e; simpa using hu2
  · rw [List.getElem_set_ne e, List.getElem_set_ne e]
    exact hr2.2 j (by simpa using h1) (by simpa using h2)
theorem OwnLI.cellsL {w : World} {B g n cap : Nat} {xs : List (List Nat)} (h : OwnLI w B (.slice (some ⟨g, 0, none⟩) n cap) xs) (i : Nat) (hi : i < xs.length) : ∃ u, w.cell? ⟨g, i, none⟩ = some u ∧ OwnI w B u (zs xs[i]) ∧ w.frozen? ⟨g, i, none⟩ = false := by
  obtain ⟨b, off, u, hp, hc, hu⟩ := h.get i hi
  cases hp
  obtain ⟨vs, ho, hr⟩ := h
  have hn : n = xs.length := by
    obtain ⟨p, c, e, _⟩ := At.of_own ho
    cases e; rfl
  subst hn
  exact ⟨u, by simpa using hc, hu, ho.frozenAt i⟩
theorem OwnLI.cut {w : World} {B g n cap : Nat} {xs : List (List Nat)} (h : OwnLI w B (.slice (some ⟨g, 0, none⟩) n cap) xs) (k : Nat) (hk : k ≤ n) : OwnLI w B (.slice (some ⟨g, 0, none⟩) k cap) (xs.take k) := by
  obtain ⟨vs, ho, hr⟩ := h
  have hn : n = xs.length := by
    obtain ⟨p, c, e, _⟩ := At.of_own ho
    cases e; rfl
  subst hn
  refine ⟨vs.take k, ?_, by simp [hr.1], fun j h1 h2 => ?_⟩
  · rcases ho with ⟨hl, ⟨e, _⟩ | ⟨g', cap', cur, e, hb, hg, hn, hm, hs, ht⟩⟩
    · cases e
    · cases e
      have hlt : (xs.take k).length = k := by rw [List.length_take, Nat.min_eq_left hk]
      rw [hlt]
      refine ⟨by rw [List.length_take]; omega, .inr ⟨g, cap, cur, rfl, hb, hg, Nat.le_trans hk hn, hm, hs, ?_⟩⟩
      rw [← ht, List.take_take, Nat.mul_one, Nat.mul_one, Nat.min_eq_left hk]
  · rw [List.getElem_take, List.getElem_take]
    exact hr.2 j (by simp at h1; omega) (by simp at h2; omega)
/-- zeros are laid from a place on -/
theorem OwnLI.cleared {B g cap : Nat} : ∀ (m k : Nat) (w : World) (n : Nat) (xs : List (List Nat)), OwnLI w B (.slice (some ⟨g, 0, none⟩) n cap) xs → B ≤ g → xs.length ≤ k →
    OwnLI (w.setCells g k (List.replicate m (.slice none 0 0))) B (.slice (some ⟨g, 0, none⟩) n cap) xs ∧ w.grownBy (w.setCells g k (List.replicate m (.slice none 0 0))) (some g)
  | 0, _, w, _, _, h, _, _ => ⟨h, grown_refl _ _⟩
  | m + 1, k, w, n, xs, h, hB, hk => by
    obtain ⟨h1, h2, _⟩ := h.store (y := []) k (OwnI.nil w B)
    rw [List.set_eq_of_length_le hk] at h1
    obtain ⟨h3, h4⟩ := OwnLI.cleared m (k + 1) _ n xs h1 hB (by omega)
    exact ⟨h3, grown_trans h2 h4⟩
--
/-- a row of numbers with its list -/
structure RowV (w : World) (B : Nat) where
  v : Value
  l : List Nat
  ok : OwnI w B v (zs l)
  hl : l.length ≤ 100
instance (w : World) (B : Nat) : Inhabited (RowV w B) := ⟨⟨.slice none 0 0, [], OwnI.nil w B, by simp⟩⟩
theorem rows_vals {w : World} {B : Nat} : ∀ (xs : List (List Nat)) (vs : List Value), RowsI w B vs xs → (∀ x ∈ xs, x.length ≤ 100) → ∃ ds : List (RowV w B), ds.map RowV.v = vs ∧ ds.map RowV.l = xs
  | [], vs, h, _ => by
    have : vs = [] := List.eq_nil_of_length_eq_zero h.1
    subst this
    exact ⟨[], rfl, rfl⟩
  | x :: xs, [], h, _ => by have := h.1; simp at this
  | x :: xs, v :: vs, h, hl => by
    have h0 := h.2 0 (by simp) (by simp)
    obtain ⟨ds, e1, e2⟩ := rows_vals xs vs ⟨by simpa using h.1, fun i h1 h2 => h.2 (i + 1) (by simpa using h1) (by simpa using h2)⟩ (fun y hy => hl y (by simp [hy]))
    exact ⟨⟨v, x, h0, hl x (by simp)⟩ :: ds, by simp [e1], by simp [e2]⟩
theorem lt_swo {w : World} {B : Nat} : SWO (ltOf (fun x y : RowV w B => cmpL x.l y.l)) := by
  have key : ∀ x y : RowV w B, ltOf (fun x y : RowV w B => cmpL x.l y.l) x y = lessL x.l y.l := fun x y => cmpL_neg x.l y.l
  constructor
  · intro x; rw [key]; exact lessL_irr _
  · intro x y z h1 h2; rw [key] at *; exact lessL_trans h1 h2
  · intro x y z h1 h2
    rw [key] at *
    rcases lessL_tri x.l z.l with h | h | h
    · rcases lessL_tri x.l y.l with g | g | g
      · rw [h1] at g; cases g
      · rw [g] at h; rw [h2] at h; cases h
      · have := lessL_trans g h
        rw [h2] at this; cases this
    · rw [h]; exact lessL_irr _
    · cases e : lessL x.l z.l
      · rfl
      · have := lessL_trans e h
        rw [lessL_irr] at this; cases this
theorem sort_grown {α : Type} [Inhabited α] {enc : α → Value} {w : World} {g n : Nat} {os : Array Obj} (d : Array α) : w.grownBy (sortWorld enc w g 0 n d os) (some g) := by
  refine ⟨rfl, rfl, rfl, by simp [sortWorld], fun k hk hne => ?_⟩
  unfold sortWorld
  rw [heap_grow_old _ _ (by simpa using hk)]
  have : g ≠ k := fun e => hne (by rw [e])
  simp [putRow, mapBlock, Sort.ahead, Array.getElem?_modify, this]
theorem keeps_grow (w : World) (os : Array Obj) : Keeps w (grow w os) := ⟨rfl, rfl, rfl, by simp, fun k hk => by rw [heap_grow_old _ _ hk]⟩
theorem sort_own {α : Type} [Inhabited α] {enc : α → Value} {w : World} {base : Nat} {e : TypeId} {g n cap q : Nat} {os : Array Obj} {cs bs : List α} (h : w.ownsRow base e 1 (.slice (some ⟨g, 0, none⟩) n cap) n (cs.map enc)) (hy : bs.length = n) :
    (sortWorld enc w g 0 q bs.toArray os).ownsRow base e 1 (.slice (some ⟨g, 0, none⟩) n cap) n (bs.map enc) := by
  have := Lib.ownsRow_putRow (q := q) h hy (Nat.le_refl n)
  rw [List.take_of_length_le (by omega)] at this
  exact own_keeps this (keeps_grow _ os)
theorem enters_cmp : Enters 182 := fun _ _ => by kernel_rfl
def SortedL (L : List (List Nat)) : Prop := ∀ i j (h1 : i < L.length) (h2 : j < L.length), i < j → lessL L[j] L[i] = false
theorem sortFuncLI_any (B : Nat) (v : Value) (w : World) (L : List (List Nat)) (hv : OwnLI w B v L) (hl : ∀ x ∈ L, x.length ≤ 100) (hL : L.length ≤ 1000000) (hne : L ≠ []) :
    Calls Tryz.prog 265 #[v, .func (.func 182) #[] #[]] w fun e w' => e = .returned (.tuple #[]) ∧
      ∃ L2, OwnLI w' B v L2 ∧ L2.length = L.length ∧ (∀ x, x ∈ L2 ↔ x ∈ L) ∧ SortedL L2 ∧ w.grownBy w' v.ownBlock := by
  have hn : v ≠ .slice none 0 0 := fun e => by
    subst e
    obtain ⟨p, c, e, _⟩ := hv.shape
    injection e with _ e2 _
    exact hne (List.eq_nil_of_length_eq_zero e2.symm)
  obtain ⟨vs, ho, hr⟩ := hv
  obtain ⟨ds, e1, e2⟩ := rows_vals L vs hr hl
  subst e1
  have hdl : ds.length = L.length := by rw [← e2, List.length_map]
  obtain ⟨g, cap, rfl, hbg, hgl, hncap, hcm, hlen, hH⟩ := Lib.holds_of_ownsRow ho hn
  have hcmp : CmpReads Tryz.prog 182 #[] RowV.v (fun x y : RowV w B => cmpL x.l y.l) g 0 ds.toArray.size w := by
    intro m os dk _ x y
    have ht := Touch.grown (sort_grown (enc := RowV.v) (w := w) (g := g) (n := m) (os := os) dk)
    have hx := x.ok.touch ht (fun i hi e => type_ne ho x.ok tyneLI e.symm hi)
    have hy := y.ok.touch ht (fun i hi e => type_ne ho y.ok tyneLI e.symm hi)
    refine (compareI_any x.l y.l x.v y.v _ (hx.ints (by rw [zs_length]; have := x.hl; omega)) (hy.ints (by rw [zs_length]; have := y.hl; omega))).mono ?_
    rintro e w' ⟨rfl, rfl⟩
    exact ⟨rfl, 0, rfl⟩
  have hs := Tryz.slices_SortFunc (RowV.v (w := w) (B := B)) (fun x => x.ok.one) (fun x y => cmpL x.l y.l) lt_swo 182 #[] g 0 cap ds.toArray w enters_cmp hcmp.lays hH hgl (by simp; omega)
  have hsz : ds.toArray.size = L.length := by simpa using hdl
  rw [hsz] at hs
  refine hs.mono ?_
  rintro e w' ⟨rfl, d', q, os, hp, hso, rfl⟩
  have hp1 : d'.size = L.length := by rw [hp.1, hsz]
  have hgr := sort_grown (enc := RowV.v) (w := w) (g := g) (n := q) (os := os) d'
  have hperm : d'.toList.Perm ds := by
    have := hp.2.2
    rw [show ds.toArray.extract 0 L.length = ds.toArray from Array.extract_eq_self_of_le (by omega)] at this
    rw [show d'.extract 0 L.length = d' from Array.extract_eq_self_of_le (by omega)] at this
    simpa using this
  refine ⟨rfl, d'.toList.map RowV.l, ⟨d'.toList.map RowV.v, ?_, by simp, fun i h1 h2 => ?_⟩, by simpa using hp1, fun x => ?_, ?_, hgr⟩
  · have := sort_own (q := q) (os := os) (bs := d'.toList) ho (by simpa using hp1)
    have hl3 : (d'.toList.map RowV.l).length = L.length := by simpa using hp1
    rw [hl3]
    exact this
  · rw [List.getElem_map, List.getElem_map]
    have hx := (d'.toList[i]'(by simpa using h1)).ok
    exact hx.touch (Touch.grown hgr) (fun k hk e => type_ne ho hx tyneLI e.symm hk)
  · rw [← e2]
    exact (hperm.map RowV.l).mem_iff
  · intro i j h1 h2 hij
    have h1' : i < d'.size := by simpa using h1
    have h2' : j < d'.size := by simpa using h2
    have := hso i j (Nat.zero_le _) hij (by omega)
    rw [toList_getD d' j h2', toList_getD d' i h1'] at this
    rw [List.getElem_map, List.getElem_map]
    have key : ltOf (fun x y : RowV w B => cmpL x.l y.l) (d'.toList[j]'(by simpa using h2)) (d'.toList[i]'(by simpa using h1)) = lessL _ _ := cmpL_neg _ _
    rw [key] at this
    exact this
--
theorem enters_eq : Enters 203 := fun _ _ => by kernel_rfl
theorem underLI : Tryz.prog.underlying 106 = some (.slice 25) := by kernel_rfl
theorem zeroLI (w : World) : (zeroValue 25).run Tryz.prog w = .ok (.slice none 0 0) w := by
  obtain ⟨i0, hi, hz0, hz1, hz2⟩ := info_parts infoLI
  simp [zeroValue, typeInfo, hi, hz0]
theorem OwnLI.cellA {w : World} {B g n cap : Nat} {d : Array (List Nat)} (h : OwnLI w B (.slice (some ⟨g, 0, none⟩) n cap) d.toList) (i : Nat) (hi : i < d.size) : ∃ u, w.cell? ⟨g, i, none⟩ = some u ∧ OwnI w B u (zs d[i]!) ∧ w.frozen? ⟨g, i, none⟩ = false := by
  have := h.cellsL i (by simpa using hi)
  rw [toList_getD d i hi]
  exact this
theorem OwnLI.storeA {w : World} {B g n cap : Nat} {d : Array (List Nat)} (h : OwnLI w B (.slice (some ⟨g, 0, none⟩) n cap) d.toList) (i : Nat) {u : Value} {y : List Nat} (hu : OwnI w B u (zs y)) :
    OwnLI (w.setCell ⟨g, i, none⟩ u) B (.slice (some ⟨g, 0, none⟩) n cap) (d.setIfInBounds i y).toList ∧ w.grownBy (w.setCell ⟨g, i, none⟩ u) (some g) := by
  have := h.store i hu
  exact ⟨by rw [Array.toList_setIfInBounds]; exact this.1, this.2.1⟩
set_option maxRecDepth 20000 in
set_option maxHeartbeats 4000000 in
theorem compactFuncLI_any (B g cap : Nat) (w : World) (L : List (List Nat)) (hv : OwnLI w B (.slice (some ⟨g, 0, none⟩) L.length cap) L) (hB : B ≤ g) (hl : ∀ x ∈ L, x.length ≤ 100) (hL : L.length ≤ 1000000) (hs : SortedL L) :
    Calls Tryz.prog 266 #[.slice (some ⟨g, 0, none⟩) L.length cap, .func (.func 203) #[] #[]] w fun e w' =>
      ∃ k, e = .returned (.slice (some ⟨g, 0, none⟩) k cap) ∧ OwnLI w' B (.slice (some ⟨g, 0, none⟩) k cap) (sortU L) ∧ w.grownBy w' (some g) := by
  obtain ⟨_, _, e, hcap, hmx⟩ := hv.shape
  cases e
  unfold maxLen at hmx
  have hcf : ∀ args w, (callFunc 203 args).run Tryz.prog w = .ok (.enter 203 args) w := enters_eq
  have HEND : Hid (cutK id L.toArray L.length = sortU L) := hid (by
    refine sortU_of ?_ fun u => ?_
    · have := cutK_asc (κ := id) (d := L.toArray) (fun i j h1 h2 => by
        have h3 : j < L.length := by simpa using h2
        have := hs i j (by omega) h3 h1
        simpa [getElem!_pos, h3, show i < L.length by omega] using this)
      simpa using this
    · have := cutK_mem (κ := id) (d := L.toArray) (u := u)
      simp only [List.map_id, List.size_toArray] at this
      rw [this]
      constructor
      · rintro ⟨j, hj, rfl⟩
        simp [hj]
      · intro hu
        obtain ⟨j, hj, rfl⟩ := List.getElem_of_mem hu
        exact ⟨j, hj, by simp [hj]⟩)
  clear hs
  have HALL : Hid ((∀ j, j < L.length → keepsK id L.toArray j = true) → cutK id L.toArray L.length = L.toArray.toList) := hid fun h => by
    rw [cutK_all id _ _ h]
    apply List.ext_getElem
    · simp
    · intro i h1 h2
      have h3 : i < L.length := by simpa using h2
      simp [h3]
  have HV : Hid (OwnLI w B (.slice (some ⟨g, 0, none⟩) L.length cap) L.toArray.toList) := hid hv
  clear hv
  have HLEN : Hid (∀ i, i < L.length → L.toArray[i]!.length ≤ 100) := hid fun i h => by simpa [h] using hl _ (List.getElem_mem h)
  clear hl
  have HSZ : Hid (L.toArray.size = L.length) := hid (by simp)
  generalize sortU L = S at *
  generalize L.toArray = d at *
  generalize L.length = n at *
  have HEQ := hid (fun (wz : World) (va vb : Value) (x y : List Nat) (hx : OwnI wz B va (zs x)) (hy : OwnI wz B vb (zs y)) (h1 : x.length ≤ 100) (h2 : y.length ≤ 100) => equalQ_any (zs x) (zs y) va vb wz (hx.ints (by rw [zs_length]; omega)) (hy.ints (by rw [zs_length]; omega)))
  by_cases h2 : n < 2
  · have h2' : (n : Int) < 2 := by omega
    have HD : Hid (S = d.toList) := hid (by rw [← HEND.out, HALL.out (fun j hj => keepsK_one id _ j (by omega))])
    go_enter Tryz.func266, Tryz.ntmps266
    go_wp2_with fail
    go_ret
    exact ⟨_, rfl, by rw [HD.out]; exact HV.out, grown_refl _ _⟩
  · have h2' : ¬ (n : Int) < 2 := by omega
    go_enter Tryz.func266, Tryz.ntmps266
    go_wp2_with fail
    go_loopw [5] (fun s5 wr => ∃ k : Nat, 1 ≤ k ∧ k ≤ n ∧ s5 = .int .i64 k ∧ OwnLI wr B (.slice (some ⟨g, 0, none⟩) n cap) d.toList ∧ w.grownBy wr (some g) ∧ Hid (∀ j, j < k → keepsK id d j = true)) (fun s5 _ => n - (intOf s5).toNat)
    case atStart => exact ⟨1, by omega, by omega, rfl, HV.out, grown_refl _ _, hid (keepsK_one id d)⟩
    case round =>
      obtain ⟨k, hk1, hk, rfl, hown, hgr, HA⟩ := hrel
      clear HV
      by_cases hlt : k < n
      · have hlt' : (k : Int) < n := by omega
        have hk0 : (0 : Int) ≤ (k : Int) - 1 := by omega
        have hkn : (k : Int) - 1 < n := by omega
        have hkt : ((k : Int) - 1).toNat = k - 1 := by omega
        obtain ⟨u1, c1, o1, f1⟩ := hown.cellA k (by rw [HSZ.out]; exact hlt)
        obtain ⟨u0, c0, o0, f0⟩ := hown.cellA (k - 1) (by rw [HSZ.out]; omega)
        have kd := fun q => (Keeps.refl wr).drewN q
        have hq := HEQ.out wr u1 u0 d[k]! d[k - 1]! o1 o0 (HLEN.out _ hlt) (HLEN.out _ (by omega))
        have HQ := hid (fun q => HEQ.out (wr.drewN q) u1 u0 d[k]! d[k - 1]! (o1.keeps (kd q)) (o0.keeps (kd q)) (HLEN.out _ hlt) (HLEN.out _ (by omega)))
        obtain ⟨p1, q1, e1, -, -, -⟩ := At.of_own o1
        obtain ⟨p0, q0, e0, -, -, -⟩ := At.of_own o0
        have HOWN := hid hown; clear hown
        have HGR := hid hgr; clear hgr
        clear hq o1 o0 f0 f1
        by_cases hdup : d[k]! = d[k - 1]!
        · have hb : decide (zs d[k]! = zs d[k - 1]!) = true := by simp [hdup]
          rw [hb] at HQ
          have HNG := hid (keepsK_neg (κ := id) (d := d) (by omega : 0 < k) hdup)
          clear hdup hb
          generalize zs d[k]! = za at *
          generalize zs d[k - 1]! = zb at *
          subst e1 e0
          go_wp2_with fail
          go_quiet (first | (go_at_call 203; refine (HQ.out _).mono ?_; rintro e w' ⟨rfl, q, rfl⟩; exact ⟨rfl, _, drewN2 _ _ _⟩))
          go_wp2_with fail
          have HST := hid (HOWN.out.keeps (kd nq))
          have HG2 := hid (grown_trans HGR.out (⟨rfl, rfl, rfl, Nat.le_refl _, fun _ _ _ => rfl⟩ : wr.grownBy (wr.drewN nq) (some g)))
          have HK0 : Hid (KInv id d (k + 1) k d) := hid (KInv.start HA.out HNG.out)
          generalize wr.drewN nq = w1 at *
          clear c1 c0 HOWN HGR HA kd HQ HNG
          go_loopw [5, 7] (fun s5 s7 wr => ∃ kk k2 : Nat, ∃ dk : Array (List Nat), s5 = .int .i64 kk ∧ s7 = .int .i64 k2 ∧ 1 ≤ k2 ∧ k + k2 ≤ n ∧ OwnLI wr B (.slice (some ⟨g, 0, none⟩) n cap) dk.toList ∧ w.grownBy wr (some g) ∧ Hid (KInv id d (k + k2) kk dk)) (fun _ s7 _ => n - (intOf s7).toNat)
          case atStart => exact ⟨k, 1, d, rfl, rfl, by omega, by omega, HST.out, HG2.out, HK0⟩
          case round =>
            obtain ⟨kk, k2, dk, rfl, rfl, h21, h22, hown, hgr, HK⟩ := hrel
            clear HST HG2 HK0
            have hkk := HK.out.lt
            have hds : dk.size = n := by rw [HK.out.size, HSZ.out]
            have HDS := hid hds; clear hds
            by_cases hlt2 : k + k2 < n
            · have hl2 : (k2 : Int) < ((n - k : Nat) : Int) := by omega
              have hl20 : (0 : Int) ≤ (k2 : Int) - 1 := by omega
              have hl2n : (k2 : Int) - 1 < ((n - k : Nat) : Int) := by omega
              have hkt2 : ((k2 : Int) - 1).toNat = k2 - 1 := by omega
              have hkkn : (kk : Int) < n := by omega
              obtain ⟨u1, c1, o1, f1⟩ := hown.cellA (k + k2) (by rw [HDS.out]; exact hlt2)
              obtain ⟨u0, c0, o0, f0⟩ := hown.cellA (k + (k2 - 1)) (by rw [HDS.out]; omega)
              obtain ⟨uk, ck, _, fk⟩ := hown.cellA kk (by rw [HDS.out]; omega)
              rw [HK.out.high (k + k2) (by omega)] at o1
              rw [HK.out.high (k + (k2 - 1)) (by omega)] at o0
              have kd := fun q => (Keeps.refl wr).drewN q
              have HQ := hid (fun q => HEQ.out (wr.drewN q) u1 u0 d[k + k2]! d[k + (k2 - 1)]! (o1.keeps (kd q)) (o0.keeps (kd q)) (HLEN.out _ hlt2) (HLEN.out _ (by omega)))
              have hsame : k + k2 - 1 = k + (k2 - 1) := by omega
              obtain ⟨p1, q1, e1, -, -, -⟩ := At.of_own o1
              obtain ⟨p0, q0, e0, -, -, -⟩ := At.of_own o0
              have HOWN := hid hown; clear hown
              have HGR := hid hgr; clear hgr
              have HST := hid (fun q => (HOWN.out.keeps (kd q)).storeA kk (o1.keeps (kd q)))
              clear o1 o0 f0 f1
              by_cases hdup : d[k + k2]! = d[k + (k2 - 1)]!
              · have hb : decide (zs d[k + k2]! = zs d[k + (k2 - 1)]!) = true := by simp [hdup]
                rw [hb] at HQ
                have HNG := hid (keepsK_neg (κ := id) (d := d) (m := k + k2) (by omega) (by rw [hsame]; exact hdup))
                clear hdup hb HST hsame
                generalize zs d[k + k2]! = za at *
                generalize zs d[k + (k2 - 1)]! = zb at *
                subst e1 e0
                go_wp2_with fail
                go_quiet (first | (go_at_call 203; refine (HQ.out _).mono ?_; rintro e w' ⟨rfl, q, rfl⟩; exact ⟨rfl, _, drewN2 _ _ _⟩))
                go_wp2_with fail
                go_roundw
                case rel => exact ⟨kk, k2 + 1, dk, rfl, by go_num, by omega, by omega, HOWN.out.keeps (kd _), grown_trans HGR.out ⟨rfl, rfl, rfl, Nat.le_refl _, fun _ _ _ => rfl⟩, hid (HK.out.skip HNG.out)⟩
                case measure => simp [intOf]; omega
              · have hb : decide (zs d[k + k2]! = zs d[k + (k2 - 1)]!) = false := by
                  rw [decide_eq_false_iff_not]
                  intro h; exact hdup (zs_inj h)
                rw [hb] at HQ
                have HPS := hid (keepsK_pos (κ := id) (d := d) (m := k + k2) (by rw [hsame]; exact hdup))
                have HKE := hid (HK.out.keep (by rw [HSZ.out]; exact hlt2) HPS.out)
                clear hdup hb hsame
                generalize d[k + k2]! = da at *
                generalize zs d[k + (k2 - 1)]! = zb at *
                generalize hza : zs da = za at *
                have HZA := hid hza; clear hza
                subst e1 e0
                go_wp2_with fail
                go_quiet (first | (go_at_call 203; refine (HQ.out _).mono ?_; rintro e w' ⟨rfl, q, rfl⟩; exact ⟨rfl, _, drewN2 _ _ _⟩))
                go_wp2_with fail
                go_roundw
                case rel => exact ⟨kk + 1, k2 + 1, dk.setIfInBounds kk da, by go_num, by go_num, by omega, by omega, (HST.out _).1, grown_trans HGR.out (grown_trans (grown_drewN wr _ _) (HST.out _).2), HKE⟩
                case measure => simp [intOf]; omega
            · have hend : k + k2 = n := by omega
              have hl2 : ¬ (k2 : Int) < ((n - k : Nat) : Int) := by omega
              have hkkn : kk < n := by omega
              have hcl : ∀ ty, (Builtin.clear_ #[106] ty #[.slice (some ⟨g, kk, none⟩) (n - kk) (cap - kk)]).run Tryz.prog wr = .ok (.tuple #[]) (wr.setCells g kk (List.replicate (n - kk) (.slice none 0 0))) := fun ty =>
                Lib.run_clear_slice wr _ _ ty _ underLI zeroLI rfl rfl g kk _ _ (by omega) (fun j hj => by
                  obtain ⟨u, c, _, _⟩ := hown.cellA (kk + j) (by rw [HDS.out]; omega)
                  rw [c]; rfl) (fun j hj => by
                  obtain ⟨u, _, _, f⟩ := hown.cellA (kk + j) (by rw [HDS.out]; omega)
                  exact f)
              have HFIN : Hid (dk.toList.take kk = S) := hid (by
                rw [← HEND.out]
                have hk2 := HK.out
                rw [hend] at hk2
                apply List.ext_getElem?
                intro j
                by_cases hj : j < kk
                · rw [hk2.low j hj, List.getElem?_take_of_lt hj]
                  have hjd : j < dk.size := by rw [HDS.out]; omega
                  rw [toList_getD dk j hjd, List.getElem?_eq_getElem (by simpa using hjd)]
                · rw [List.getElem?_eq_none (by simp; omega), List.getElem?_eq_none (by rw [hk2.len]; omega)])
              have HCL := hid ((hown.cut kk (by omega)).cleared (n - kk) kk wr kk _ hB (by rw [List.length_take]; exact Nat.min_le_left _ _))
              have HGR := hid hgr; clear hgr hown
              clear hend
              go_wp2_with fail
              go_ret
              exact ⟨kk, rfl, by rw [← HFIN.out]; exact HCL.out.1, grown_trans HGR.out HCL.out.2⟩
        · have hb : decide (zs d[k]! = zs d[k - 1]!) = false := by
            rw [decide_eq_false_iff_not]
            intro h; exact hdup (zs_inj h)
          rw [hb] at HQ
          have HPS := hid (keepsK_pos (κ := id) (d := d) (m := k) hdup)
          clear hdup hb
          generalize zs d[k]! = za at *
          generalize zs d[k - 1]! = zb at *
          subst e1 e0
          go_wp2_with fail
          go_quiet (first | (go_at_call 203; refine (HQ.out _).mono ?_; rintro e w' ⟨rfl, q, rfl⟩; exact ⟨rfl, _, drewN2 _ _ _⟩))
          go_wp2_with fail
          go_roundw
          case rel => exact ⟨k + 1, by omega, by omega, by go_num, HOWN.out.keeps (kd _), grown_trans HGR.out ⟨rfl, rfl, rfl, Nat.le_refl _, fun _ _ _ => rfl⟩, hid (fun j hj => by
            by_cases e : j = k
            · subst e; exact HPS.out
            · exact HA.out j (by omega))⟩
          case measure => simp [intOf]; omega
      · have e : n = k := by omega
        subst e
        have hlt' : ¬ (n : Int) < n := by omega
        have HD : Hid (S = d.toList) := hid (by rw [← HEND.out, HALL.out HA.out])
        go_wp2_with fail
        go_ret
        exact ⟨_, rfl, by rw [HD.out]; exact hown, hgr⟩
--
set_option maxRecDepth 20000 in
theorem sortedLists_any (w0 w : World) (v : Value) (L : List (List Nat)) (kp : Keeps w0 w) (hv : OwnLI w w0.heap.size v L) (hl : ∀ x ∈ L, x.length ≤ 100) (hL : L.length ≤ 1000000) (hne : L ≠ []) :
    Calls Tryz.prog 188 #[v] w fun e w' => ∃ v', e = .returned v' ∧ OwnLI w' w0.heap.size v' (sortU L) ∧ Keeps w0 w' := by
  have HS := hid (sortFuncLI_any w0.heap.size v w L hv hl hL hne)
  have hgB : ∀ k, v.ownBlock = some k → w0.heap.size ≤ k := fun k hk => by
    obtain ⟨vs, ho, _⟩ := hv
    exact (World.ownsRow.lt ho k hk).1
  have hn : v ≠ .slice none 0 0 := fun e => by
    subst e
    obtain ⟨p, c, e, _⟩ := hv.shape
    injection e with _ e2 _
    exact hne (List.eq_nil_of_length_eq_zero e2.symm)
  obtain ⟨g, cap, rfl⟩ : ∃ g cap, v = .slice (some ⟨g, 0, none⟩) L.length cap := by
    obtain ⟨vs, ho, _⟩ := hv
    rcases ho.2 with ⟨e, _⟩ | ⟨g, cap, cur, e, _⟩
    · exact absurd e hn
    · exact ⟨g, cap, e⟩
  have hg := hgB g rfl
  have HC := hid (fun (w2 : World) (L2 : List (List Nat)) (h : OwnLI w2 w0.heap.size (.slice (some ⟨g, 0, none⟩) L2.length cap) L2) (h1 : ∀ x ∈ L2, x.length ≤ 100) (h2 : L2.length ≤ 1000000) (h3 : SortedL L2) => compactFuncLI_any w0.heap.size g cap w2 L2 h hg h1 h2 h3)
  have HMEM := hid (fun (L2 : List (List Nat)) (h : ∀ x, x ∈ L2 ↔ x ∈ L) => sortU_of (sortU_asc L2) (fun u => (sortU_mem (l := L2)).trans (h u)))
  clear hv hn hgB
  go_enter Tryz.func188, Tryz.ntmps188
  go_wp2_with fail
  refine HS.out.mono ?_; rintro e w2 ⟨rfl, L2, ho2, hlen, hmem, hso, hgr⟩
  have HGR := hid hgr; clear hgr
  have HC2 := hid (HC.out w2 L2 (by rw [hlen]; exact ho2) (fun x hx => hl x ((hmem x).1 hx)) (by omega) hso)
  rw [hlen] at HC2
  have HE := hid (HMEM.out L2 hmem)
  clear hlen hmem hso ho2 hl
  go_wp2_with fail
  refine HC2.out.mono ?_; rintro e w3 ⟨k, rfl, ho3, hg3⟩
  go_wp2_with fail
  go_ret
  exact ⟨_, rfl, by rw [← HE.out]; exact ho3, (kp.grown HGR.out (fun j e => by cases e; exact hg)).grown hg3 (fun j e => by cases e; exact hg)⟩
end Go.Proofs.YtponaoefpicfpaaGreatDoor
/- The program: the posets of a size, the small posets. -/
namespace Go.Proofs.YtponaoefpicfpaaGreatDoor
open Go.RowKit
theorem isPos_nat {b : List Nat} (h8 : b.length ≤ 8) (hb : Bnd b.length b) : isPos b.length (zs b) = posB b := by
  unfold isPos
  rw [zs_length, zs_toNat, isM_all (bnd_mem hb), show inR (b.length : Int) 0 8 = true from by simp [inR]; omega]
  simp
theorem smallK_len : ∀ k, k ≤ 4 → (smallK k).length ≤ 24 := by
  have h : ((smallK 4)).length = 24 := small_len
  have e : (smallK 4).length = (smallK 3).length + (allR 4).length := by rw [smallK, List.length_append]
  have e3 : (smallK 3).length = (smallK 2).length + (allR 3).length := by rw [smallK, List.length_append]
  have e2 : (smallK 2).length = (smallK 1).length + (allR 2).length := by simp [smallK]
  have e1 : (smallK 1).length = (smallK 0).length + (allR 1).length := by simp [smallK]
  intro k hk
  have : k = 0 ∨ k = 1 ∨ k = 2 ∨ k = 3 ∨ k = 4 := by omega
  rcases this with rfl | rfl | rfl | rfl | rfl <;> omega
theorem allR_len {n : Nat} (h1 : 1 ≤ n) (h4 : n ≤ 4) : (allR n).length ≤ 24 := by
  have := smallK_len n h4
  obtain ⟨m, rfl⟩ : ∃ m, n = m + 1 := ⟨n - 1, by omega⟩
  rw [smallK, List.length_append] at this
  omega
set_option maxRecDepth 100000 in
theorem allR_ne {n : Nat} (h1 : 1 ≤ n) (h4 : n ≤ 4) : allR n ≠ [] := by
  have : n = 1 ∨ n = 2 ∨ n = 3 ∨ n = 4 := by omega
  rcases this with rfl | rfl | rfl | rfl
  · rw [show allR 1 = [[1]] by decide +kernel]; simp
  · rw [show allR 2 = [[1, 2], [1, 3]] by decide +kernel]; simp
  · rw [show allR 3 = [[1, 2, 4], [1, 2, 5], [1, 2, 7], [1, 3, 5], [1, 3, 7]] by decide +kernel]; simp
  · rw [posets_r4]; simp [pos4]
theorem codes_ne {n : Nat} (h1 : 1 ≤ n) (h4 : n ≤ 4) : codP n 0 (2 ^ (n * n)) ≠ [] := fun e => by
  have := posets_eq n h4 h1
  rw [e] at this
  exact allR_ne h1 h4 this.symm
theorem OwnLI.off {w w' : World} {B B' : Nat} {v u : Value} {xs : List (List Nat)} {T : TypeId} {s n : Nat} {hs : List Value} (h : OwnLI w B v xs) (ho : w.ownsRow B' T s u n hs) (h1 : T ≠ 25) (h2 : T ≠ 2) (hg : w.grownBy w' u.ownBlock) : OwnLI w' B v xs := by
  obtain ⟨vs, hv, hr⟩ := h
  exact ⟨vs, own_touch hv (Touch.grown hg) (fun i hi e => type_ne ho hv h1 e.symm hi), hr.touch (Touch.grown hg) (fun i hb e => hr.off ho h2 e.symm hb)⟩
--
set_option maxRecDepth 20000 in
set_option maxHeartbeats 4000000 in
theorem posetsOf_any (n : Nat) (h1 : 1 ≤ n) (h4 : n ≤ 4) (w : World) : Calls Tryz.prog 100 #[.int .i64 n] w (RetPs w (allR n)) := by
  have HEQ := hid (posets_eq n h4 h1)
  have HNE := hid (codes_ne h1 h4)
  have HSU := hid (codP_succ n)
  have HLEN := hid (codP_len n)
  have HMEM := hid (fun k x (h : x ∈ codP n 0 k) => (codP_mem (n := n) (k := k) h4 h).1)
  have hpw : 2 ^ (n * n) ≤ 65536 := by
    have : n * n ≤ 16 := Nat.mul_le_mul h4 h4
    exact Nat.pow_le_pow_right (by omega) this
  have hnn : n * n ≤ 16 := Nat.mul_le_mul h4 h4
  have HREP := hid (repK_succ n)
  have HIS := hid (fun k (v : Value) (w2 : World) (hv : Ints w2 v (zs (repP n k))) => isPoset_any (repP n k).length (zs (repP n k)) v w2 hv)
  have HRL := hid (repP_len n)
  have HPO : Hid (∀ k, isPos (repP n k).length (zs (repP n k)) = posB (repP n k)) := hid fun k => isPos_nat (by rw [repP_len]; omega) (by rw [repP_len]; exact repP_bnd n k)
  have HLR := hid (fun k (v : Value) (w2 : World) (hv : Ints w2 v (zs (repP n k))) => leastRelation_any (repP n k) v w2 hv (by rw [repP_len]; exact h4) (by rw [repP_len]; exact repP_bnd n k))
  have hw : wrap64 ((2 : Int) ^ (n * n)) = ((2 ^ (n * n) : Nat) : Int) := by rw [wrap_pow _ (by omega)]; push_cast; rfl
  have e2 := (pow63 n (by omega)).1
  have e3 := (pow63 n (by omega)).2
  have h16 : 2 ^ n ≤ 16 := Nat.pow_le_pow_right (n := 2) (by omega) h4
  have hpos : 0 < 2 ^ n := Nat.two_pow_pos n
  have HBT : Hid (∀ k x : Nat, k < 65536 → bits BinOp.and IntKind.i64 ((k : Int) / 2 ^ (x * n)) ((2 : Int) ^ n - 1) = ((k >>> (x * n) &&& (2 ^ n - 1) : Nat) : Int)) := hid fun k x hk => by
    have a1 : (k : Int) / 2 ^ (x * n) = ((k / 2 ^ (x * n) : Nat) : Int) := by push_cast; rfl
    have a2 : (2 : Int) ^ n - 1 = ((2 ^ n - 1 : Nat) : Int) := by rw [Int.ofNat_sub (by omega)]; push_cast; rfl
    have a3 : k / 2 ^ (x * n) ≤ k := Nat.div_le_self _ _
    rw [a1, a2, andN _ _ (by omega) (by omega), Nat.shiftRight_eq_div_pow]
  have HXN : Hid (∀ x : Nat, x < n → x * n ≤ 16) := hid fun x hx => Nat.le_trans (Nat.mul_le_mul (Nat.le_of_lt hx) (Nat.le_refl n)) hnn
  clear h16 hpos
  have HPW := hid hpw; clear hpw
  generalize hN2 : 2 ^ (n * n) = N2 at *
  have HN2 := hid hN2; clear hN2
  go_enter Tryz.func100, Tryz.ntmps100
  go_wp2_with fail
  go_loopw [3, 14] (fun s3 s14 wr => ∃ k : Nat, k ≤ N2 ∧ s14 = .int .i64 k ∧ OwnLI wr w.heap.size s3 (codP n 0 k) ∧ Keeps w wr) (fun _ s14 _ => N2 - (intOf s14).toNat)
  case atStart => exact ⟨0, by omega, rfl, by simpa [codP] using OwnLI.nil w w.heap.size, Keeps.refl w⟩
  case round =>
    obtain ⟨k, hk, rfl, hown, kw⟩ := hrel
    by_cases hlt : k < N2
    · have hlt' : (k : Int) < N2 := by omega
      have hk65 : k < 65536 := by have := HPW.out; omega
      obtain ⟨p3, q3, rfl, _, _⟩ := hown.shape
      have HOWN := hid hown; clear hown
      have HKW := hid kw; clear kw
      go_wp2_with fail
      clear hw
      generalize hwo : wr = wo at *
      clear hwo
      go_loopw [5, 18] (fun s5 s18 wx => ∃ x : Nat, x ≤ n ∧ s18 = .int .i64 x ∧ OwnI wx wo.heap.size s5 (zs (repK n k x)) ∧ Keeps wo wx) (fun _ s18 _ => n - (intOf s18).toNat)
      case atStart => exact ⟨0, by omega, rfl, by simpa [repK, zs] using OwnI.nil wo wo.heap.size, Keeps.refl wo⟩
      case round =>
        obtain ⟨x, hx, rfl, hown, kw⟩ := hrel
        by_cases hxn : x < n
        · have hxn' : (x : Int) < n := by omega
          have hbt := HBT.out k x hk65
          have hrs := HREP.out k x
          have hrl := repK_len n k x
          have hxx := HXN.out x hxn
          have hwm : IntKind.i64.wrap ((x : Int) * (n : Int)) = ((x * n : Nat) : Int) := by
            rw [show (x : Int) * (n : Int) = ((x * n : Nat) : Int) by push_cast; rfl]
            exact wrapN _ (by omega)
          generalize x * n = M at *
          have hsz := kw.size
          have hzl : (zs (repK n k x)).length = x := by rw [zs_length, hrl]
          have HRS := hid hrs; clear hrs
          have HBTX := hid hbt; clear hbt
          go_wp2_with fail
          go_region_law (refine stepI rfl (.tmp 21) (.tmp 31) rfl wo.heap.size _ (zs (repK n k x)) rfl (by exact hown.keeps (by first | exact ((Keeps.refl wr).drew).alloc _ | exact ((Keeps.refl wr).alloc _).drew)) _ [_] rfl (by first | exact Ints.lit1 _ _ | exact (Ints.lit1 _ _).keeps ((Keeps.refl _).drew)) (by simp; omega) (by rw [hzl]; simp; omega) ?_; intro v1 w1 hv1 hg1 hr1)
          have k2 : Keeps wo w1 := by
            refine Keeps.grown ?_ hg1 (by simpa using hr1)
            first | exact (kw.drew.alloc _) | exact (kw.alloc _).drew
          clear hg1 hr1 hwm
          go_wp2
          go_roundw
          case rel => exact ⟨x + 1, by omega, by go_num, by rw [HRS.out, zs_snoc, ← HBTX.out]; exact hv1, k2⟩
          case measure => simp [intOf]; omega
        · have e : x = n := by omega
          subst e
          have hxn' : ¬ (x : Int) < x := by omega
          have hro : Hid (repK x k x = repP x k) := hid rfl
          rw [hro.out] at hown
          have hrl := HRL.out k
          have hin := hown.ints (by rw [zs_length, hrl]; omega)
          have HO5 := hid hown; clear hown
          have HIN := hid hin
          have hpos := posetOf_any (zs (repP x k)) _ wr hin
          have HPS := hid hpos; clear hpos
          have HIS2 := hid (fun w2 (kk : Keeps wr w2) => HIS.out k _ w2 (HIN.out.keeps kk))
          have HLR2 := hid (fun w2 (kk : Keeps wr w2) => HLR.out k _ w2 (HIN.out.keeps kk))
          have HSUK := hid (HSU.out k)
          rw [HPO.out k] at HIS2
          rw [hrl] at HIS2
          have hzl : (zs (repP x k)).length = x := by rw [zs_length, hrl]
          rw [hzl] at HPS
          obtain ⟨p5, q5, rfl, _⟩ := hin
          rw [hzl] at *
          have KWO := hid (HKW.out.trans kw)
          clear hzl hro hrl
          cases hb : posB (repP x k)
          · rw [hb] at HIS2
            have HC2 : Hid (codP x 0 (k + 1) = codP x 0 k) := hid (by rw [HSUK.out, hb]; simp)
            clear hb HSUK
            go_wp2_with fail
            refine HPS.out.mono ?_; rintro e w2 ⟨rfl, k2⟩
            go_wp2_with fail
            refine (HIS2.out _ k2).mono ?_; rintro e w3 ⟨rfl, k3⟩
            go_wp2_with fail
            go_roundw
            case rel => exact ⟨k + 1, by omega, by go_num, by rw [HC2.out]; exact (HOWN.out.keeps kw).keeps (k2.trans k3), KWO.out.trans (k2.trans k3)⟩
            case measure => simp [intOf]; omega
          · rw [hb] at HIS2
            have HC2 : Hid (codP x 0 (k + 1) = codP x 0 k ++ [leastP (repP x k)]) := hid (by rw [HSUK.out, hb]; simp)
            have hcl := HLEN.out k
            clear hb HSUK
            generalize leastP (repP x k) = lp at *
            have HOW2 := hid (HOWN.out.keeps kw)
            generalize codP x 0 k = ck at *
            go_wp2_with fail
            refine HPS.out.mono ?_; rintro e w2 ⟨rfl, k2⟩
            go_wp2_with fail
            refine (HIS2.out _ k2).mono ?_; rintro e w3 ⟨rfl, k3⟩
            go_wp2_with fail
            refine (HLR2.out _ (k2.trans k3)).mono ?_; rintro e w4 ⟨v4, rfl, hv4, k4⟩
            obtain ⟨p4, q4, e4, -, -, -⟩ := At.of_own hv4
            rw [zs_length] at e4
            subst e4
            have k5 := (k2.trans k3).trans k4
            have k6 := k5.alloc (.cells #[.slice p4 lp.length q4] 25)
            have hv5 := (hv4.mono (B' := w.heap.size) (by have := (KWO.out.trans (k2.trans k3)).size; omega)).keeps ((Keeps.refl w4).alloc (.cells #[.slice p4 lp.length q4] 25))
            have hsz5 := (KWO.out.trans k6).size
            have KW6 := hid (KWO.out.trans k6)
            go_wp2_with (at_builtin; refine appLI rfl _ _ rfl w.heap.size _ ck rfl wr HOW2.out k6 _ lp hv5 hsz5 _ 1 rfl (At.lit1 _ _ _) (by omega) ?_; intro v6 w6 hv6 hg6 hr6)
            go_roundw
            case rel => exact ⟨k + 1, by omega, by go_num, by rw [HC2.out]; exact hv6, KW6.out.grown hg6 hr6⟩
            case measure => simp [intOf]; omega
    · have e : N2 = k := by omega
      subst e
      have hlt' : ¬ (N2 : Int) < N2 := by omega
      have HSO := hid (sortedLists_any w wr _ (codP n 0 N2) kw hown (fun x hx => by have := HMEM.out N2 x hx; omega) (by have := HLEN.out N2; have := HPW.out; omega) HNE.out)
      have hse : sortU (codP n 0 N2) = allR n := HEQ.out
      have HSL : Hid (∀ x ∈ allR n, x.length ≤ 4) := hid fun x hx => by
        rw [← hse] at hx
        have := HMEM.out N2 x (sortU_mem.1 hx)
        omega
      rw [hse] at HSO
      have har := allR_len h1 h4
      obtain ⟨p3, q3, rfl, _, _⟩ := hown.shape
      clear hown hse HEQ HNE HSU HLEN HMEM HREP HIS HRL HPO HLR HBT HXN e2 e3
      generalize allR n = S at *
      go_wp2_with fail
      refine HSO.out.mono ?_; rintro e w2 ⟨v2, rfl, hv2, k2⟩
      obtain ⟨p2, q2, rfl, hle2, hmx2⟩ := hv2.shape
      unfold maxLen at hmx2
      have HV2 := hid hv2; clear hv2
      have HK2 := hid k2; clear k2 HSO
      go_wp2_with fail
      go_loopw [7, 46] (fun s7 s46 wx => ∃ i : Nat, i ≤ S.length ∧ s46 = .int .i64 i ∧ OwnPs wx w.heap.size s7 (S.take i) ∧ OwnLI wx w.heap.size (.slice p2 S.length q2) S ∧ Keeps w wx) (fun _ s46 _ => S.length - (intOf s46).toNat)
      case atStart => exact ⟨0, by omega, rfl, by simpa using OwnPs.nil w2 w.heap.size, HV2.out, HK2.out⟩
      case round =>
        obtain ⟨i, hi, rfl, hps, hli, kx⟩ := hrel
        clear HV2 HK2
        by_cases hlt : i < S.length
        · have hlt' : (i : Int) < S.length := by omega
          obtain ⟨b1, o1, u, rfl, hcu, hou⟩ := hli.get i hlt
          obtain ⟨pu, qu, e, -, -, -⟩ := At.of_own hou
          rw [zs_length] at e
          subst e
          obtain ⟨us7, ho7, hr7⟩ := id hps
          have htl : (S.take i).length = i := by rw [List.length_take]; omega
          obtain ⟨p7, q7, e7, _, _⟩ := hps.shape
          rw [htl] at e7
          subst e7
          have hlen : S[i].length ≤ 2147483648 := by have := HSL.out _ (List.getElem_mem hlt); omega
          have HPS := hid (posetOf_any (zs S[i]) _ wr (hou.ints (by rw [zs_length]; exact hlen)))
          rw [zs_length] at HPS
          have HTK : Hid (S.take (i + 1) = S.take i ++ [S[i]]) := hid (List.take_succ_eq_append_getElem hlt)
          have hlen2 : ∀ x : List Nat, (S.take i).length + [x].length ≤ 2147483647 := fun x => by rw [htl]; simp; omega
          clear htl
          have HPS0 := hid hps; clear hps
          have HLI := hid hli; clear hli
          have HOU := hid hou; clear hou
          generalize S[i] = x at *
          go_wp2_with fail
          refine HPS.out.mono ?_; rintro e w3 ⟨rfl, k3⟩
          have k4 := k3.alloc (.cells #[.int .i64 (x.length : Nat), .slice pu x.length qu] 32)
          have hsz := (kx.trans k4).size
          have KX := hid (kx.trans k4)
          go_wp2_with (at_builtin; refine appPs rfl _ _ rfl w.heap.size _ (S.take i) rfl wr HPS0.out k4 [.slice pu x.length qu] [x] (RowsI.one (HOU.out.keeps k4)) hsz _ 1 rfl At.ps1 (hlen2 x) ?_; intro v6 w6 hv6 hg6 hr6)
          go_roundw
          case rel => exact ⟨i + 1, by omega, by go_num, by rw [HTK.out]; exact hv6, (HLI.out.keeps k4).off (own_keeps ho7 k4) (by decide) tynePs hg6, KX.out.grown hg6 hr6⟩
          case measure => simp [intOf]; omega
        · have e : S.length = i := by omega
          have hlt' : ¬ (i : Int) < S.length := by omega
          rw [← e, List.take_length] at hps
          go_wp2_with fail
          go_ret
          exact ⟨_, rfl, hps, kx⟩
--
theorem OwnPs.parts {w : World} {B : Nat} {v : Value} {xs : List (List Nat)} (h : OwnPs w B v xs) : ∃ p cap us, v = .slice p xs.length cap ∧ RowsI w B us xs ∧ At w p (psCells xs us) := by
  obtain ⟨us, ho, hr⟩ := h
  obtain ⟨p, cap, e, _, _, hat⟩ := At.of_own ho
  exact ⟨p, cap, us, e, hr, hat⟩
set_option maxRecDepth 20000 in
set_option maxHeartbeats 1000000 in
theorem smallPosets_any (w : World) : Calls Tryz.prog 39 #[] w (RetPs w smallR) := by
  have HPO := hid (fun k (hk : k < 4) w2 => posetsOf_any (k + 1) (by omega) (by omega) w2)
  have HL := hid (fun k (hk : k < 4) => smallK_len k (by omega))
  have HA := hid (fun k (hk : k < 4) => allR_len (n := k + 1) (by omega) (by omega))
  have HK : Hid (∀ k, smallK (k + 1) = smallK k ++ allR (k + 1)) := hid fun _ => rfl
  have HE : Hid (smallK 4 = smallR) := hid rfl
  go_enter Tryz.func39, Tryz.ntmps39
  go_wp2_with fail
  go_loopw [1, 2] (fun s1 s2 wr => ∃ k : Nat, k ≤ 4 ∧ s2 = .int .i64 ((k + 1 : Nat) : Int) ∧ OwnPs wr w.heap.size s1 (smallK k) ∧ Keeps w wr) (fun _ s2 _ => 5 - (intOf s2).toNat)
  case atStart => exact ⟨0, by omega, by first | rfl | simp, by simpa [smallK] using OwnPs.nil w w.heap.size, Keeps.refl w⟩
  case round =>
    obtain ⟨k, hk, rfl, hps, kw⟩ := hrel
    by_cases hlt : k < 4
    · have hlt' : (((k + 1 : Nat) : Int)) ≤ 4 := by omega
      have HP2 := hid (HPO.out k hlt wr)
      have hl1 := HL.out k hlt
      have hl2 := HA.out k hlt
      have HKK := hid (HK.out k)
      obtain ⟨p1, q1, rfl, _, _⟩ := hps.shape
      have HPS := hid hps; clear hps
      generalize allR (k + 1) = S at *
      generalize hsk : smallK k = T at *
      clear hsk
      have hcast : ((k + 1 : Nat) : Int) + 1 = ((k + 1 + 1 : Nat) : Int) := by omega
      have HCA := hid hcast; clear hcast
      generalize hm : ((k + 1 : Nat) : Int) = m at *
      go_wp2_with fail
      refine HP2.out.mono ?_; rintro e w2 ⟨v2, rfl, hv2, k2⟩
      obtain ⟨p2, q2, us, rfl, hr2, hat2⟩ := hv2.parts
      have hsz := (kw.trans k2).size
      have KX := hid (kw.trans k2)
      have hr3 := hr2.mono kw.size
      go_wp2_with (at_builtin; refine appPs rfl _ _ rfl w.heap.size _ T rfl wr HPS.out k2 us S hr3 hsz _ _ rfl hat2 (by omega) ?_; intro v6 w6 hv6 hg6 hr6)
      go_roundw
      case rel => exact ⟨k + 1, by omega, by rw [← HCA.out], by rw [HKK.out]; exact hv6, KX.out.grown hg6 hr6⟩
      case measure => simp [intOf]; omega
    · have e : k = 4 := by omega
      subst e
      have hlt' : ¬ (((4 + 1 : Nat) : Int)) ≤ 4 := by omega
      rw [HE.out] at hps
      go_wp2_with fail
      go_ret
      exact ⟨_, rfl, hps, kw⟩
end Go.Proofs.YtponaoefpicfpaaGreatDoor
