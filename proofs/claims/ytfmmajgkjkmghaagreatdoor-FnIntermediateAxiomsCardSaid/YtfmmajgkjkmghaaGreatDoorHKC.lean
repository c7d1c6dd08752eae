import Derived.Test.YtfmmajgkjkmghaaGreatDoorHKB
import Derived.Test.YtfmmajgkjkmghaaGreatDoorHVS
import Derived.Lib.SliceRun
/- The library's SortFunc at frames. -/
namespace Go.Proofs.YtfmmajgkjkmghaaGreatDoor
open Go.RowKit Go.Sort
theorem cmpL_zero (a b : List Nat) : cmpL a b = 0 ↔ a = b := by
 unfold cmpL
 constructor
 ·intro h
  by_cases h1 : lessL a b = true
  ·simp [h1] at h
  ·by_cases h2 : a = b
   ·exact h2
   ·simp [h1, h2] at h
 ·rintro rfl
  simp [lessL_irr]
theorem cmpF_zero (a b : List Nat) : cmpF a b = 0 ↔ a = b := by
 unfold cmpF cmp2
 constructor
 ·intro h
  by_cases h1 : a.length < b.length
  ·simp [h1] at h
  ·by_cases h2 : b.length < a.length
   ·simp [h1, h2] at h
   ·simp only [h1, h2, if_false, ne_eq, not_true_eq_false] at h
    exact (cmpL_zero a b).1 h
 ·rintro rfl
  simp [(cmpL_zero a a).2 rfl]
def lessF (a b : List Nat) : Bool := if a.length < b.length then true else if b.length < a.length then false else lessL a b
theorem cmpF_neg (a b : List Nat) : decide (cmpF a b < 0) = lessF a b := by
 unfold cmpF cmp2 lessF
 by_cases h1 : a.length < b.length
 ·simp [h1]
 ·by_cases h2 : b.length < a.length
  ·simp [h1, h2]
  ·simp only [h1, h2, if_false, ne_eq, not_true_eq_false]
   exact cmpL_neg a b
theorem lessF_irr (a : List Nat) : lessF a a = false := by simp [lessF, lessL_irr]
theorem lessF_trans {a b c : List Nat} (h1 : lessF a b = true) (h2 : lessF b c = true) : lessF a c = true := by
 unfold lessF at *
 by_cases p1 : a.length < b.length
 ·by_cases q1 : b.length < c.length
  ·rw [if_pos (by omega)]
  ·rw [if_neg q1] at h2
   by_cases q2 : c.length < b.length
   ·rw [if_pos q2] at h2; cases h2
   ·rw [if_pos (by omega)]
 ·rw [if_neg p1] at h1
  by_cases p2 : b.length < a.length
  ·rw [if_pos p2] at h1; cases h1
  ·rw [if_neg p2] at h1
   by_cases q1 : b.length < c.length
   ·rw [if_pos (by omega)]
   ·rw [if_neg q1] at h2
    by_cases q2 : c.length < b.length
    ·rw [if_pos q2] at h2; cases h2
    ·rw [if_neg q2] at h2
     rw [if_neg (by omega), if_neg (by omega)]
     exact lessL_trans h1 h2
theorem lessF_tri (a b : List Nat) : lessF a b = true ∨ a = b ∨ lessF b a = true := by
 unfold lessF
 by_cases p1 : a.length < b.length
 ·rw [if_pos p1]; exact .inl rfl
 ·by_cases p2 : b.length < a.length
  ·exact .inr (.inr (by rw [if_pos p2]))
  ·rw [if_neg p1, if_neg p2, if_neg p2, if_neg p1]
   exact lessL_tri a b
def encF {w : World} {B : Nat} (x : RowV w B) : List Value := [.int .i64 x.l.length, x.v]
theorem ltF_swo {w : World} {B : Nat} : SWO (ltOf (fun x y : RowV w B => cmpF x.l y.l)) := by
 have key : ∀ x y : RowV w B, ltOf (fun x y : RowV w B => cmpF x.l y.l) x y = lessF x.l y.l := fun x y => cmpF_neg x.l y.l
 constructor
 ·intro x; rw [key]; exact lessF_irr _
 ·intro x y z h1 h2; rw [key] at *; exact lessF_trans h1 h2
 ·intro x y z h1 h2
  rw [key] at *
  rcases lessF_tri x.l z.l with h | h | h
  ·rcases lessF_tri x.l y.l with g | g | g
   ·rw [h1] at g; cases g
   ·rw [g] at h; rw [h2] at h; cases h
   ·have := lessF_trans g h
    rw [h2] at this; cases this
  ·rw [h]; exact lessF_irr _
  ·cases e : lessF x.l z.l
   ·rfl
   ·have := lessF_trans e h
    rw [lessF_irr] at this; cases this
theorem flat_ps {w : World} {B : Nat} (ds : List (RowV w B)) : (flatK encF 2 ds.toArray).toList = psCells (ds.map RowV.l) (ds.map RowV.v) := by
 have hl := psCells_len (ds.map RowV.l) (ds.map RowV.v) (by simp)
 apply List.ext_getElem?
 intro t
 by_cases ht : t < ds.length * 2
 ·have hs : t < (flatK encF 2 ds.toArray).size := by simpa using ht
  rw [Array.getElem?_toList, Array.getElem?_eq_getElem hs]
  have h1 : (flatK encF 2 ds.toArray)[t] = (flatK encF 2 ds.toArray)[t]! := (getElem!_pos (flatK encF 2 ds.toArray) t hs).symm
  rw [h1, get_flatK encF 2 ds.toArray t (by simpa using ht)]
  obtain ⟨i, hi⟩ : ∃ i, t = i * 2 ∨ t = i * 2 + 1 := ⟨t / 2, by omega⟩
  have hid : i < ds.length := by omega
  obtain ⟨g1, g2⟩ := psCells_get (ds.map RowV.l) (ds.map RowV.v) i (by simpa using hid) (by simpa using hid)
  rcases hi with rfl | rfl
  ·rw [g1, show i * 2 / 2 = i by omega, show i * 2 % 2 = 0 by omega]
   simp [encF, hid]
  ·rw [g2, show (i * 2 + 1) / 2 = i by omega, show (i * 2 + 1) % 2 = 1 by omega]
   simp [encF, hid]
 ·rw [List.getElem?_eq_none (by simp; omega), List.getElem?_eq_none (by rw [hl]; simp; omega)]
theorem holds2_of {w : World} {base : Nat} {e : TypeId} {v : Value} {n : Nat} {F : Array Value} (h : w.ownsRow base e 2 v n F.toList) (hv : v ≠ .slice none 0 0) :
  ∃ g cap, v = .slice (some ⟨g, 0, none⟩) n cap ∧ base ≤ g ∧ g < w.heap.size ∧ n ≤ cap ∧ cap ≤ maxLen ∧ F.size = n * 2 ∧ Holds id w g 0 F := by
 have hl : F.size = n * 2 := by simpa using h.1
 rcases h.2 with ⟨e0, _⟩ | ⟨g, cap, cur, rfl, hb, hg, hn, hm, hs, ht⟩
 ·exact absurd e0 hv
 ·have hlt : g < w.heap.size := (Array.getElem?_eq_some_iff.1 hg).1
  refine ⟨g, cap, rfl, hb, hlt, hn, hm, hl, fun j hj => ?_⟩
  refine ⟨?_, by simp [World.frozen?, hg]⟩
  have e1 : (cur.toList.take (n * 2))[j]? = F.toList[j]? := by rw [ht]
  rw [List.getElem?_take, if_pos (by omega), Array.getElem?_toList, Array.getElem?_toList, Array.getElem?_eq_getElem hj] at e1
  simp only [World.cell?, hg, Nat.zero_add]
  simp only [Option.isSome_none, Bool.false_eq_true, if_false]
  rw [e1]
  simp [getElem!_pos, hj]
theorem own2_put {w : World} {base : Nat} {e : TypeId} {g n cap q : Nat} {xs : List Value} {F : Array Value} (h : w.ownsRow base e 2 (.slice (some ⟨g, 0, none⟩) n cap) n xs) (hF : F.size = n * 2) :
  (putRow id (Sort.ahead w q) g 0 F).ownsRow base e 2 (.slice (some ⟨g, 0, none⟩) n cap) n F.toList := by
 rcases h.2 with ⟨e0, _⟩ | ⟨g', cap', cur, e0, hb, hg, hn, hm, hs, ht⟩
 ·cases e0
 ·injection e0 with e1 _ e3
  injection e1 with e1
  injection e1 with e1
  subst e1; subst e3
  refine ⟨by simpa using hF, .inr ⟨g, cap, putCells id 0 F cur, rfl, hb, ?_, by omega, hm, by simpa [putCells] using hs, ?_⟩⟩
  ·simp [putRow, mapBlock, Sort.ahead, Array.getElem?_modify, hg, onCells]
  ·apply List.ext_getElem?
   intro j
   rw [List.getElem?_take, Array.getElem?_toList, Array.getElem?_toList]
   by_cases hj : j < n * 2
   ·have hjc : j < cur.size := by omega
    simp only [if_pos hj, putCells, Array.getElem?_mapIdx, Array.getElem?_eq_getElem hjc, Option.map_some]
    rw [if_pos (by omega), Array.getElem?_eq_getElem (by omega)]
    simp [getElem!_pos, show j < F.size by omega]
   ·rw [if_neg hj, Array.getElem?_eq_none (by omega)]
theorem sortK_grown {w : World} {g n : Nat} {os : Array Obj} {B : Nat} {w0 : World} (d : Array (RowV w0 B)) : w.grownBy (sortWorldK encF 2 w g 0 n d os) (some g) := by
 refine ⟨rfl, rfl, rfl, by simp [sortWorldK, putRowK, putRow, mapBlock, Sort.ahead], fun k hk hne => ?_⟩
 unfold sortWorldK putRowK
 rw [heap_grow_old _ _ (by simpa [putRow, mapBlock, Sort.ahead] using hk)]
 have : g ≠ k := fun e => hne (by rw [e])
 simp [putRow, mapBlock, Sort.ahead, Array.getElem?_modify, this]
theorem enters_cmpF : Enters 32 := fun _ _ => by kernel_rfl
set_option maxHeartbeats 1000000 in
theorem sortFuncFs_any (B : Nat) (v : Value) (w : World) (L : List (List Nat)) (hv : OwnFs w B v L) (hl : ∀ x ∈ L, x.length ≤ 100) (hL : L.length ≤ 1000000) (hne : L ≠ []) :
  Calls Tryz.prog 31 #[v, .func (.func 32) #[] #[]] w fun e w' => e = .returned (.tuple #[]) ∧
   ∃ L2, OwnFs w' B v L2 ∧ L2.length = L.length ∧ (∀ x, x ∈ L2 ↔ x ∈ L) ∧ w.grownBy w' v.ownBlock := by
 have hn : v ≠ .slice none 0 0 := fun e => by
  subst e
  obtain ⟨p, c, e, _⟩ := hv.shape
  injection e with _ e2 _
  exact hne (List.eq_nil_of_length_eq_zero e2.symm)
 obtain ⟨vs, ho, hr⟩ := hv
 obtain ⟨ds, e1, e2⟩ := rows_vals L vs hr hl
 subst e1
 have hdl : ds.length = L.length := by rw [← e2, List.length_map]
 have ho' := ho
 rw [← e2, ← flat_ps, List.length_map, hdl] at ho'
 obtain ⟨g, cap, rfl, hbg, hgl, hncap, hcm, hlen, hH⟩ := holds2_of ho' hn
 have hcmp : CmpLays Tryz.prog 32 #[] (encF (w := w) (B := B)) 2 (fun x y : RowV w B => cmpF x.l y.l) g 0 ds.toArray.size w := by
  intro m os dk _ x y
  have ht := Touch.grown (sortK_grown (w := w) (g := g) (n := m) (os := os) dk)
  have hx := x.ok.touch ht (fun i hi e => type_ne ho x.ok tyneFs e.symm hi)
  have hy := y.ok.touch ht (fun i hi e => type_ne ho y.ok tyneFs e.symm hi)
  refine (compareFrames_any x.l y.l x.v y.v _ (hx.ints (by rw [zs_length]; have := x.hl; omega)) (hy.ints (by rw [zs_length]; have := y.hl; omega))).mono ?_
  rintro e w' ⟨rfl, _, q, os', rfl⟩
  exact ⟨rfl, q, os', rfl⟩
 have hs := Go.Proofs.AnyQ.slices_SortFunc Tryz.sortFr 2 Tryz.isAgg57 Tryz.sizeOf57 (encF (w := w) (B := B)) (fun _ => rfl) (fun x v hv => by
  simp only [encF, List.mem_cons, List.not_mem_nil, or_false] at hv
  rcases hv with rfl | rfl
  ·rfl
  ·exact x.ok.one) (fun x y => cmpF x.l y.l) ltF_swo 32 #[] g 0 cap ds.toArray w enters_cmpF hcmp hH hgl (by simp; omega)
 change Calls Tryz.prog 31 _ _ _ at hs
 have hsz : ds.toArray.size = L.length := by simpa using hdl
 rw [hsz] at hs
 refine hs.mono ?_
 rintro e w' ⟨rfl, d', q, os, hp, hso, rfl⟩
 have hp1 : d'.size = L.length := by rw [hp.1, hsz]
 have hgr := sortK_grown (w := w) (g := g) (n := q) (os := os) d'
 have hperm : d'.toList.Perm ds := by
  have := hp.2.2
  rw [show ds.toArray.extract 0 L.length = ds.toArray from Array.extract_eq_self_of_le (by omega)] at this
  rw [show d'.extract 0 L.length = d' from Array.extract_eq_self_of_le (by omega)] at this
  simpa using this
 refine ⟨rfl, d'.toList.map RowV.l, ⟨d'.toList.map RowV.v, ?_, by simp, fun i h1 h2 => ?_⟩, by simpa using hp1, fun x => ?_, hgr⟩
 ·have h3 : (flatK encF 2 d').size = L.length * 2 := by simp [hp1]
  have h4 := own_keeps (own2_put (q := q) ho' h3) (keeps_grow _ os)
  have hl3 : (d'.toList.map RowV.l).length = L.length := by simpa using hp1
  rw [hl3, ← flat_ps]
  exact h4
 ·rw [List.getElem_map, List.getElem_map]
  have hx := (d'.toList[i]'(by simpa using h1)).ok
  exact hx.touch (Touch.grown hgr) (fun k hk e => type_ne ho hx tyneFs e.symm hk)
 ·rw [← e2]
  exact (hperm.map RowV.l).mem_iff
end Go.Proofs.YtfmmajgkjkmghaaGreatDoor
namespace Go.Proofs.YtfmmajgkjkmghaaGreatDoor
open Go.RowKit Go.Sort
theorem keeps_grownBy {w w' : World} (k : Keeps w w') (r : Option Nat) : w.grownBy w' r := ⟨k.os, k.tape, k.output, k.size, fun _ h _ => k.block h⟩
theorem psCells_set : ∀ (xs : List (List Nat)) (us : List Value) (i : Nat) (y : List Nat) (u : Value), us.length = xs.length → ((psCells xs us).set (i * 2) (.int .i64 (y.length : Nat))).set (i * 2 + 1) u = psCells (xs.set i y) (us.set i u)
 | [], [], i, y, u, _ => rfl
 | x :: xs, v :: us, 0, y, u, _ => rfl
 | x :: xs, v :: us, i + 1, y, u, h => by
  have ih := psCells_set xs us i y u (by simpa using h)
  rw [show (i + 1) * 2 = i * 2 + 1 + 1 by omega]
  simp only [psCells, List.set_cons_succ]
  rw [ih]
 | [], _ :: _, _, _, _, h => by simp at h
 | _ :: _, [], _, _, _, h => by simp at h
theorem own_cleared {B g n cap s : Nat} {T : TypeId} : ∀ (vs : List Value) (k : Nat) (w : World) (xs : List Value), w.ownsRow B T s (.slice (some ⟨g, 0, none⟩) n cap) n xs → xs.length ≤ k →
  (w.setCells g k vs).ownsRow B T s (.slice (some ⟨g, 0, none⟩) n cap) n xs ∧ w.grownBy (w.setCells g k vs) (some g)
 | [], _, w, _, h, _ => ⟨h, grown_refl _ _⟩
 | v :: vs, k, w, xs, h, hk => by
  have h1 := h.stored k v
  rw [List.set_eq_of_length_le hk] at h1
  obtain ⟨h3, h4⟩ := own_cleared vs (k + 1) _ xs h1.1 (by omega)
  exact ⟨h3, grown_trans h1.2 h4⟩
theorem OwnFs.num {w : World} {B g n cap : Nat} {xs : List (List Nat)} (h : OwnFs w B (.slice (some ⟨g, 0, none⟩) n cap) xs) : n = xs.length := by
 obtain ⟨us, ho, _⟩ := h
 obtain ⟨p, c, e, _⟩ := At.of_own ho
 cases e; rfl
theorem OwnFs.cellA {w : World} {B g n cap : Nat} {d : Array (List Nat)} (h : OwnFs w B (.slice (some ⟨g, 0, none⟩) n cap) d.toList) (i : Nat) (hi : i < d.size) :
  ∃ u, w.cell? ⟨g, i * 2, none⟩ = some (.int .i64 (d[i]!.length : Nat)) ∧ w.cell? ⟨g, i * 2 + 1, none⟩ = some u ∧ OwnI w B u (zs d[i]!) ∧ w.frozen? ⟨g, i * 2, none⟩ = false ∧ w.frozen? ⟨g, i * 2 + 1, none⟩ = false := by
 obtain ⟨b, off, u, hp, c0, c1, hu⟩ := h.get i (by simpa using hi)
 cases hp
 rw [toList_getD d i hi]
 have hn := h.num
 obtain ⟨us, ho, _⟩ := h
 exact ⟨u, by simpa using c0, by simpa using c1, hu, by subst hn; exact ho.frozenAt _, by subst hn; exact ho.frozenAt _⟩
theorem OwnFs.storeA {w : World} {B g n cap : Nat} {d : Array (List Nat)} (h : OwnFs w B (.slice (some ⟨g, 0, none⟩) n cap) d.toList) (i : Nat) {u : Value} {y : List Nat} (hu : OwnI w B u (zs y)) :
  OwnFs ((w.setCell ⟨g, i * 2, none⟩ (.int .i64 (y.length : Nat))).setCell ⟨g, i * 2 + 1, none⟩ u) B (.slice (some ⟨g, 0, none⟩) n cap) (d.setIfInBounds i y).toList ∧ w.grownBy ((w.setCell ⟨g, i * 2, none⟩ (.int .i64 (y.length : Nat))).setCell ⟨g, i * 2 + 1, none⟩ u) (some g) := by
 have hn := h.num
 obtain ⟨us, ho, hr⟩ := h
 subst hn
 have h1 := ho.stored (i * 2) (.int .i64 (y.length : Nat))
 have h2 := h1.1.stored (i * 2 + 1) u
 have hg := grown_trans h1.2 h2.2
 rw [psCells_set _ _ _ _ _ hr.1] at h2
 have hoff := fun k (e : some k = some g) => RowsI.off hr ho tyneFs (k := k) (by simpa [Value.ownBlock] using e.symm)
 have hr2 := hr.touch (Touch.grown hg) (fun k hb e => hoff k e hb)
 have hu2 := hu.touch (Touch.grown hg) (fun k hk e => type_ne ho hu tyneFs e.symm hk)
 refine ⟨⟨us.set i u, ?_, by simp [hr.1], fun j h1 h2 => ?_⟩, hg⟩
 ·rw [Array.toList_setIfInBounds, List.length_set]; exact h2.1
 ·simp only [Array.toList_setIfInBounds]
  by_cases e : i = j
  ·subst e; simpa using hu2
  ·rw [List.getElem_set_ne e, List.getElem_set_ne e]
   exact hr2.2 j (by simpa using h1) (by simpa using h2)
theorem psCells_take : ∀ (xs : List (List Nat)) (us : List Value) (k : Nat), us.length = xs.length → (psCells xs us).take (k * 2) = psCells (xs.take k) (us.take k)
 | [], [], k, _ => by simp [psCells]
 | x :: xs, u :: us, 0, _ => by simp [psCells]
 | x :: xs, u :: us, k + 1, h => by
  have ih := psCells_take xs us k (by simpa using h)
  rw [show (k + 1) * 2 = k * 2 + 1 + 1 by omega]
  simp only [psCells, List.take_succ_cons]
  rw [ih]
 | [], _ :: _, _, h => by simp at h
 | _ :: _, [], _, h => by simp at h
theorem OwnFs.cut {w : World} {B g n cap : Nat} {xs : List (List Nat)} (h : OwnFs w B (.slice (some ⟨g, 0, none⟩) n cap) xs) (k : Nat) (hk : k ≤ n) : OwnFs w B (.slice (some ⟨g, 0, none⟩) k cap) (xs.take k) := by
 have hn := h.num
 obtain ⟨us, ho, hr⟩ := h
 subst hn
 refine ⟨us.take k, ?_, by simp [hr.1], fun j h1 h2 => ?_⟩
 ·rcases ho with ⟨hl, ⟨e, _⟩ | ⟨g', cap', cur, e, hb, hg, hn, hm, hs, ht⟩⟩
  ·cases e
  ·cases e
   have hlt : (xs.take k).length = k := by rw [List.length_take, Nat.min_eq_left hk]
   rw [hlt, ← psCells_take xs us k hr.1]
   refine ⟨by rw [List.length_take]; omega, .inr ⟨g, cap, cur, rfl, hb, hg, Nat.le_trans hk hn, hm, hs, ?_⟩⟩
   rw [← ht, List.take_take, Nat.min_eq_left (by omega)]
 ·rw [List.getElem_take, List.getElem_take]
  exact hr.2 j (by simp at h1; omega) (by simp at h2; omega)
theorem OwnFs.cleared {w : World} {B g n cap : Nat} {xs : List (List Nat)} (h : OwnFs w B (.slice (some ⟨g, 0, none⟩) n cap) xs) (vs : List Value) (k : Nat) (hk : n * 2 ≤ k) :
  OwnFs (w.setCells g k vs) B (.slice (some ⟨g, 0, none⟩) n cap) xs ∧ w.grownBy (w.setCells g k vs) (some g) := by
 have hn := h.num
 obtain ⟨us, ho, hr⟩ := h
 subst hn
 obtain ⟨h1, h2⟩ := own_cleared vs k w _ ho (by rw [psCells_len _ _ hr.1]; exact hk)
 exact ⟨⟨us, h1, hr.touch (Touch.grown h2) (fun j hb e => RowsI.off hr ho tyneFs (k := j) (by simpa [Value.ownBlock] using e.symm) hb)⟩, h2⟩
theorem underFs : Tryz.prog.underlying 51 = some (.slice 57) := by kernel_rfl
theorem zeroFs (w : World) : (zeroValue 57).run Tryz.prog w = .ok (.agg #[.int .i64 0, .slice none 0 0]) w := by
 obtain ⟨i0, hi, hz0, hz1, hz2⟩ := info_parts infoFs
 simp [zeroValue, typeInfo, hi, hz0]
theorem run_clear_fs (w : World) (b o n c : Nat) (hn : 0 < n) (hc : ∀ j, j < n * 2 → (w.cell? ⟨b, o + j, none⟩).isSome = true) (hf : ∀ j, j < n * 2 → w.frozen? ⟨b, o + j, none⟩ = false) :
  ∃ vs : List Value, ∀ ty, (Builtin.clear_ #[51] ty #[.slice (some ⟨b, o, none⟩) n c]).run Tryz.prog w = .ok (.tuple #[]) (w.setCells b o vs) := by
 have hz : (Value.agg #[.int .i64 0, .slice none 0 0]).cells = #[.int .i64 0, .slice none 0 0] := rfl
 have hl : (Builtin.zeroCells (Value.agg #[.int .i64 0, .slice none 0 0]).cells n).toList.length = n * 2 := by rw [hz]; simp [Builtin.zeroCells]
 have h1 : ∀ v ∈ (Builtin.zeroCells (Value.agg #[.int .i64 0, .slice none 0 0]).cells n).toList, v.oneCell' = true := by
  rw [hz]
  intro v hv
  simp only [Builtin.zeroCells, Array.toList_map, List.mem_map] at hv
  obtain ⟨i, _, rfl⟩ := hv
  have h2 : i % 2 = 0 ∨ i % 2 = 1 := by omega
  rcases h2 with h2 | h2
  ·simp [h2, Value.oneCell']
  ·simp [h2, Value.oneCell']
 have hst := run_storeCells_cells (P := Tryz.prog) b o (Builtin.zeroCells (Value.agg #[.int .i64 0, .slice none 0 0]).cells n).toList 0 w (by rw [hl]; simpa using hc) (by rw [hl]; simpa using hf) h1
 simp only [Nat.add_zero] at hst
 refine ⟨(Builtin.zeroCells (Value.agg #[.int .i64 0, .slice none 0 0]).cells n).toList, fun ty => ?_⟩
 obtain ⟨m, rfl⟩ : ∃ m, n = m + 1 := ⟨n - 1, by omega⟩
 simp [Builtin.clear_, run_underlying underFs, hst]
theorem enters_ri1 : Enters 34 := fun _ _ => by kernel_rfl
set_option maxRecDepth 20000 in
theorem rootedImages_1_any (b c : List Nat) (vb vc : Value) (w : World) (hvb : Ints w vb (zs b)) (hvc : Ints w vc (zs c)) :
  Calls Tryz.prog 34 #[.agg #[.int .i64 b.length, vb], .agg #[.int .i64 c.length, vc]] w fun e w' => e = .returned (.bool (decide (b = c))) ∧ Keeps w w' := by
 have kA := (Keeps.refl w).alloc (.cells #[.int .i64 b.length, vb] 57)
 have kAB := (Keeps.refl (w.alloc (.cells #[.int .i64 b.length, vb] 57))).alloc (.cells #[.int .i64 c.length, vc] 57)
 obtain ⟨a0, a1⟩ := BoxF.made w b.length vb 57
 replace a0 := kAB.cell a0
 replace a1 := kAB.cell a1
 obtain ⟨c0, c1⟩ := BoxF.made (w.alloc (.cells #[.int .i64 b.length, vb] 57)) c.length vc 57
 have hsz : (w.alloc (.cells #[.int .i64 b.length, vb] 57)).heap.size = w.heap.size + 1 := by simp
 rw [hsz] at c0 c1
 have K2 := kA.trans kAB
 have HC := hid (compareFrames_any b c vb vc _ (hvb.keeps K2) (hvc.keeps K2))
 have HD : Hid ((cmpF b c == 0) = decide (b = c)) := hid (by
  rw [Bool.eq_iff_iff, beq_iff_eq, decide_eq_true_eq]
  exact cmpF_zero b c)
 obtain ⟨p1, q1, rfl, _⟩ := hvb
 obtain ⟨p2, q2, rfl, _⟩ := hvc
 rw [zs_length b] at *
 rw [zs_length c] at *
 clear hsz kAB kA
 go_enter Tryz.func34, Tryz.ntmps34
 go_wp2_with fail
 refine HC.out.mono ?_; rintro e w2 ⟨rfl, k2, _⟩
 go_wp2_with fail
 go_ret
 exact ⟨ret_bool HD.out, K2.trans k2⟩
def RetCF (w : World) (B g cap : Nat) (L : List (List Nat)) (e : Ending) (w' : World) : Prop := ∃ k L', e = .returned (.slice (some ⟨g, 0, none⟩) k cap) ∧ OwnFs w' B (.slice (some ⟨g, 0, none⟩) k cap) L' ∧ (∀ x, x ∈ L' ↔ x ∈ L) ∧ L'.length ≤ L.length ∧ w.grownBy w' (some g)
set_option maxRecDepth 20000 in
set_option maxHeartbeats 4000000 in
theorem compactFuncFs_any (B g cap : Nat) (w : World) (L : List (List Nat)) (hv : OwnFs w B (.slice (some ⟨g, 0, none⟩) L.length cap) L) (_hB : B ≤ g) (hl : ∀ x ∈ L, x.length ≤ 100) (hL : L.length ≤ 1000000) :
  Calls Tryz.prog 33 #[.slice (some ⟨g, 0, none⟩) L.length cap, .func (.func 34) #[] #[]] w (RetCF w B g cap L) := by
 obtain ⟨_, _, e, hcap, hmx⟩ := hv.shape
 cases e
 unfold maxLen at hmx
 have hcf : ∀ args w, (callFunc 34 args).run Tryz.prog w = .ok (.enter 34 args) w := enters_ri1
 have HMEM : Hid (∀ x, x ∈ cutK id L.toArray L.length ↔ x ∈ L) := hid (fun u => by
  have := cutK_mem (κ := id) (d := L.toArray) (u := u)
  simp only [List.map_id, List.size_toArray] at this
  rw [this]
  constructor
  ·rintro ⟨j, hj, rfl⟩
   simp [hj]
  ·intro hu
   obtain ⟨j, hj, rfl⟩ := List.getElem_of_mem hu
   exact ⟨j, hj, by simp [hj]⟩)
 have HCL := hid (cutK_len id L.toArray L.length)
 have HALL : Hid ((∀ j, j < L.length → keepsK id L.toArray j = true) → cutK id L.toArray L.length = L.toArray.toList) := hid fun h => by
  rw [cutK_all id _ _ h]
  apply List.ext_getElem
  ·simp
  ·intro i h1 h2
   have h3 : i < L.length := by simpa using h2
   simp [h3]
 have HV : Hid (OwnFs w B (.slice (some ⟨g, 0, none⟩) L.length cap) L.toArray.toList) := hid hv
 clear hv
 have HLEN : Hid (∀ i, i < L.length → L.toArray[i]!.length ≤ 100) := hid fun i h => by simpa [h] using hl _ (List.getElem_mem h)
 clear hl
 have HSZ : Hid (L.toArray.size = L.length) := hid (by simp)
 have HFN := hid (fun (w' : World) (k : Nat) (L' : List (List Nat)) (h : OwnFs w' B (.slice (some ⟨g, 0, none⟩) k cap) L') (he : L' = cutK id L.toArray L.length) (hg : w.grownBy w' (some g)) =>
  show RetCF w B g cap L (.returned (.slice (some ⟨g, 0, none⟩) k cap)) w' from
   ⟨k, L', rfl, h, fun x => by rw [he]; exact HMEM.out x, by rw [he]; exact HCL.out, hg⟩)
 clear HMEM HCL
 obtain ⟨S, hS⟩ : ∃ S, S = cutK id L.toArray L.length := ⟨_, rfl⟩
 rw [← hS] at HALL HFN
 have HEND : Hid (cutK id L.toArray L.length = S) := hid hS.symm
 clear hS
 generalize L.toArray = d at *
 generalize L.length = n at *
 have HEQ := hid (fun (wz : World) (va vb : Value) (x y : List Nat) (hx : OwnI wz B va (zs x)) (hy : OwnI wz B vb (zs y)) (h1 : x.length ≤ 100) (h2 : y.length ≤ 100) => rootedImages_1_any x y va vb wz (hx.ints (by rw [zs_length]; omega)) (hy.ints (by rw [zs_length]; omega)))
 by_cases h2 : n < 2
 ·have h2' : (n : Int) < 2 := by omega
  have HD := hid (HFN.out w n _ HV.out (HALL.out (fun j hj => keepsK_one id _ j (by omega))).symm (grown_refl _ _))
  go_enter Tryz.func33, Tryz.ntmps33
  go_wp2_with fail
  go_ret
  exact HD.out
 ·have h2' : ¬ (n : Int) < 2 := by omega
  go_enter Tryz.func33, Tryz.ntmps33
  go_wp2_with fail
  go_loopw [5] (fun s5 wr => ∃ k : Nat, 1 ≤ k ∧ k ≤ n ∧ s5 = .int .i64 k ∧ OwnFs wr B (.slice (some ⟨g, 0, none⟩) n cap) d.toList ∧ w.grownBy wr (some g) ∧ Hid (∀ j, j < k → keepsK id d j = true)) (fun s5 _ => n - (intOf s5).toNat)
  case atStart => exact ⟨1, by omega, by omega, rfl, HV.out, grown_refl _ _, hid (keepsK_one id d)⟩
  case round =>
   obtain ⟨k, hk1, hk, rfl, hown, hgr, HA⟩ := hrel
   clear HV
   by_cases hlt : k < n
   ·have hlt' : (k : Int) < n := by omega
    have hk0 : (0 : Int) ≤ (k : Int) - 1 := by omega
    have hkn : (k : Int) - 1 < n := by omega
    have hkt : ((k : Int) - 1).toNat = k - 1 := by omega
    have hwk : IntKind.i64.wrap ((k : Int) - 1) = (k : Int) - 1 := by rw [show (k : Int) - 1 = ((k - 1 : Nat) : Int) by omega]; exact wrapN _ (by omega)
    have hk0w : 0 ≤ IntKind.i64.wrap ((k : Int) - 1) := by rw [hwk]; exact hk0
    have hknw : IntKind.i64.wrap ((k : Int) - 1) < n := by rw [hwk]; exact hkn
    have hktw : (IntKind.i64.wrap ((k : Int) - 1)).toNat = k - 1 := by rw [hwk]; exact hkt
    clear hwk
    obtain ⟨u1, ca1, cb1, o1, f1, f1'⟩ := hown.cellA k (by rw [HSZ.out]; exact hlt)
    obtain ⟨u0, ca0, cb0, o0, f0, f0'⟩ := hown.cellA (k - 1) (by rw [HSZ.out]; omega)
    have kd := (Keeps.refl wr).drew
    have da1 := kd.cell ca1
    have db1 := kd.cell cb1
    have da0 := kd.cell ca0
    have db0 := kd.cell cb0
    have HQ := hid (HEQ.out wr.drew u1 u0 d[k]! d[k - 1]! (o1.keeps kd) (o0.keeps kd) (HLEN.out _ hlt) (HLEN.out _ (by omega)))
    obtain ⟨p1, q1, e1, -, -, -⟩ := At.of_own o1
    obtain ⟨p0, q0, e0, -, -, -⟩ := At.of_own o0
    have HOWN := hid (hown.keeps kd); clear hown
    have HGR := hid (grown_trans hgr (keeps_grownBy kd _)); clear hgr
    clear o1 o0 f0 f1 f0' f1'
    by_cases hdup : d[k]! = d[k - 1]!
    ·rw [decide_eq_true hdup] at HQ
     have HNG := hid (keepsK_neg (κ := id) (d := d) (by omega : 0 < k) hdup)
     clear hdup
     generalize d[k]! = xa at *
     generalize d[k - 1]! = xb at *
     subst e1 e0
     go_wp2_with fail
     go_region_held3 (fun w' => w'.cell? ⟨g, k * 2, none⟩ = some (.int .i64 (xa.length : Nat)) ∧ w'.cell? ⟨g, k * 2 + 1, none⟩ = some (.slice p1 (zs xa).length q1) ∧ w'.cell? ⟨g, (k - 1) * 2, none⟩ = some (.int .i64 (xb.length : Nat)) ∧ w'.cell? ⟨g, (k - 1) * 2 + 1, none⟩ = some (.slice p0 (zs xb).length q0)) (first | exact ⟨ca1, cb1, ca0, cb0⟩ | exact ⟨da1, db1, da0, db0⟩ | exact ⟨ea1, eb1, ea0, eb0⟩) (first
      | (go_at_call 34; refine HQ.out.mono ?_; rintro e w2 ⟨rfl, k2⟩; have ea1 := k2.cell da1; have eb1 := k2.cell db1; have ea0 := k2.cell da0; have eb0 := k2.cell db0))
     have HST := hid (HOWN.out.keeps k2)
     have HG2 := hid (grown_trans HGR.out (keeps_grownBy k2 _))
     have HK0 : Hid (KInv id d (k + 1) k d) := hid (KInv.start HA.out HNG.out)
     clear ca1 cb1 ca0 cb0 da1 db1 da0 db0 HOWN HGR HA kd HQ HNG k2
     clear ea1 eb1 ea0 eb0 hk0 hkn hkt hk0w hknw hktw
     generalize w2 = wq at *
     go_wp2_with fail
     go_loopw [5, 7] (fun s5 s7 wr => ∃ kk k2 : Nat, ∃ dk : Array (List Nat), s5 = .int .i64 kk ∧ s7 = .int .i64 k2 ∧ 1 ≤ k2 ∧ k + k2 ≤ n ∧ OwnFs wr B (.slice (some ⟨g, 0, none⟩) n cap) dk.toList ∧ w.grownBy wr (some g) ∧ Hid (KInv id d (k + k2) kk dk)) (fun _ s7 _ => n - (intOf s7).toNat)
     case atStart => exact ⟨k, 1, d, rfl, rfl, by omega, by omega, HST.out, HG2.out, HK0⟩
     case round =>
      obtain ⟨kk, k2, dk, rfl, rfl, h21, h22, hown, hgr, HK⟩ := hrel
      clear HST HG2 HK0
      have hkk := HK.out.lt
      have hds : dk.size = n := by rw [HK.out.size, HSZ.out]
      have HDS := hid hds; clear hds
      by_cases hlt2 : k + k2 < n
      ·have hl2 : (k2 : Int) < ((n - k : Nat) : Int) := by omega
       have hl20 : (0 : Int) ≤ (k2 : Int) - 1 := by omega
       have hl2n : (k2 : Int) - 1 < ((n - k : Nat) : Int) := by omega
       have hkt2 : ((k2 : Int) - 1).toNat = k2 - 1 := by omega
       have hwk : IntKind.i64.wrap ((k2 : Int) - 1) = (k2 : Int) - 1 := by rw [show (k2 : Int) - 1 = ((k2 - 1 : Nat) : Int) by omega]; exact wrapN _ (by omega)
       have hk0w : 0 ≤ IntKind.i64.wrap ((k2 : Int) - 1) := by rw [hwk]; exact hl20
       have hknw : IntKind.i64.wrap ((k2 : Int) - 1) < ((n - k : Nat) : Int) := by rw [hwk]; exact hl2n
       have hktw : (IntKind.i64.wrap ((k2 : Int) - 1)).toNat = k2 - 1 := by rw [hwk]; exact hkt2
       clear hwk
       have hkkn : (kk : Int) < n := by omega
       obtain ⟨u1, ca1, cb1, o1, f1, f1'⟩ := hown.cellA (k + k2) (by rw [HDS.out]; exact hlt2)
       obtain ⟨u0, ca0, cb0, o0, f0, f0'⟩ := hown.cellA (k + (k2 - 1)) (by rw [HDS.out]; omega)
       obtain ⟨uk, cak, cbk, _, fak, fbk⟩ := hown.cellA kk (by rw [HDS.out]; omega)
       rw [HK.out.high (k + k2) (by omega)] at o1 ca1
       rw [HK.out.high (k + (k2 - 1)) (by omega)] at o0 ca0
       rw [show (k + k2) * 2 = k * 2 + k2 * 2 by omega] at ca1 cb1
       rw [show (k + (k2 - 1)) * 2 = k * 2 + (k2 - 1) * 2 by omega] at ca0 cb0
       have kd := (Keeps.refl wr).drew
       have da1 := kd.cell ca1
       have db1 := kd.cell cb1
       have da0 := kd.cell ca0
       have db0 := kd.cell cb0
       have HQ := hid (HEQ.out wr.drew u1 u0 d[k + k2]! d[k + (k2 - 1)]! (o1.keeps kd) (o0.keeps kd) (HLEN.out _ hlt2) (HLEN.out _ (by omega)))
       have hsame : k + k2 - 1 = k + (k2 - 1) := by omega
       obtain ⟨p1, q1, e1, -, -, -⟩ := At.of_own o1
       obtain ⟨p0, q0, e0, -, -, -⟩ := At.of_own o0
       have HO1 := hid (o1.keeps kd)
       have HOWN := hid (hown.keeps kd); clear hown
       have HGR := hid (grown_trans hgr (keeps_grownBy kd _)); clear hgr
       clear o1 o0 f0 f1 f0' f1'
       by_cases hdup : d[k + k2]! = d[k + (k2 - 1)]!
       ·rw [decide_eq_true hdup] at HQ
        have HNG := hid (keepsK_neg (κ := id) (d := d) (m := k + k2) (by omega) (by rw [hsame]; exact hdup))
        have HKS := hid (HK.out.skip HNG.out)
        clear hdup hsame HO1 HK HNG
        generalize d[k + k2]! = xa at *
        generalize d[k + (k2 - 1)]! = xb at *
        subst e1 e0
        go_wp2_with fail
        go_region_held3 (fun w' => w'.cell? ⟨g, k * 2 + k2 * 2, none⟩ = some (.int .i64 (xa.length : Nat)) ∧ w'.cell? ⟨g, k * 2 + k2 * 2 + 1, none⟩ = some (.slice p1 (zs xa).length q1) ∧ w'.cell? ⟨g, k * 2 + (k2 - 1) * 2, none⟩ = some (.int .i64 (xb.length : Nat)) ∧ w'.cell? ⟨g, k * 2 + (k2 - 1) * 2 + 1, none⟩ = some (.slice p0 (zs xb).length q0)) (first | exact ⟨ca1, cb1, ca0, cb0⟩ | exact ⟨da1, db1, da0, db0⟩ | exact ⟨ea1, eb1, ea0, eb0⟩) (first
         | (go_at_call 34; refine HQ.out.mono ?_; rintro e w3 ⟨rfl, k3⟩; have ea1 := k3.cell da1; have eb1 := k3.cell db1; have ea0 := k3.cell da0; have eb0 := k3.cell db0))
        have HST := hid (HOWN.out.keeps k3)
        have HG2 := hid (grown_trans HGR.out (keeps_grownBy k3 _))
        clear ca1 cb1 ca0 cb0 da1 db1 da0 db0 HOWN HGR kd HQ k3 ea1 eb1 ea0 eb0
        go_wp2_with fail
        go_roundw
        case rel => exact ⟨kk, k2 + 1, dk, rfl, by go_num, by omega, by omega, HST.out, HG2.out, HKS⟩
        case measure => simp [intOf]; omega
       ·rw [decide_eq_false hdup] at HQ
        have HPS := hid (keepsK_pos (κ := id) (d := d) (m := k + k2) (by rw [hsame]; exact hdup))
        have HKE := hid (HK.out.keep (by rw [HSZ.out]; exact hlt2) HPS.out)
        have HST1 := hid (fun wz (kz : Keeps wr.drew wz) => (HOWN.out.keeps kz).storeA kk (HO1.out.keeps kz))
        clear hdup hsame HO1 HK HPS
        generalize d[k + k2]! = xa at *
        generalize d[k + (k2 - 1)]! = xb at *
        subst e1 e0
        go_wp2_with fail
        go_region_held3 (fun w' => w'.cell? ⟨g, k * 2 + k2 * 2, none⟩ = some (.int .i64 (xa.length : Nat)) ∧ w'.cell? ⟨g, k * 2 + k2 * 2 + 1, none⟩ = some (.slice p1 (zs xa).length q1) ∧ w'.cell? ⟨g, k * 2 + (k2 - 1) * 2, none⟩ = some (.int .i64 (xb.length : Nat)) ∧ w'.cell? ⟨g, k * 2 + (k2 - 1) * 2 + 1, none⟩ = some (.slice p0 (zs xb).length q0)) (first | exact ⟨ca1, cb1, ca0, cb0⟩ | exact ⟨da1, db1, da0, db0⟩ | exact ⟨ea1, eb1, ea0, eb0⟩) (first
         | (go_at_call 34; refine HQ.out.mono ?_; rintro e w3 ⟨rfl, k3⟩; have ea1 := k3.cell da1; have eb1 := k3.cell db1; have ea0 := k3.cell da0; have eb0 := k3.cell db0))
        have HST := hid (HST1.out _ k3)
        have HG2 := hid (grown_trans (grown_trans HGR.out (keeps_grownBy k3 _)) HST.out.2)
        have KK := kd.trans k3
        have cak3 := KK.cell cak
        have cbk3 := KK.cell cbk
        have fak3 := (KK.both).2 g (kk * 2) (World.block_lt_of_cell? _ _ cak)
        have fbk3 := (KK.both).2 g (kk * 2 + 1) (World.block_lt_of_cell? _ _ cbk)
        rw [fak] at fak3
        rw [fbk] at fbk3
        clear ca1 cb1 ca0 cb0 da1 db1 da0 db0 HOWN HGR kd HQ k3 HST1 KK cak cbk fak fbk
        go_wp2_with fail
        go_roundw
        case rel => exact ⟨kk + 1, k2 + 1, dk.setIfInBounds kk xa, by go_num, by go_num, by omega, by omega, by have h := HST.out.1; first | exact h | simpa using h, by first | exact HG2.out | simpa using HG2.out, HKE⟩
        case measure => simp [intOf]; omega
      ·have hend : k + k2 = n := by omega
       have hl2 : ¬ (k2 : Int) < ((n - k : Nat) : Int) := by omega
       have hkkn : kk < n := by omega
       have hcel : ∀ j, j < (n - kk) * 2 → (wr.cell? ⟨g, kk * 2 + j, none⟩).isSome = true ∧ wr.frozen? ⟨g, kk * 2 + j, none⟩ = false := fun j hj => by
        obtain ⟨i, hi⟩ : ∃ i, j = i * 2 ∨ j = i * 2 + 1 := ⟨j / 2, by omega⟩
        obtain ⟨u, ca, cb, _, fa, fb⟩ := hown.cellA (kk + i) (by rw [HDS.out]; omega)
        rw [show (kk + i) * 2 = kk * 2 + i * 2 by omega] at ca cb fa fb
        rcases hi with rfl | rfl
        ·exact ⟨by rw [ca]; rfl, fa⟩
        ·exact ⟨by rw [← Nat.add_assoc, cb]; rfl, by rw [← Nat.add_assoc]; exact fb⟩
       obtain ⟨zv, hcl⟩ := run_clear_fs wr g (kk * 2) (n - kk) (cap - kk) (by omega) (fun j hj => (hcel j hj).1) (fun j hj => (hcel j hj).2)
       have HFIN : Hid (dk.toList.take kk = S) := hid (by
        rw [← HEND.out]
        have hk2 := HK.out
        rw [hend] at hk2
        apply List.ext_getElem?
        intro j
        by_cases hj : j < kk
        ·rw [hk2.low j hj, List.getElem?_take_of_lt hj]
         have hjd : j < dk.size := by rw [HDS.out]; omega
         rw [toList_getD dk j hjd, List.getElem?_eq_getElem (by simpa using hjd)]
        ·rw [List.getElem?_eq_none (by simp; omega), List.getElem?_eq_none (by rw [hk2.len]; omega)])
       have hc2 := (hown.cut kk (by omega)).cleared zv (kk * 2) (Nat.le_refl _)
       have HRES := hid (HFN.out _ kk _ hc2.1 (by rw [HFIN.out]) (grown_trans hgr hc2.2))
       clear hcel hown hgr hc2 HFIN HK hend
       go_wp2_with fail
       go_ret
       exact HRES.out
    ·have HPS := hid (keepsK_pos (κ := id) (d := d) (m := k) hdup)
     rw [decide_eq_false hdup] at HQ
     clear hdup
     generalize d[k]! = xa at *
     generalize d[k - 1]! = xb at *
     subst e1 e0
     go_wp2_with fail
     go_region_held3 (fun w' => w'.cell? ⟨g, k * 2, none⟩ = some (.int .i64 (xa.length : Nat)) ∧ w'.cell? ⟨g, k * 2 + 1, none⟩ = some (.slice p1 (zs xa).length q1) ∧ w'.cell? ⟨g, (k - 1) * 2, none⟩ = some (.int .i64 (xb.length : Nat)) ∧ w'.cell? ⟨g, (k - 1) * 2 + 1, none⟩ = some (.slice p0 (zs xb).length q0)) (first | exact ⟨ca1, cb1, ca0, cb0⟩ | exact ⟨da1, db1, da0, db0⟩ | exact ⟨ea1, eb1, ea0, eb0⟩) (first
      | (go_at_call 34; refine HQ.out.mono ?_; rintro e w2 ⟨rfl, k2⟩; have ea1 := k2.cell da1; have eb1 := k2.cell db1; have ea0 := k2.cell da0; have eb0 := k2.cell db0))
     have HST := hid (HOWN.out.keeps k2)
     have HG2 := hid (grown_trans HGR.out (keeps_grownBy k2 _))
     clear ca1 cb1 ca0 cb0 da1 db1 da0 db0 HOWN HGR kd HQ k2
     go_wp2_with fail
     go_roundw
     case rel => exact ⟨k + 1, by omega, by omega, by go_num, HST.out, HG2.out, hid (fun j hj => by
      by_cases e : j = k
      ·subst e; exact HPS.out
      ·exact HA.out j (by omega))⟩
     case measure => simp [intOf]; omega
   ·have e : n = k := by omega
    subst e
    have hlt' : ¬ (n : Int) < n := by omega
    have HD := hid (HFN.out _ n _ hown (HALL.out HA.out).symm hgr)
    go_wp2_with fail
    go_ret
    exact HD.out
end Go.Proofs.YtfmmajgkjkmghaaGreatDoor
namespace Go.Proofs.YtfmmajgkjkmghaaGreatDoor
open Go.RowKit Go.Sort
set_option maxRecDepth 20000 in
theorem insNil_any (f : Value) (w : World) : Calls Tryz.prog 139 #[.slice none 0 0, .int .i64 0, .int .i64 0, f] w fun e w' => e = .returned (.tuple #[]) ∧ Keeps w w' := by
 go_enter Tryz.func139, Tryz.ntmps139
 go_wp2_with fail
 go_loopw [8] (fun s8 wr => s8 = .int .i64 1 ∧ wr = w) (fun _ _ => 0)
 case atStart => exact ⟨rfl, rfl⟩
 case round =>
  obtain ⟨rfl, rfl⟩ := hrel
  go_wp2_with fail
  go_end0
  exact ⟨rfl, Keeps.refl _⟩
set_option maxRecDepth 20000 in
theorem pdqNil_any (f : Value) (w : World) : Calls Tryz.prog 81 #[.slice none 0 0, .int .i64 0, .int .i64 0, .int .i64 0, f] w fun e w' => e = .returned (.tuple #[]) ∧ Keeps w w' := by
 have HI := hid (insNil_any f w)
 go_enter Tryz.func81, Tryz.ntmps81
 go_wp2_with fail
 go_loopw [1, 2, 3, 10, 11] (fun s1 s2 s3 s10 s11 wr => s1 = .int .i64 0 ∧ s2 = .int .i64 0 ∧ s3 = .int .i64 0 ∧ s10 = .bool true ∧ s11 = .bool true ∧ wr = w) (fun _ _ _ _ _ _ => 0)
 case atStart => exact ⟨rfl, rfl, rfl, rfl, rfl, rfl⟩
 case round =>
  obtain ⟨rfl, rfl, rfl, rfl, rfl, rfl⟩ := hrel
  go_wp2_with fail
  refine HI.out.mono ?_; rintro e w2 ⟨rfl, k2⟩
  go_wp2_with fail
  refine bodyPost_ret (results_none rfl _ _ _) rfl ?_
  exact ⟨rfl, k2⟩
set_option maxRecDepth 20000 in
theorem sortNilFs_any (f : Value) (w : World) : Calls Tryz.prog 31 #[.slice none 0 0, f] w fun e w' => e = .returned (.tuple #[]) ∧ Keeps w w' := by
 have HB := hid (Tryz.bits_Len 0 w (by omega) (by omega))
 have HP := hid (pdqNil_any f w)
 have hb0 : ((Lib.bitLen (0 : Int).toNat : Nat) : Int) = 0 := by decide
 rw [hb0] at HB
 clear hb0
 go_enter Tryz.func31, Tryz.ntmps31
 go_wp2_with fail
 refine HB.out.mono ?_; rintro e w2 ⟨rfl, rfl⟩
 go_wp2_with fail
 refine HP.out.mono ?_; rintro e w3 ⟨rfl, k3⟩
 go_wp2_with fail
 go_end0
 exact ⟨rfl, k3⟩
set_option maxRecDepth 20000 in
theorem compactNilFs_any (f : Value) (w : World) : Calls Tryz.prog 33 #[.slice none 0 0, f] w fun e w' => e = .returned (.slice none 0 0) ∧ Keeps w w' := by
 go_enter Tryz.func33, Tryz.ntmps33
 go_wp2_with fail
 go_ret
 exact ⟨rfl, Keeps.refl _⟩
end Go.Proofs.YtfmmajgkjkmghaaGreatDoor
namespace Go.Proofs.YtfmmajgkjkmghaaGreatDoor
open Go.RowKit
theorem ccG_len2 {n : Nat} : ∀ f o, ArC o → o.length + f ≤ n → (ccG f o).length ≤ (n + 1) ^ f
 | 0, o, _, _ => by simp [ccG]
 | f + 1, o, h, h8 => by
  have hc := h.cnt
  rw [ccG]
  have h1 := ccS_len (g := fun k => ccG f (o ++ [k])) (M := (n + 1) ^ f) (cntC o + 1) (fun i hi => ccG_len2 f (o ++ [i]) (h.snoc (by omega)) (by simp; omega))
  have h2 : (cntC o + 1) * (n + 1) ^ f ≤ (n + 1) * (n + 1) ^ f := Nat.mul_le_mul_right _ (by omega)
  rw [Nat.pow_succ, Nat.mul_comm ((n + 1) ^ f) (n + 1)]
  omega
theorem ccS_mem {g : Nat → List (List Nat)} {x : List Nat} : ∀ {k}, x ∈ ccS g k → ∃ i, i < k ∧ x ∈ g i
 | 0, h => by simp [ccS] at h
 | k + 1, h => by
  rcases List.mem_append.1 (by rw [ccS] at h; exact h) with h | h
  ·obtain ⟨i, hi, hx⟩ := ccS_mem h
   exact ⟨i, by omega, hx⟩
  ·exact ⟨k, by omega, h⟩
theorem ccG_mem : ∀ f o x, ArC o → x ∈ ccG f o → ArC x ∧ x.length = o.length + f
 | 0, o, x, ho, h => by
  rw [ccG, List.mem_singleton] at h
  subst h
  exact ⟨ho, rfl⟩
 | f + 1, o, x, ho, h => by
  rw [ccG] at h
  obtain ⟨i, hi, hx⟩ := ccS_mem h
  obtain ⟨h1, h2⟩ := ccG_mem f (o ++ [i]) x (ho.snoc (by omega)) hx
  exact ⟨h1, by rw [h2, List.length_append, List.length_singleton]; omega⟩
theorem cgL_mem {b c : List Nat} (h : c ∈ cgL b) : ArC c ∧ c.length = b.length ∧ cgB b c = true := by
 obtain ⟨h1, h2⟩ := List.mem_filter.1 h
 obtain ⟨h3, h4⟩ := ccG_mem b.length [] c ArC.nil h1
 exact ⟨h3, by simpa using h4, h2⟩
theorem cgL_len5 {b : List Nat} (h5 : b.length ≤ 5) : (cgL b).length ≤ 7776 := by
 have h1 := ccG_len2 (n := b.length) b.length [] ArC.nil (by simp)
 have h2 := List.length_filter_le (cgB b) (ccG b.length [])
 have h3 : (b.length + 1) ^ b.length ≤ 6 ^ b.length := Nat.pow_le_pow_left (by omega) _
 have h4 : 6 ^ b.length ≤ 6 ^ 5 := Nat.pow_le_pow_right (by omega) h5
 unfold cgL
 omega
def rtB (q : List Nat) : Bool := decide (2 ^ q.length - 1 ∈ q)
def imgC (p : List Nat) (cs : List (List Nat)) : List (List Nat) := cs.flatMap fun c => if rtB (qtL p c) then [leastP (qtL p c)] else []
def imgU (b : List Nat) (ms : List Nat) : List (List Nat) := ms.flatMap fun m => imgC (prtL b m) (cgL (prtL b m))
theorem imgC_len (p : List Nat) : ∀ cs, (imgC p cs).length ≤ cs.length
 | [] => by simp [imgC]
 | c :: cs => by
  have h := imgC_len p cs
  unfold imgC at h ⊢
  rw [List.flatMap_cons, List.length_append, List.length_cons]
  have h2 : (if rtB (qtL p c) then [leastP (qtL p c)] else []).length ≤ 1 := by split <;> simp
  omega
theorem imgC_snoc (p : List Nat) (cs : List (List Nat)) (c : List Nat) : imgC p (cs ++ [c]) = imgC p cs ++ (if rtB (qtL p c) then [leastP (qtL p c)] else []) := by
 simp [imgC, List.flatMap_append]
theorem imgU_snoc (b : List Nat) (ms : List Nat) (m : Nat) : imgU b (ms ++ [m]) = imgU b ms ++ imgC (prtL b m) (cgL (prtL b m)) := by
 simp [imgU, List.flatMap_append]
end Go.Proofs.YtfmmajgkjkmghaaGreatDoor
