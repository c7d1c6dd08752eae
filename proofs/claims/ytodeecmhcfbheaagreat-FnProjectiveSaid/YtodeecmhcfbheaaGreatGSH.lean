/- Lists of node lists whose rows were there before: the call's own header, rows that are shared. -/
import Derived.Test.YtodeecmhcfbheaaGreatGM3
namespace Go.Proofs.YtodeecmhcfbheaaGreat
open Go.RowKit
/-- values that read as lists of nodes -/
def RowsS (w : World) (vs : List Value) (xs : List (List Nd)) : Prop := vs.length = xs.length ∧ ∀ i (h1 : i < vs.length) (h2 : i < xs.length), Nds w vs[i] xs[i]
theorem RowsS.keeps {w w' : World} {vs : List Value} {xs : List (List Nd)} (h : RowsS w vs xs) (k : Keeps w w') : RowsS w' vs xs := ⟨h.1, fun i h1 h2 => (h.2 i h1 h2).keeps k⟩
theorem RowsS.nil (w : World) : RowsS w [] [] := ⟨rfl, fun i h => by simp at h⟩
theorem RowsS.one {w : World} {u : Value} {x : List Nd} (h : Nds w u x) : RowsS w [u] [x] := ⟨rfl, fun i h1 h2 => by
  obtain rfl : i = 0 := by simp at h1; omega
  exact h⟩
theorem RowsS.append {w : World} {vs us : List Value} {xs ys : List (List Nd)} (h : RowsS w vs xs) (k : RowsS w us ys) : RowsS w (vs ++ us) (xs ++ ys) :=
  ⟨by simp [h.1, k.1], fun i h1 h2 => by
    have hl := h.1
    by_cases hi : i < vs.length
    · rw [List.getElem_append_left hi, List.getElem_append_left (by omega)]; exact h.2 i hi (by omega)
    · rw [List.getElem_append_right (by omega), List.getElem_append_right (by omega)]
      simp at h1 h2
      have := k.2 (i - vs.length) (by omega) (by omega)
      simpa [hl] using this⟩
theorem RowsS.one' {w : World} {vs : List Value} {xs : List (List Nd)} (h : RowsS w vs xs) : ∀ u ∈ vs, u.oneCell' = true := by
  intro u hu
  obtain ⟨i, hi, rfl⟩ := List.getElem_of_mem hu
  obtain ⟨p, n, c, e⟩ := (h.2 i hi (by have := h.1; omega)).shape
  rw [e]; rfl
theorem NdsL.shapeL {w : World} {v : Value} {xs : List (List Nd)} (h : NdsL w v xs) : ∃ p n c, v = .slice p n c := by
  obtain ⟨p, c, e, _⟩ := h
  exact ⟨p, _, c, e⟩
/-- a list's values -/
theorem NdsL.vals {w : World} {p : Option Addr} {n cap : Nat} {xs : List (List Nd)} (h : NdsL w (.slice p n cap) xs) : ∃ vs, At w p vs ∧ RowsS w vs xs := by
  classical
  obtain ⟨p', cap', e, _, _, _, hel⟩ := h
  cases e
  have hex : ∀ i, i < xs.length → ∃ u, (∃ b off, p = some ⟨b, off, none⟩ ∧ w.cell? ⟨b, off + i, none⟩ = some u) ∧ ∀ h : i < xs.length, Nds w u xs[i] := fun i hi => by
    obtain ⟨b, off, f, hp, hc, hr⟩ := hel i hi
    exact ⟨f 0, ⟨b, off, hp, by simpa using hc 0 (by omega)⟩, fun _ => hr⟩
  refine ⟨(List.range xs.length).map fun i => if h : i < xs.length then Classical.choose (hex i h) else undef, fun j hj => ?_, by simp, fun i h1 h2 => ?_⟩
  · have hj' : j < xs.length := by simpa using hj
    obtain ⟨b, off, hp, hc⟩ := (Classical.choose_spec (hex j hj')).1
    refine ⟨b, off, hp, ?_⟩
    simp only [List.getElem_map, List.getElem_range, dif_pos hj']
    exact hc
  · simp only [List.getElem_map, List.getElem_range, dif_pos h2]
    exact (Classical.choose_spec (hex i h2)).2 h2
theorem ndsL_of {w : World} {p : Option Addr} {cap : Nat} {vs : List Value} {xs : List (List Nd)} (hat : At w p vs) (hr : RowsS w vs xs) (h1 : xs.length ≤ cap) (h2 : cap ≤ maxLen) (h3 : xs.length ≤ 2147483648) : NdsL w (.slice p xs.length cap) xs := by
  refine ⟨p, cap, rfl, h1, h2, h3, fun i hi => ?_⟩
  have hl := hr.1
  obtain ⟨b, off, hp, hc⟩ := hat i (by omega)
  refine ⟨b, off, fun _ => vs[i], hp, fun c hc' => ?_, hr.2 i (by omega) hi⟩
  obtain rfl : c = 0 := by omega
  simpa using hc
/-- the call's own header, over rows of the world w0 -/
def ShL (w0 w : World) (v : Value) (xs : List (List Nd)) : Prop := ∃ vs, w.ownsRow w0.heap.size 24 1 v xs.length vs ∧ RowsS w0 vs xs
theorem ShL.keeps {w0 w w' : World} {v : Value} {xs : List (List Nd)} (h : ShL w0 w v xs) (k : Keeps w w') : ShL w0 w' v xs := by
  obtain ⟨vs, ho, hr⟩ := h
  exact ⟨vs, own_keeps ho k, hr⟩
theorem ShL.ndsL {w0 w : World} {v : Value} {xs : List (List Nd)} (h : ShL w0 w v xs) (k : Keeps w0 w) (hl : xs.length ≤ 2147483648) : NdsL w v xs := by
  obtain ⟨vs, ho, hr⟩ := h
  obtain ⟨p, cap, rfl, h1, h2, hat⟩ := At.of_own ho
  exact ndsL_of hat (hr.keeps k) h1 h2 hl
theorem ShL.shape {w0 w : World} {v : Value} {xs : List (List Nd)} (h : ShL w0 w v xs) : ∃ p cap, v = .slice p xs.length cap := by
  obtain ⟨vs, ho, hr⟩ := h
  obtain ⟨p, cap, e, _⟩ := At.of_own ho
  exact ⟨p, cap, e⟩
theorem ShL.nil (w0 w : World) : ShL w0 w (.slice none 0 0) [] := ⟨[], World.ownsRow_nil w _ _ 1, RowsS.nil _⟩
theorem ShL.empty {w0 : World} (w : World) (h : w0.heap.size ≤ w.heap.size) : ShL w0 (w.alloc (.cells #[] 24)) (.slice (some ⟨w.heap.size, 0, none⟩) 0 0) [] :=
  ⟨[], World.ownsRow_made w #[] 0 h (by simp [maxLen]) (by simp), RowsS.nil _⟩
theorem ShL.emptyN {w0 : World} (w : World) {n : Nat} (hn : n = w.heap.size) (h : w0.heap.size ≤ w.heap.size) : ShL w0 (w.alloc (.cells #[] 24)) (.slice (some ⟨n, 0, none⟩) 0 0) [] := by
  subst hn; exact ShL.empty w h
theorem appShK {w : World} {o : Oper} {a : Act} {K : Act → World → Prop} {Q : Exit → Act → World → Prop} (s x : Operand)
    (ho : o.op = .call { callee := .builtin .append, args := #[s, x], argTypes := #[35, 35] }) (w0 : World) (v : Value) (xs : List (List Nd)) (hs : a.eval s = v)
    (hown : ShL w0 w v xs) (p : Option Addr) (m c : Nat) (us : List Value) (ys : List (List Nd)) (hx : a.eval x = .slice p m c) (hm : m = ys.length) (hat : At w p us) (hus : RowsS w0 us ys) (hbase : w0.heap.size ≤ w.heap.size) (hlen : xs.length + ys.length ≤ 2147483648)
    (h : ∀ v' w', ShL w0 w' v' (xs ++ ys) → w.grownBy w' v.ownBlock → (∀ k, v.ownBlock = some k → w0.heap.size ≤ k) → K (a.put o.dst v') w') : o.wp Tryz.prog a w K Q := by
  subst hm
  obtain ⟨i0, hi, hz0, hz1, hz2⟩ := info_parts infoL
  obtain ⟨vs, hrow, hr⟩ := hown
  refine wp_append_at s x _ ho _ i0 _ 1 24 Tryz.underlying35 hi hz0 hz1 hz2 rfl (by decide) w0.heap.size v _ _ hs hrow p ys.length c us hx (by simp [hus.1]) hat hus.one' (by unfold maxLen; omega) (by omega) hbase ?_
  intro v' w' h1 h2 h3
  exact h v' w' ⟨vs ++ us, by simpa using h1, hr.append hus⟩ h2 h3
theorem appSh {w : World} {ops : Array Oper} {rest : List Oper} {o : Oper} {a : Act} {Q : Exit → Act → World → Prop} (hgd : o.guard = none) (s x : Operand)
    (ho : o.op = .call { callee := .builtin .append, args := #[s, x], argTypes := #[35, 35] }) (w0 : World) (v : Value) (xs : List (List Nd)) (hs : a.eval s = v)
    (hown : ShL w0 w v xs) (p : Option Addr) (m c : Nat) (us : List Value) (ys : List (List Nd)) (hx : a.eval x = .slice p m c) (hm : m = ys.length) (hat : At w p us) (hus : RowsS w0 us ys) (hbase : w0.heap.size ≤ w.heap.size) (hlen : xs.length + ys.length ≤ 2147483648)
    (h : ∀ v' w', ShL w0 w' v' (xs ++ ys) → w.grownBy w' v.ownBlock → (∀ k, v.ownBlock = some k → w0.heap.size ≤ k) → wpList Tryz.prog ops Q rest (a.put o.dst v') w') : wpList Tryz.prog ops Q (o :: rest) a w :=
  wpList_plain hgd fun _ hK => appShK s x ho w0 v xs hs hown p m c us ys hx hm hat hus hbase hlen fun v' w' h1 h2 h3 => hK _ _ (h v' w' h1 h2 h3)
theorem stepSh {w : World} {ops : Array Oper} {o : Oper} {a : Act} {K : Act → World → Prop} {Q : Exit → Act → World → Prop} {E : Prop} (hgd : o.guard = none) (s x : Operand)
    (ho : o.op = .call { callee := .builtin .append, args := #[s, x], argTypes := #[35, 35] }) (w0 : World) (v : Value) (xs : List (List Nd)) (hs : a.eval s = v)
    (hown : ShL w0 w v xs) (p : Option Addr) (m c : Nat) (us : List Value) (ys : List (List Nd)) (hx : a.eval x = .slice p m c) (hm : m = ys.length) (hat : At w p us) (hus : RowsS w0 us ys) (hbase : w0.heap.size ≤ w.heap.size) (hlen : xs.length + ys.length ≤ 2147483648)
    (h : ∀ v' w', ShL w0 w' v' (xs ++ ys) → w.grownBy w' v.ownBlock → (∀ k, v.ownBlock = some k → w0.heap.size ≤ k) → K (a.put o.dst v') w') : if Region.wanted o (yielded ops a.tmps) = true then Oper.wp Tryz.prog o a w K Q else E := by
  rw [if_pos (by simp [Region.wanted, hgd])]
  exact appShK s x ho w0 v xs hs hown p m c us ys hx hm hat hus hbase hlen h
/-- parts of a row's cells -/
theorem At.take {w : World} {p : Option Addr} {vs : List Value} (h : At w p vs) (i : Nat) : At w p (vs.take i) := fun j hj => by
  have hj' : j < vs.length := by simp at hj; omega
  obtain ⟨b, off, hp, hc⟩ := h j hj'
  exact ⟨b, off, hp, by simpa using hc⟩
theorem At.drop {w : World} {b off : Nat} {vs : List Value} (h : At w (some ⟨b, off, none⟩) vs) (i : Nat) {o : Nat} (ho : o = off + i) : At w (some ⟨b, o, none⟩) (vs.drop i) := fun j hj => by
  subst ho
  simp at hj
  obtain ⟨b', off', hp, hc⟩ := h (i + j) (by omega)
  cases hp
  exact ⟨b, _, rfl, by rw [Nat.add_assoc, hc]; simp⟩
theorem RowsS.take {w : World} {vs : List Value} {xs : List (List Nd)} (h : RowsS w vs xs) (i : Nat) : RowsS w (vs.take i) (xs.take i) :=
  ⟨by simp [h.1], fun j h1 h2 => by
    simp at h1 h2
    simpa using h.2 j (by omega) (by omega)⟩
theorem RowsS.drop {w : World} {vs : List Value} {xs : List (List Nd)} (h : RowsS w vs xs) (i : Nat) : RowsS w (vs.drop i) (xs.drop i) :=
  ⟨by simp [h.1], fun j h1 h2 => by
    simp at h1 h2
    simpa using h.2 (i + j) (by omega) (by omega)⟩
theorem cell_newN {w : World} {n : Nat} {u : Value} {T : TypeId} (hn : n = w.heap.size) : (w.alloc (.cells #[u] T)).cell? ⟨n, 0, none⟩ = some u := by subst hn; simp
theorem cell_newN2 {w : World} {n : Nat} {u : Value} {T : TypeId} {o : Obj} (hn : n = w.heap.size) : ((w.alloc (.cells #[u] T)).alloc o).cell? ⟨n, 0, none⟩ = some u := by
  subst hn
  rw [World.cell?_alloc_lt (h := by simp)]
  simp
theorem grown_cellB {W w1 : World} {g n c b : Nat} {u : Value} (h : W.grownBy w1 (Value.slice (some ⟨g, 0, none⟩) n c).ownBlock) (hb : b ≠ g) (hc : W.cell? ⟨b, 0, none⟩ = some u) : w1.cell? ⟨b, 0, none⟩ = some u := by
  rw [((Touch.grown h).cell (World.block_lt_of_cell? _ _ hc) (fun e => hb (by simpa [Value.ownBlock] using e))).1]
  exact hc
theorem At.of1 {w : World} {b : Nat} {u : Value} (h : w.cell? ⟨b, 0, none⟩ = some u) : At w (some ⟨b, 0, none⟩) [u] := fun j hj => by
  obtain rfl : j = 0 := by simp at hj; omega
  exact ⟨b, 0, rfl, h⟩
--
set_option maxRecDepth 20000 in
set_option maxHeartbeats 2000000 in
theorem l31Of_any (xs : List (List Nd)) (c : List Nd) (v u : Value) (w : World) (hv : NdsL w v xs) (hu : Nds w u c) (hl : xs.length ≤ 1000000) :
    Calls Tryz.prog 87 #[.agg #[v, u]] w fun e w' => ∃ v', e = .returned v' ∧ ShL w w' v' (xs ++ [c]) ∧ Keeps w w' := by
  have hv0 := hv
  obtain ⟨p, cap, rfl, hle, hmx, hlm, _⟩ := hv
  obtain ⟨pu, nu, cu, rfl⟩ := hu.shape
  obtain ⟨us, hat, hus⟩ := hv0.vals
  have hb0 : (w.alloc (.cells #[.slice p xs.length cap, .slice pu nu cu] 37)).cell? ⟨w.heap.size, 0, none⟩ = some (.slice p xs.length cap) := by simp
  have hb1 : (w.alloc (.cells #[.slice p xs.length cap, .slice pu nu cu] 37)).cell? ⟨w.heap.size, 1, none⟩ = some (.slice pu nu cu) := by simp
  clear hv0
  go_enter Tryz.func87, Tryz.ntmps87
  go_wp2_with fail
  go_region_law (first
    | (refine stepSh rfl (.tmp 3) (.tmp 5) rfl w (.slice (some ⟨w.heap.size + 1, 0, none⟩) 0 0) [] rfl ?_ p _ cap us xs rfl rfl ?_ hus ?_ ?_ ?_; (focus first | exact ShL.emptyN _ (by simp) (by simp <;> omega) | exact (ShL.emptyN _ (by simp) (by simp <;> omega)).keeps ((Keeps.refl _).alloc _) | exact (ShL.emptyN _ (by simp) (by simp; try omega)).keeps (((Keeps.refl _).alloc _).drew) | exact (ShL.emptyN _ (by simp) (by simp; try omega)).keeps ((Keeps.refl _).drew)); (focus (refine hat.keeps ?_; (repeat (first | exact Keeps.refl _ | refine Keeps.alloc ?_ _ | refine Keeps.drew ?_)))); (focus first | (simp; done) | (simp; omega)); (focus first | (simp; done) | (simp; omega)); intro v1 w1 hv1 hg1 hr1; have kW : Keeps w w1 := Keeps.grown (by (repeat (first | exact Keeps.refl _ | refine Keeps.alloc ?_ _ | refine Keeps.drew ?_))) hg1 hr1; (have hq : w1.cell? ⟨w.heap.size, 1, none⟩ = some (.slice pu nu cu) := (Keeps.grown (a := w.alloc (.cells #[.slice p xs.length cap, .slice pu nu cu] 37)) (by (repeat (first | exact Keeps.refl _ | refine Keeps.alloc ?_ _ | refine Keeps.drew ?_))) hg1 (fun k hk => by simp [Value.ownBlock] at hk; simp; omega)).cell hb1); simp only [List.nil_append] at hv1; obtain ⟨p1, c1, rfl⟩ := hv1.shape)
    | (refine stepSh rfl (.tmp 3) (.tmp 5) rfl w (.slice (some ⟨w.heap.size + 1 + 1, 0, none⟩) 0 0) [] rfl ?_ p _ cap us xs rfl rfl ?_ hus ?_ ?_ ?_; (focus first | exact ShL.emptyN _ (by simp) (by simp <;> omega) | exact (ShL.emptyN _ (by simp) (by simp <;> omega)).keeps ((Keeps.refl _).alloc _) | exact (ShL.emptyN _ (by simp) (by simp; try omega)).keeps (((Keeps.refl _).alloc _).drew) | exact (ShL.emptyN _ (by simp) (by simp; try omega)).keeps ((Keeps.refl _).drew)); (focus (refine hat.keeps ?_; (repeat (first | exact Keeps.refl _ | refine Keeps.alloc ?_ _ | refine Keeps.drew ?_)))); (focus first | (simp; done) | (simp; omega)); (focus first | (simp; done) | (simp; omega)); intro v1 w1 hv1 hg1 hr1; have kW : Keeps w w1 := Keeps.grown (by (repeat (first | exact Keeps.refl _ | refine Keeps.alloc ?_ _ | refine Keeps.drew ?_))) hg1 hr1; (have hq : w1.cell? ⟨w.heap.size, 1, none⟩ = some (.slice pu nu cu) := (Keeps.grown (a := w.alloc (.cells #[.slice p xs.length cap, .slice pu nu cu] 37)) (by (repeat (first | exact Keeps.refl _ | refine Keeps.alloc ?_ _ | refine Keeps.drew ?_))) hg1 (fun k hk => by simp [Value.ownBlock] at hk; simp; omega)).cell hb1); simp only [List.nil_append] at hv1; obtain ⟨p1, c1, rfl⟩ := hv1.shape)
    | (refine stepSh rfl (.tmp 6) (.tmp 9) rfl w _ xs rfl ?_ _ _ _ [.slice pu nu cu] [c] rfl rfl ?_ (RowsS.one hu) ?_ ?_ ?_; (focus first | exact hv1 | exact hv1.keeps ((Keeps.refl _).alloc _)); (focus first | exact At.lit1 _ _ _ | (refine At.of1 (grown_cellB hg1 ?_ (cell_newN ?_)) <;> (simp; done)) | (refine At.of1 (grown_cellB hg1 ?_ (cell_newN2 ?_)) <;> (simp; done))); (focus first | exact kW.size | (have := kW.size; simp; omega)); (focus first | (simp; done) | (simp; omega)); intro v2 w2 hv2 hg2 hr2))
  all_goals
    go_wp2
    go_ret
    refine ⟨_, rfl, hv2, ?_⟩
    first
    | exact kW.grown hg2 hr2
    | exact (kW.alloc _).grown hg2 hr2
end Go.Proofs.YtodeecmhcfbheaaGreat
