/- newTypes: what its loops keep. -/
import Derived.Test.YtgnehffglhbggaaGreatGNT
import Derived.Deep.AppendLies
import Derived.Test.YtgnehffglhbggaaGreatGU1
import Derived.Test.YtgnehffglhbggaaGreatGNP
import Derived.Test.YtgnehffglhbggaaGreatGMW
namespace Go.Proofs.YtgnehffglhbggaaGreat
open Go.RowKit
theorem Touch.push {a b c : World} {S : Nat → Prop} {row : Option Nat} (h : Touch a b S) (g : b.grownBy c row) (hr : ∀ k, row = some k → a.heap.size ≤ k ∨ S k) : Touch a c S :=
  ⟨g.os.trans h.os, g.tape.trans h.tape, g.output.trans h.output, Nat.le_trans h.size g.size, fun i hi hs =>
    (g.block i (Nat.lt_of_lt_of_le hi h.size) (fun e => by rcases hr i e.symm with h1 | h1; omega; exact hs h1)).trans (h.block i hi hs)⟩
theorem Touch.keeps {a b c : World} {S : Nat → Prop} (h : Touch a b S) (k : Keeps b c) : Touch a c S := h.trans (Touch.of_keeps k _)
theorem Touch.cellOf {a b : World} {S : Nat → Prop} (h : Touch a b S) {g o : Nat} {v : Value} (hs : ¬ S g) (hc : a.cell? ⟨g, o, none⟩ = some v) : b.cell? ⟨g, o, none⟩ = some v :=
  ((h.cell (World.block_lt_of_cell? a _ hc) hs).1 o).trans hc
/-- the needs of the first parts -/
def neT (E : List Fm) (N i : Nat) : List Nee := ((List.range i).filter fun j => isMo (E.getD j .fls)).map (nee E N)
theorem neT_yes {E : List Fm} {N i : Nat} (h : isMo (E.getD i .fls) = true) : neT E N (i + 1) = neT E N i ++ [nee E N i] := by
  unfold neT
  rw [range_take (fun j => isMo (E.getD j .fls)) i, if_pos h, List.map_append]
  rfl
theorem neT_no {E : List Fm} {N i : Nat} (h : isMo (E.getD i .fls) = false) : neT E N (i + 1) = neT E N i := by
  unfold neT
  rw [range_take (fun j => isMo (E.getD j .fls)) i, if_neg (by rw [h]; simp), List.append_nil]
theorem neT_len (E : List Fm) (N i : Nat) : (neT E N i).length ≤ i := by
  unfold neT
  rw [List.length_map]
  exact Nat.le_trans (List.length_filter_le _ _) (by simp)
theorem neT_end (E : List Fm) (N : Nat) : neT E N E.length = nees E N := rfl
theorem map_range_next {α : Type} (f : Nat → α) (k : Nat) : (List.range (k + 1)).map f = (List.range k).map f ++ [f k] := by rw [List.range_succ, List.map_append]; rfl
/-- elementary formulas and what is below a modality -/
theorem el_case {t : Fm} (h : isEl t = true) : (isMo t = false ∧ t.kind = 0) ∨ (isMo t = true ∧ (t.kind = 5 ∨ t.kind = 6) ∧ t.kind = (if isBx t then 5 else 6) ∧ ∃ x, t.enc = x :: ((below t).enc ++ [])) := by
  cases t <;> simp [isEl] at h <;> simp [isMo, isBx, Fm.kind, below, Fm.enc]
theorem below_sub {t x : Fm} (h : isMo t = true) (hx : x ∈ subs (below t)) : x ∈ subs t := by
  cases t <;> simp [isMo] at h <;> exact List.mem_cons_of_mem _ hx
theorem elF_sub {G : List Fm} (hG : Fine G) {t x : Fm} (ht : t ∈ elF G) (hm : isMo t = true) (hx : x ∈ subs (below t)) (he : isEl x = true) : x ∈ elF G := by
  rw [elF_mem hG]
  refine ⟨?_, he⟩
  obtain ⟨h1, _⟩ := (elF_mem hG).1 ht
  unfold subG at *
  obtain ⟨g, hg, h2⟩ := List.mem_flatMap.1 h1
  exact List.mem_flatMap.2 ⟨g, hg, subs_trans h2 x (below_sub hm hx)⟩
theorem elF_of {G : List Fm} (hG : Fine G) {t x : Fm} (ht : t ∈ G) (hx : x ∈ subs t) (he : isEl x = true) : x ∈ elF G := by
  rw [elF_mem hG]
  exact ⟨List.mem_flatMap.2 ⟨t, ht, hx⟩, he⟩
theorem elF_isEl {G : List Fm} (hG : Fine G) {t : Fm} (ht : t ∈ elF G) : isEl t = true := ((elF_mem hG).1 ht).2
theorem getD_mem {E : List Fm} {i : Nat} (h : i < E.length) : E.getD i .fls ∈ E := by
  rw [List.getD_eq_getElem?_getD, List.getElem?_eq_getElem h]
  exact List.getElem_mem h
--
theorem OwnNe.neeT {w6 wr : World} {r C g : Nat} {v c0 c1 c2 c3 c4 c5 : Value} {ns : List Nee} (h : OwnNe w6 C v ns) (hb : BoxT w6 r c0 c1 c2 c3 c4 c5) (t : Touch w6 wr (fun i => i = r)) (hl : ns.length ≤ 8) (hn : ∀ n ∈ ns, n.inn.length ≤ 2147483648) (hg : w6.heap.size ≤ g) : NeeO wr g v ns := by
  have ht : ∀ us, w6.ownsRow C 108 3 v ns.length (neCells ns us) → RowsB w6 C us (ns.map Nee.inn) → wr.ownsRow C 108 3 v ns.length (neCells ns us) ∧ RowsB wr C us (ns.map Nee.inn) := fun us a b =>
    ⟨own_touch a t (fun i e hi => by rw [show i = r from hi] at e; exact type_ne hb a (by decide) rfl e), b.touch t (fun i hi e => by
      obtain ⟨j, hj, e2⟩ := hi
      rw [show i = r from e] at e2
      exact type_ne hb (b.2 j hj (by have := b.1; omega)) (by decide) rfl e2)⟩
  have h2 : OwnNe wr C v ns := by
    obtain ⟨us, a, b⟩ := h
    exact ⟨us, (ht us a b).1, (ht us a b).2⟩
  exact h2.neeO hl hn h ht hg
/-- the first loop -/
structure Nw1 (w3 wr : World) (r C : Nat) (lg pv : Value) (N : Nat) (v2 : Value) (ns : List Nee) : Prop where
  box : BoxT wr r lg pv v2 (.int .i64 N) (.slice none 0 0) (.slice none 0 0)
  ne : OwnNe wr C v2 ns
  to : Touch w3 wr (fun i => i = r)
theorem Nw1.keeps {w3 wr w' : World} {r C N : Nat} {lg pv v2 : Value} {ns : List Nee} (h : Nw1 w3 wr r C lg pv N v2 ns) (k : Keeps wr w') : Nw1 w3 w' r C lg pv N v2 ns := ⟨h.box.keeps k, h.ne.keeps k, h.to.keeps k⟩
theorem Nw1.push {w3 w5 w6 : World} {r N : Nat} {lg pv v2 v2' : Value} {ns ms : List Nee} (h : Nw1 w3 w5 r w3.heap.size lg pv N v2 ns) (g : w5.grownBy w6 v2.ownBlock) (hr : ∀ k, v2.ownBlock = some k → w3.heap.size ≤ k) (h6 : OwnNe w6 w3.heap.size v2' ms) :
    Nw1 w3 (w6.setCell ⟨r, 2, none⟩ v2') r w3.heap.size lg pv N v2' ms := by
  obtain ⟨us, ho, _⟩ := h.ne
  have hb6 : BoxT w6 r lg pv v2 (.int .i64 N) (.slice none 0 0) (.slice none 0 0) := h.box.other ho (by decide) (fun i hi => hi.symm) (Touch.grown g)
  have g7 := hb6.grown 2 v2'
  exact ⟨hb6.set2 v2', h6.other hb6 (by decide) (by decide) (fun i hi => by rw [show i = r by simpa using hi]; rfl) (Touch.grown g7), (h.to.push g (fun k e => .inl (hr k e))).push g7 (fun k e => .inr (by simpa using e.symm))⟩
/-- a need in its box -/
def BoxNe (w : World) (g : Nat) (a b c : Value) : Prop := w.ownsRow g 108 3 (.slice (some ⟨g, 0, none⟩) 1 1) 1 [a, b, c]
theorem BoxNe.made (w : World) (a b c : Value) : BoxNe (w.alloc (.cells #[a, b, c] 108)) w.heap.size a b c := by
  have h := World.ownsRow_lit (base := w.heap.size) (e := 108) (size := 3) w #[a, b, c] 1 (Nat.le_refl _) (by simp [maxLen]) (by simp)
  simpa [BoxNe] using h
theorem BoxNe.cell0 {w : World} {g : Nat} {a b c : Value} (h : BoxNe w g a b c) : w.cell? ⟨g, 0, none⟩ = some a := by rw [World.ownsRow.cellAt h 0 (by omega)]; rfl
theorem BoxNe.cell1 {w : World} {g : Nat} {a b c : Value} (h : BoxNe w g a b c) : w.cell? ⟨g, 1, none⟩ = some b := by rw [World.ownsRow.cellAt h 1 (by omega)]; rfl
theorem BoxNe.cell2 {w : World} {g : Nat} {a b c : Value} (h : BoxNe w g a b c) : w.cell? ⟨g, 2, none⟩ = some c := by rw [World.ownsRow.cellAt h 2 (by omega)]; rfl
theorem BoxNe.froz {w : World} {g : Nat} {a b c : Value} (h : BoxNe w g a b c) (i : Nat) : w.frozen? ⟨g, i, none⟩ = false := World.ownsRow.frozenAt h i
theorem BoxNe.keeps {w w' : World} {g : Nat} {a b c : Value} (h : BoxNe w g a b c) (k : Keeps w w') : BoxNe w' g a b c := own_keeps h k
theorem BoxNe.far {w w' : World} {g : Nat} {a b c : Value} {row : Option Nat} (h : BoxNe w g a b c) (k : w.grownBy w' row) (hn : ∀ j, row = some j → j ≠ g) : BoxNe w' g a b c :=
  own_touch h (Touch.grown k) (fun i e hi => by
    have e2 : g = i := by simpa [Value.ownBlock] using e
    exact hn i hi.symm e2.symm)
/-- the second loop: one more truth value -/
structure Nw2 (wr wq : World) (g : Nat) (a b c : Value) (bs : List Bool) : Prop where
  box : BoxNe wq g a b c
  row : OwnB wq wr.heap.size c bs
  kp : Keeps wr wq
  hg : wr.heap.size ≤ g
theorem Nw2.keeps {wr wq w' : World} {g : Nat} {a b c : Value} {bs : List Bool} (h : Nw2 wr wq g a b c bs) (k : Keeps wq w') : Nw2 wr w' g a b c bs := ⟨h.box.keeps k, h.row.keeps k, h.kp.trans k, h.hg⟩
theorem Nw2.push {wr w5 w6 : World} {g : Nat} {a b c c' : Value} {bs cs : List Bool} (h : Nw2 wr w5 g a b c bs) (gr : w5.grownBy w6 c.ownBlock) (h6 : OwnB w6 wr.heap.size c' cs) : Nw2 wr (w6.setCell ⟨g, 2, none⟩ c') g a b c' cs := by
  have hb6 : BoxNe w6 g a b c := own_touch h.box (Touch.grown gr) (fun i e hi => type_ne h.row h.box (by decide) hi.symm e)
  have hs := World.ownsRow.stored hb6 2 c'
  refine ⟨hs.1, h6.touch (Touch.grown hs.2) (fun i e hi => type_ne hb6 h6 (by decide) (k := i) (by rw [show i = g by simpa using hi]; rfl) e), (h.kp.grown gr (fun k e => (h.row.len k e).1)).setCell h.hg c', h.hg⟩
/-- the third loop -/
structure Nw3 (w3 wr : World) (r : Nat) (lg pv v2 : Value) (N : Nat) (v4 v5 : Value) (R S : List Bool) : Prop where
  box : BoxT wr r lg pv v2 (.int .i64 N) v4 v5
  r4 : OwnB wr w3.heap.size v4 R
  r5 : OwnB wr w3.heap.size v5 S
  ap : ∀ k, v4.ownBlock = some k → v5.ownBlock ≠ some k
  to : Touch w3 wr (fun i => i = r)
theorem Nw3.keeps {w3 wr w' : World} {r N : Nat} {lg pv v2 v4 v5 : Value} {R S : List Bool} (h : Nw3 w3 wr r lg pv v2 N v4 v5 R S) (k : Keeps wr w') : Nw3 w3 w' r lg pv v2 N v4 v5 R S := ⟨h.box.keeps k, h.r4.keeps k, h.r5.keeps k, h.ap, h.to.keeps k⟩
theorem Nw3.push4 {w3 w5 w6 : World} {r N : Nat} {lg pv v2 v4 v5 v' : Value} {R S R' : List Bool} (h : Nw3 w3 w5 r lg pv v2 N v4 v5 R S) (gr : w5.grownBy w6 v4.ownBlock) (h6 : OwnB w6 w3.heap.size v' R') (hn : ∀ k, v'.ownBlock = some k → v4.ownBlock = some k ∨ w5.heap.size ≤ k) : Nw3 w3 (w6.setCell ⟨r, 4, none⟩ v') r lg pv v2 N v' v5 R' S := by
  have hb6 : BoxT w6 r lg pv v2 (.int .i64 N) v4 v5 := h.box.other h.r4 (by decide) (fun i hi => hi.symm) (Touch.grown gr)
  have g7 := hb6.grown 4 v'
  have h5 : OwnB w6 w3.heap.size v5 S := h.r5.touch (Touch.grown gr) (fun i e hi => h.ap i hi.symm e)
  have hS : ∀ (u : Value) (l : List Bool), OwnB w6 w3.heap.size u l → OwnB (w6.setCell ⟨r, 4, none⟩ v') w3.heap.size u l := fun u l hu => hu.touch (Touch.grown g7) (fun i e hi => type_ne hb6 hu (by decide) (k := i) (by rw [show i = r by simpa using hi]; rfl) e)
  exact ⟨hb6.set4 v', hS _ _ h6, hS _ _ h5, fun k e e5 => by
    rcases hn k e with h1 | h1
    · exact h.ap k h1 e5
    · have := (h.r5.len k e5).2; omega, (h.to.push gr (fun k e => .inl (h.r4.len k e).1)).push g7 (fun k e => .inr (by simpa using e.symm))⟩
theorem Nw3.push5 {w3 w5 w6 : World} {r N : Nat} {lg pv v2 v4 v5 v' : Value} {R S S' : List Bool} (h : Nw3 w3 w5 r lg pv v2 N v4 v5 R S) (gr : w5.grownBy w6 v5.ownBlock) (h6 : OwnB w6 w3.heap.size v' S') (hn : ∀ k, v'.ownBlock = some k → v5.ownBlock = some k ∨ w5.heap.size ≤ k) : Nw3 w3 (w6.setCell ⟨r, 5, none⟩ v') r lg pv v2 N v4 v' R S' := by
  have hb6 : BoxT w6 r lg pv v2 (.int .i64 N) v4 v5 := h.box.other h.r5 (by decide) (fun i hi => hi.symm) (Touch.grown gr)
  have g7 := hb6.grown 5 v'
  have h4 : OwnB w6 w3.heap.size v4 R := h.r4.touch (Touch.grown gr) (fun i e hi => h.ap i e hi.symm)
  have hS : ∀ (u : Value) (l : List Bool), OwnB w6 w3.heap.size u l → OwnB (w6.setCell ⟨r, 5, none⟩ v') w3.heap.size u l := fun u l hu => hu.touch (Touch.grown g7) (fun i e hi => type_ne hb6 hu (by decide) (k := i) (by rw [show i = r by simpa using hi]; rfl) e)
  exact ⟨hb6.set5 v', hS _ _ h4, hS _ _ h6, fun k e e5 => by
    rcases hn k e5 with h1 | h1
    · exact h.ap k e h1
    · have := (h.r4.len k e).2; omega, (h.to.push gr (fun k e => .inl (h.r5.len k e).1)).push g7 (fun k e => .inr (by simpa using e.symm))⟩
theorem Nw2.box6 {wr w5 w6 : World} {g : Nat} {a b c : Value} {bs : List Bool} (h : Nw2 wr w5 g a b c bs) (gr : w5.grownBy w6 c.ownBlock) : BoxNe w6 g a b c :=
  own_touch h.box (Touch.grown gr) (fun i e hi => type_ne h.row h.box (by decide) hi.symm e)
theorem Nw1.box6 {w3 w5 w6 : World} {r C N : Nat} {lg pv v2 : Value} {ns : List Nee} (h : Nw1 w3 w5 r C lg pv N v2 ns) (g : w5.grownBy w6 v2.ownBlock) : BoxT w6 r lg pv v2 (.int .i64 N) (.slice none 0 0) (.slice none 0 0) := by
  obtain ⟨us, ho, _⟩ := h.ne
  exact h.box.other ho (by decide) (fun i hi => hi.symm) (Touch.grown g)
theorem Nw3.box4 {w3 w5 w6 : World} {r N : Nat} {lg pv v2 v4 v5 : Value} {R S : List Bool} (h : Nw3 w3 w5 r lg pv v2 N v4 v5 R S) (gr : w5.grownBy w6 v4.ownBlock) : BoxT w6 r lg pv v2 (.int .i64 N) v4 v5 := h.box.other h.r4 (by decide) (fun i hi => hi.symm) (Touch.grown gr)
theorem Nw3.box5 {w3 w5 w6 : World} {r N : Nat} {lg pv v2 v4 v5 : Value} {R S : List Bool} (h : Nw3 w3 w5 r lg pv v2 N v4 v5 R S) (gr : w5.grownBy w6 v5.ownBlock) : BoxT w6 r lg pv v2 (.int .i64 N) v4 v5 := h.box.other h.r5 (by decide) (fun i hi => hi.symm) (Touch.grown gr)
theorem OwnB.shape0 {w : World} {B : Nat} {v : Value} {a : List Bool} (h : OwnB w B v a) : ∃ p c, v = .slice p a.length c := by
  obtain ⟨p, c, e, _⟩ := At.of_own h
  exact ⟨p, c, e⟩
theorem OwnL.shapeV {w : World} {B : Nat} {v : Value} {xs : List (List Nd)} (h : OwnL w B v xs) : ∃ p n c, v = .slice p n c := by
  obtain ⟨vs, ho, _⟩ := h
  obtain ⟨p, c, e, _⟩ := At.of_own ho
  exact ⟨p, _, c, e⟩
theorem OwnL.touchV {w w' : World} {S : Nat → Prop} {B : Nat} {v : Value} {xs : List (List Nd)} (h : OwnL w B v xs) (k : Touch w w' S) (hS : ∀ i, B ≤ i → ¬ S i) : OwnL w' B v xs := by
  obtain ⟨vs, ho, hr, ha, hf⟩ := h
  exact ⟨vs, own_touch ho k (fun i e => hS i (World.ownsRow.lt ho i e).1), hr.touch k (fun i e => hS i (hr.lt e).1), ha, hf⟩
/-- one elementary part -/
theorem ElL.getE {w : World} {p : Option Addr} {n cap : Nat} {ss : List ByteArray} {E : List Fm} (h : ElL w (.slice p n cap) ss (E.map Fm.enc)) (i : Nat) (h1 : i < ss.length) (h2 : i < E.length) :
    ∃ b off u, p = some ⟨b, off, none⟩ ∧ w.cell? ⟨b, off + i * 2, none⟩ = some (.string ss[i]) ∧ w.cell? ⟨b, off + i * 2 + 1, none⟩ = some u ∧ Nds w u (E.getD i .fls).enc := by
  obtain ⟨p', cap', e, _, _, _, _, hget⟩ := h
  cases e
  obtain ⟨b, off, u, a1, a2, a3, a4⟩ := hget i h1 (by simpa using h2)
  refine ⟨b, off, u, a1, a2, a3, ?_⟩
  have : (E.map Fm.enc)[i]'(by simpa using h2) = (E.getD i .fls).enc := by
    rw [List.getElem_map, List.getD_eq_getElem?_getD, List.getElem?_eq_getElem h2]; rfl
  rw [← this]; exact a4
/-- an append within a drawn region, and where the new row lies -/
theorem stepBL {w : World} {ops : Array Oper} {o : Oper} {a : Act} {K : Act → World → Prop} {Q : Exit → Act → World → Prop} {E : Prop} (hgd : o.guard = none) (s x : Operand)
    (ho : o.op = .call { callee := .builtin .append, args := #[s, x], argTypes := #[77, 77] }) (base : Nat) (v : Value) (xs : List Bool) (hs : a.eval s = v) (hown : OwnB w base v xs)
    (u : Value) (y : Bool) (hx : a.eval x = u) (hu : Bools w u [y]) (hbase : base ≤ w.heap.size) (hlen : xs.length ≤ 1000000)
    (h : ∀ v' w', OwnB w' base v' (xs ++ [y]) → w.grownBy w' v.ownBlock → (∀ k, v.ownBlock = some k → base ≤ k) → (∀ k, v'.ownBlock = some k → v.ownBlock = some k ∨ w.heap.size ≤ k) → K (a.put o.dst v') w') : if Region.wanted o (yielded ops a.tmps) = true then Oper.wp Tryz.prog o a w K Q else E := by
  rw [if_pos (by simp [Region.wanted, hgd])]
  obtain ⟨i0, hi, hz0, hz1, hz2⟩ := info_parts infoB
  obtain ⟨p, cap, rfl, _, _, hat, _⟩ := hu
  obtain ⟨b, off, rfl, hc⟩ := hat 0 (by simp [boolCells])
  refine wp_append_lies w s x _ ho base _ i0 _ 1 1 Tryz.underlying77 hi hz0 hz1 hz2 rfl (by decide) v _ _ hs hown ⟨b, off, none⟩ 1 cap [.bool y] hx (by simp) ?_ (by simp [Value.oneCell']) (by omega) (by unfold maxLen; omega) (by omega) hbase _ rfl ?_
  · intro j u hj
    cases j with
    | zero => simp at hj; subst hj; simpa [Addr.add, boolCells] using hc
    | succ j => simp at hj
  · intro g c' w' h2 h3 h4 h5
    refine h _ w' ?_ h3 (fun k e => (World.ownsRow.lt hown k e).1) (fun k e => ?_)
    · unfold OwnB
      rw [List.length_append, show boolCells (xs ++ [y]) = boolCells xs ++ [.bool y] by simp [boolCells]]
      exact h2
    · have : k = g := by simpa [Value.ownBlock] using e.symm
      subst this
      rcases h4 with h4 | h4
      · exact .inl h4
      · exact .inr (by omega)
end Go.Proofs.YtgnehffglhbggaaGreat
/- What stands behind a place of a slice of node lists. -/
namespace Go.Proofs.YtgnehffglhbggaaGreat
open Go.RowKit
theorem sizeOfL (w : World) : (sizeOf 46).run Tryz.prog w = .ok 1 w := by
  obtain ⟨i0, hi, hz0, hz1, hz2⟩ := info_parts infoL
  simp [sizeOf, typeInfo, hi, hz1]
theorem tailL (b off m cap l : Nat) (i : Int) (hi : i = l) (hl : l ≤ m) (hc : m ≤ cap) :
    ∃ q, (∀ (w : World) (vs : List Value), At w (some ⟨b, off, none⟩) vs → vs.length = m → At w q (vs.drop l)) ∧
      ∀ wx, (Instr.slice 67 (.slice (some ⟨b, off, none⟩) m cap) (some (.int .i64 i)) none none).run Tryz.prog wx = .ok (.slice q (m - l) (cap - l)) wx := by
  subst hi
  have hT : Tryz.prog.underlying 67 = some (.slice (Tryz.prog.elem 67)) := by kernel_rfl
  have hE : Tryz.prog.elem 67 = 46 := by kernel_rfl
  refine ⟨if cap = l then some ⟨b, off, none⟩ else some ⟨b, off + l, none⟩, fun w vs h hvl => ?_, fun wx => ?_⟩
  · split
    · rename_i e
      have : vs.drop l = [] := List.drop_eq_nil_of_le (by omega)
      rw [this]
      exact At.nil _ _
    · exact h.drop l rfl
  · rw [run_slice_l (P := Tryz.prog) wx 67 (some ⟨b, off, none⟩) m cap hT .i64 (l : Int) (by omega) (by omega), hE, sizeOfL]
    simp only [Result.andThen_ok, sliced, Int.toNat_natCast, Nat.mul_one, Option.map_some]
    have hadd : (⟨b, off, none⟩ : Addr).add l = ⟨b, off + l, none⟩ := by unfold Addr.add; split <;> simp_all
    rw [hadd]
end Go.Proofs.YtgnehffglhbggaaGreat
/- The reference's space while it is made: its box, the rows in it. -/
namespace Go.Proofs.YtgnehffglhbggaaGreat
open Go.RowKit
/-- a struct in a box of the call's own -/
def BoxG (w : World) (r : Nat) (T : TypeId) (cs : List Value) : Prop := w.ownsRow r T cs.length (.slice (some ⟨r, 0, none⟩) 1 1) 1 cs
section
variable {w w' : World} {r : Nat} {T : TypeId} {cs : List Value}
theorem BoxG.cell (h : BoxG w r T cs) (i : Nat) (hi : i < cs.length) : w.cell? ⟨r, i, none⟩ = some cs[i] := by
  rw [World.ownsRow.cellAt h i (by omega)]
  exact List.getElem?_eq_getElem hi
theorem BoxG.froz (h : BoxG w r T cs) (i : Nat) : w.frozen? ⟨r, i, none⟩ = false := World.ownsRow.frozenAt h i
theorem BoxG.lt (h : BoxG w r T cs) : r < w.heap.size := (World.ownsRow.lt h r rfl).2
theorem BoxG.set (h : BoxG w r T cs) (i : Nat) (x : Value) : BoxG (w.setCell ⟨r, i, none⟩ x) r T (cs.set i x) := by
  have := (World.ownsRow.stored h i x).1
  unfold BoxG
  rw [List.length_set]
  exact this
theorem BoxG.grown (h : BoxG w r T cs) (i : Nat) (x : Value) : w.grownBy (w.setCell ⟨r, i, none⟩ x) (some r) := (World.ownsRow.stored h i x).2
theorem BoxG.keeps (h : BoxG w r T cs) (k : Keeps w w') : BoxG w' r T cs := own_keeps h k
theorem BoxG.other {B s m : Nat} {T' : TypeId} {u : Value} {ds : List Value} (h : BoxG w r T cs) (ho : w.ownsRow B T' s u m ds) (t : T' ≠ T) (k : w.grownBy w' u.ownBlock) : BoxG w' r T cs :=
  own_touch h (Touch.grown k) (fun _i e hi => type_ne ho h t hi.symm e)
theorem BoxG.made (w : World) (T : TypeId) (cs : List Value) (_h0 : 0 < cs.length) (_h1 : cs.length ≤ 1000) : BoxG (w.alloc (.cells cs.toArray T)) w.heap.size T cs := by
  have h := World.ownsRow_lit (base := w.heap.size) (e := T) (size := cs.length) w cs.toArray 1 (Nat.le_refl _) (by unfold maxLen; omega) (by simp)
  simpa [BoxG] using h
/-- a row of another type stays where the box is written -/
theorem own_boxed {B s m : Nat} {T' : TypeId} {u : Value} {ds : List Value} {i : Nat} {x : Value} (ho : w.ownsRow B T' s u m ds) (h : BoxG w r T cs) (t : T ≠ T') : (w.setCell ⟨r, i, none⟩ x).ownsRow B T' s u m ds :=
  own_touch ho (Touch.grown (h.grown i x)) (fun j e hi => by
    have : j = r := by simpa using hi
    subst this
    exact type_ne h ho t rfl e)
theorem Touch.ofBox {a : World} {S : Nat → Prop} {i : Nat} {x : Value} (t : Touch a w S) (h : BoxG w r T cs) (hr : S r) : Touch a (w.setCell ⟨r, i, none⟩ x) S :=
  t.push (h.grown i x) (fun k e => .inr (by have : r = k := by simpa using e
                                            subst this; exact hr))
end
/-! ### what is boxed -/
/-- a list without its first node -/
def tlV : Value → Value
  | .slice (some ⟨g, 0, none⟩) m cap => .slice (if cap = 1 then some ⟨g, 0, none⟩ else some ⟨g, 2, none⟩) (m - 1) (cap - 1)
  | v => v
theorem sizeOfN1 (w : World) : (sizeOf 89).run Tryz.prog w = .ok 2 w := by
  obtain ⟨i0, hi, hz0, hz1, hz2⟩ := info_parts infoN
  simp [sizeOf, typeInfo, hi, hz1]
theorem slice1 (g m cap : Nat) (hl : 1 ≤ m) (_hc : m ≤ cap) (wx : World) :
    (Instr.slice 46 (.slice (some ⟨g, 0, none⟩) m cap) (some (.int .i64 1)) none none).run Tryz.prog wx = .ok (tlV (.slice (some ⟨g, 0, none⟩) m cap)) wx := by
  have hT : Tryz.prog.underlying 46 = some (.slice (Tryz.prog.elem 46)) := by kernel_rfl
  have hE : Tryz.prog.elem 46 = 89 := by kernel_rfl
  rw [run_slice_l (P := Tryz.prog) wx 46 (some ⟨g, 0, none⟩) m cap hT .i64 1 (by omega) (by omega), hE, sizeOfN1]
  simp only [Result.andThen_ok, sliced, Option.map_some]
  rfl
theorem tail1 (g m cap : Nat) (hl : 1 ≤ m) (hc : m ≤ cap) (hm : cap ≤ maxLen) (w : World) (B : Nat) (a : List Nd) (h : OwnN w B (.slice (some ⟨g, 0, none⟩) m cap) a) (ha : a.length ≤ 2147483648) : Nds w (tlV (.slice (some ⟨g, 0, none⟩) m cap)) (a.drop 1) := by
  have h0 := h
  obtain ⟨_, _, e, _, _, hat, _⟩ := h.nds ha
  injection e with e1 e2 e3
  subst e1; subst e2; subst e3
  have hdl : (a.drop 1).length = a.length - 1 := by simp
  refine ⟨_, cap - 1, by rw [hdl]; rfl, by omega, by omega, ?_, by omega⟩
  split
  · have : a.drop 1 = [] := List.drop_eq_nil_of_le (by omega)
    rw [this]; exact At.nil _ _
  · intro j hj
    have hcd : ∀ (x : List Nd), ndCells (x.drop 1) = (ndCells x).drop 2 := by
      intro x
      cases x with
      | nil => rfl
      | cons y x => simp [ndCells]
    have hj2 : 2 + j < (ndCells a).length := by
      rw [hcd] at hj
      simp at hj
      omega
    obtain ⟨b', off', hp, hc'⟩ := hat (2 + j) hj2
    cases hp
    refine ⟨g, _, rfl, ?_⟩
    have e2 : (ndCells (a.drop 1))[j]? = (ndCells a)[2 + j]? := by rw [hcd, List.getElem?_drop]
    rw [List.getElem?_eq_getElem hj, List.getElem?_eq_getElem hj2] at e2
    rw [show 2 + j = 0 + (2 + j) by omega, hc']
    exact e2.symm
/-- rows of formulas without their first nodes -/
def InnL (w : World) (C : Nat) (v : Value) (ts : List Fm) : Prop := ∃ us, w.ownsRow C 46 1 v ts.length (us.map tlV) ∧ RowsN w C us (ts.map Fm.enc) ∧ ∀ u ∈ us, ∃ g m c, u = .slice (some ⟨g, 0, none⟩) m c
theorem InnL.keeps {w w' : World} {C : Nat} {v : Value} {ts : List Fm} (h : InnL w C v ts) (k : Keeps w w') : InnL w' C v ts := by
  obtain ⟨us, h1, h2, h3⟩ := h
  exact ⟨us, own_keeps h1 k, h2.keeps k, h3⟩
theorem InnL.empty (w : World) : InnL (w.alloc (.cells #[] 46)) w.heap.size (.slice (some ⟨w.heap.size, 0, none⟩) 0 0) [] :=
  ⟨[], World.ownsRow_made w #[] 0 (Nat.le_refl _) (by simp [maxLen]) (by simp), RowsN.nil _ _, fun u h => by cases h⟩
theorem InnL.mono {w : World} {C C' : Nat} {v : Value} {ts : List Fm} (h : InnL w C v ts) (k : C' ≤ C) : InnL w C' v ts := by
  obtain ⟨us, h1, h2, h3⟩ := h
  exact ⟨us, own_mono h1 k, h2.mono k, h3⟩
theorem InnL.touch {w w' : World} {C : Nat} {v : Value} {ts : List Fm} {S : Nat → Prop} (h : InnL w C v ts) (k : Touch w w' S) (hS : ∀ i, S i → ∃ r T s cs, w.ownsRow r T s (.slice (some ⟨i, 0, none⟩) 1 1) 1 cs ∧ T ≠ 46 ∧ T ≠ 89) : InnL w' C v ts := by
  obtain ⟨us, h1, h2, h3⟩ := h
  refine ⟨us, own_touch h1 k (fun i e hi => ?_), h2.touch k (fun i hb hi => ?_), h3⟩
  · obtain ⟨r, T, s, cs, ho, t1, _⟩ := hS i hi
    exact type_ne ho h1 t1 rfl e
  · obtain ⟨r, T, s, cs, ho, _, t2⟩ := hS i hi
    obtain ⟨j, hj, e⟩ := hb
    exact type_ne ho (h2.2 j hj (by have := h2.1; omega)) t2 rfl e
theorem InnL.boxed {w : World} {C r i : Nat} {v x : Value} {ts : List Fm} {T : TypeId} {cs : List Value} (h : InnL w C v ts) (hb : BoxG w r T cs) (t1 : T ≠ 46) (t2 : T ≠ 89) : InnL (w.setCell ⟨r, i, none⟩ x) C v ts := by
  obtain ⟨us, h1, h2, h3⟩ := h
  refine ⟨us, own_boxed h1 hb t1, ⟨h2.1, fun j a b => own_boxed (h2.2 j a b) hb t2⟩, h3⟩
theorem InnL.touchR {w w' : World} {C r : Nat} {v : Value} {ts : List Fm} {T : TypeId} {cs : List Value} (h : InnL w C v ts) (hb : BoxG w r T cs) (t1 : T ≠ 46) (t2 : T ≠ 89) (k : Touch w w' (fun i => i = r)) : InnL w' C v ts :=
  h.touch k (fun i hi => ⟨r, T, cs.length, cs, by
    have e : i = r := hi
    subst e
    exact hb, t1, t2⟩)
/-- another row of numbers grows -/
theorem InnL.grownI {w w' : World} {C B : Nat} {v u : Value} {ts : List Fm} {a : List Int} (h : InnL w C v ts) (ho : OwnI w B u a) (k : w.grownBy w' u.ownBlock) : InnL w' C v ts := by
  obtain ⟨us, h1, h2, h3⟩ := h
  refine ⟨us, own_touch h1 (Touch.grown k) (fun i e hi => type_ne ho h1 (by decide) hi.symm e), h2.touch (Touch.grown k) (fun i hb hi => ?_), h3⟩
  obtain ⟨j, hj, e⟩ := hb
  exact type_ne ho (h2.2 j hj (by have := h2.1; omega)) (by decide) hi.symm e
theorem InnL.shape {w : World} {C : Nat} {v : Value} {ts : List Fm} (h : InnL w C v ts) : ∃ p c, v = .slice p ts.length c ∧ ts.length ≤ c ∧ c ≤ maxLen := by
  obtain ⟨us, h1, _⟩ := h
  obtain ⟨p, c, e, a, b, _⟩ := At.of_own h1
  exact ⟨p, c, e, a, b⟩
theorem InnL.get {w : World} {C : Nat} {p : Option Addr} {n c : Nat} {ts : List Fm} (h : InnL w C (.slice p n c) ts) (i : Nat) (hi : i < ts.length) (hb : ∀ t ∈ ts, t.enc.length ≤ 1000) :
    ∃ b off x, p = some ⟨b, off, none⟩ ∧ w.cell? ⟨b, off + i, none⟩ = some x ∧ Nds w x (ts[i].enc.drop 1) := by
  obtain ⟨us, h1, h2, h3⟩ := h
  obtain ⟨p', c', e, _, _, hat⟩ := At.of_own h1
  cases e
  have hul : us.length = ts.length := by rw [h2.1, List.length_map]
  obtain ⟨b, off, hp, hc⟩ := hat i (by rw [List.length_map]; omega)
  have hiu : i < us.length := by omega
  have hr := h2.2 i hiu (by simpa using hi)
  obtain ⟨g, m, cc, hu⟩ := h3 us[i] (List.getElem_mem hiu)
  have hlen := hb ts[i] (List.getElem_mem hi)
  have hr' : OwnN w C (.slice (some ⟨g, 0, none⟩) m cc) ts[i].enc := by
    rw [← hu]
    simpa using hr
  have hsh := At.of_own hr'
  obtain ⟨p9, c9, e9, a9, b9, _⟩ := hsh
  cases e9
  refine ⟨b, off, _, hp, hc, ?_⟩
  rw [List.getElem_map, hu]
  exact tail1 g _ _ (by have := Fm.enc_pos ts[i]; omega) a9 b9 w C _ hr' (by omega)
end Go.Proofs.YtgnehffglhbggaaGreat
/- The reference's space while it is made: its stages. -/
namespace Go.Proofs.YtgnehffglhbggaaGreat
open Go.RowKit
/-- the parts whose inner formula is true in a type, as a mask -/
def mskT (E : List Fm) (t : Nat) : Nat → Nat
  | 0 => 0
  | i + 1 => if (isMo (E.getD i .fls) && innB E i t) = true then mskT E t i ||| 2 ^ i else mskT E t i
theorem mskT_lt (E : List Fm) (t : Nat) : ∀ i, mskT E t i < 2 ^ i
  | 0 => by simp [mskT]
  | i + 1 => by
    have h := mskT_lt E t i
    have h2 : 2 ^ i < 2 ^ (i + 1) := Nat.pow_lt_pow_right (by omega) (by omega)
    unfold mskT
    split
    · exact Nat.or_lt_two_pow (by omega) h2
    · omega
theorem mskT_bit (E : List Fm) (t : Nat) : ∀ i j, j < i → (mskT E t i).testBit j = (isMo (E.getD j .fls) && innB E j t)
  | 0, j, h => by omega
  | i + 1, j, h => by
    unfold mskT
    by_cases hj : j < i
    · have ih := mskT_bit E t i j hj
      split
      · rw [Nat.testBit_or, ih, Nat.testBit_two_pow]
        rw [decide_eq_false (by omega), Bool.or_false]
      · exact ih
    · obtain rfl : j = i := by omega
      have hb : (mskT E t j).testBit j = false := Nat.testBit_lt_two_pow (mskT_lt E t j)
      split
      · rename_i h2
        rw [Nat.testBit_or, Nat.testBit_two_pow, hb, h2]
        simp
      · rename_i h2
        rw [hb]
        cases hx : (isMo (E.getD j .fls) && innB E j t)
        · rfl
        · exact absurd hx h2
theorem mskT_yes {E : List Fm} {t i : Nat} (h : (isMo (E.getD i .fls) && innB E i t) = true) : mskT E t (i + 1) = mskT E t i ||| 2 ^ i := by rw [mskT, if_pos h]
theorem mskT_no {E : List Fm} {t i : Nat} (h : (isMo (E.getD i .fls) && innB E i t) = false) : mskT E t (i + 1) = mskT E t i := by rw [mskT, if_neg (by rw [h]; simp)]
def mskM (E : List Fm) (m : Nat) : Nat := mskT E m E.length
theorem mskM_lt {E : List Fm} (h8 : E.length ≤ 8) (m : Nat) : mskM E m < 256 := Nat.lt_of_lt_of_le (mskT_lt E m E.length) (two8 h8)
theorem mskM_bit {E : List Fm} {m i : Nat} (hi : i < E.length) (hm : isMo (E.getD i .fls) = true) : (mskM E m).testBit i = innB E i m := by
  unfold mskM
  rw [mskT_bit E m E.length i hi, hm, Bool.true_and]
theorem natI_map (l : List Nat) (k : Nat) : natI (l ++ [k]) = natI l ++ [(k : Int)] := by simp [natI]
/-- an append of a number, and where the new row lies -/
theorem appILK {w : World} {o : Oper} {a : Act} {K : Act → World → Prop} {Q : Exit → Act → World → Prop} (s x : Operand)
    (ho : o.op = .call { callee := .builtin .append, args := #[s, x], argTypes := #[26, 26] }) (base : Nat) (v : Value) (xs : List Int) (hs : a.eval s = v) (hown : OwnI w base v xs)
    (u : Value) (y : Int) (hx : a.eval x = u) (hu : Ints w u [y]) (hbase : base ≤ w.heap.size) (hlen : xs.length ≤ 1000000)
    (h : ∀ v' w', OwnI w' base v' (xs ++ [y]) → w.grownBy w' v.ownBlock → (∀ k, v.ownBlock = some k → base ≤ k) → (∀ k, v'.ownBlock = some k → v.ownBlock = some k ∨ w.heap.size ≤ k) → K (a.put o.dst v') w') : o.wp Tryz.prog a w K Q := by
  obtain ⟨i0, hi, hz0, hz1, hz2⟩ := info_parts infoI
  obtain ⟨p, cap, rfl, _, _, hat, _⟩ := hu
  obtain ⟨b, off, rfl, hc⟩ := hat 0 (by simp [intCells])
  refine wp_append_lies w s x _ ho base _ i0 _ 1 8 Tryz.underlying26 hi hz0 hz1 hz2 rfl (by decide) v _ _ hs hown ⟨b, off, none⟩ 1 cap [.int .i64 y] hx (by simp) ?_ (by simp [Value.oneCell']) (by omega) (by unfold maxLen; omega) (by omega) hbase _ rfl ?_
  · intro j u hj
    cases j with
    | zero => simp at hj; subst hj; simpa [Addr.add, intCells] using hc
    | succ j => simp at hj
  · intro g c' w' h2 h3 h4 h5
    refine h _ w' ?_ h3 (fun k e => (World.ownsRow.lt hown k e).1) (fun k e => ?_)
    · unfold OwnI
      rw [List.length_append, show intCells (xs ++ [y]) = intCells xs ++ [.int .i64 y] by simp [intCells]]
      exact h2
    · have : k = g := by simpa [Value.ownBlock] using e.symm
      subst this
      rcases h4 with h4 | h4
      · exact .inl h4
      · exact .inr (by omega)
theorem appIL {w : World} {ops : Array Oper} {rest : List Oper} {o : Oper} {a : Act} {Q : Exit → Act → World → Prop} (hgd : o.guard = none) (s x : Operand)
    (ho : o.op = .call { callee := .builtin .append, args := #[s, x], argTypes := #[26, 26] }) (base : Nat) (v : Value) (xs : List Int) (hs : a.eval s = v) (hown : OwnI w base v xs)
    (u : Value) (y : Int) (hx : a.eval x = u) (hu : Ints w u [y]) (hbase : base ≤ w.heap.size) (hlen : xs.length ≤ 1000000)
    (h : ∀ v' w', OwnI w' base v' (xs ++ [y]) → w.grownBy w' v.ownBlock → (∀ k, v.ownBlock = some k → base ≤ k) → (∀ k, v'.ownBlock = some k → v.ownBlock = some k ∨ w.heap.size ≤ k) → wpList Tryz.prog ops Q rest (a.put o.dst v') w') : wpList Tryz.prog ops Q (o :: rest) a w :=
  wpList_plain hgd fun _ hK => appILK s x ho base v xs hs hown u y hx hu hbase hlen fun v' w' h1 h2 h3 h4 => hK _ _ (h v' w' h1 h2 h3 h4)
/-- an inner formula is put behind the row, within a drawn region -/
theorem stepInn {w : World} {ops : Array Oper} {o : Oper} {a : Act} {K : Act → World → Prop} {Q : Exit → Act → World → Prop} {E : Prop} (hgd : o.guard = none) (s x : Operand)
    (ho : o.op = .call { callee := .builtin .append, args := #[s, x], argTypes := #[67, 67] }) (base : Nat) (v : Value) (ts : List Fm) (hs : a.eval s = v)
    (hown : InnL w base v ts) (g m c : Nat) (t : Fm) (hu : OwnN w base (.slice (some ⟨g, 0, none⟩) m c) t.enc) (hbase : base ≤ w.heap.size)
    (p : Option Addr) (cc : Nat) (hx : a.eval x = .slice p 1 cc) (hat : At w p [tlV (.slice (some ⟨g, 0, none⟩) m c)]) (hlen : ts.length ≤ 1000000)
    (h : ∀ v' w', InnL w' base v' (ts ++ [t]) → w.grownBy w' v.ownBlock → (∀ k, v.ownBlock = some k → base ≤ k) → K (a.put o.dst v') w') : if Region.wanted o (yielded ops a.tmps) = true then Oper.wp Tryz.prog o a w K Q else E := by
  rw [if_pos (by simp [Region.wanted, hgd])]
  obtain ⟨i0, hi, hz0, hz1, hz2⟩ := info_parts infoL
  obtain ⟨us, hrow, hr, h3⟩ := hown
  refine wp_append_at s x _ ho _ i0 _ 1 24 Tryz.underlying67 hi hz0 hz1 hz2 rfl (by decide) base v _ _ hs hrow p 1 cc [tlV (.slice (some ⟨g, 0, none⟩) m c)] hx (by simp) hat (by simp [tlV, Value.oneCell']) (by unfold maxLen; omega) (by omega) hbase ?_
  intro v' w' h1 h2 h4
  refine h v' w' ⟨us ++ [.slice (some ⟨g, 0, none⟩) m c], ?_, ?_, ?_⟩ h2 h4
  · rw [List.length_append, List.map_append]
    exact h1
  · rw [List.map_append]
    refine RowsN.snoc ?_ (hr.touch (Touch.grown h2) (fun i hb e => ?_))
    · exact hu.touch (Touch.grown h2) (fun i hi e => type_ne hrow hu (by decide) e.symm hi)
    · obtain ⟨j, hj, e2⟩ := hb
      exact type_ne hrow (hr.2 j hj (by have := hr.1; omega)) (by decide) e.symm e2
  · intro u hu2
    rcases List.mem_append.1 hu2 with h | h
    · exact h3 u h
    · exact ⟨g, m, c, by simpa using h⟩
/-- the first loop: kinds and inner formulas -/
structure Sp1 (w2 wr : World) (r : Nat) (lg pv v2 v3 : Value) (ks : List Int) (ts : List Fm) : Prop where
  box : BoxG wr r 70 [lg, pv, v2, v3, .slice none 0 0, .slice none 0 0, .slice none 0 0, .slice none 0 0]
  kd : OwnI wr w2.heap.size v2 ks
  inn : InnL wr w2.heap.size v3 ts
  kp : Keeps w2 wr
  hr : w2.heap.size ≤ r
theorem Sp1.keeps {w2 wr w' : World} {r : Nat} {lg pv v2 v3 : Value} {ks : List Int} {ts : List Fm} (h : Sp1 w2 wr r lg pv v2 v3 ks ts) (k : Keeps wr w') : Sp1 w2 w' r lg pv v2 v3 ks ts := ⟨h.box.keeps k, h.kd.keeps k, h.inn.keeps k, h.kp.trans k, h.hr⟩
theorem Sp1.boxK {w2 w5 w6 : World} {r : Nat} {lg pv v2 v3 : Value} {ks : List Int} {ts : List Fm} (h : Sp1 w2 w5 r lg pv v2 v3 ks ts) (g : w5.grownBy w6 v2.ownBlock) : BoxG w6 r 70 [lg, pv, v2, v3, .slice none 0 0, .slice none 0 0, .slice none 0 0, .slice none 0 0] := h.box.other h.kd (by decide) g
theorem Sp1.pushK {w2 w5 w6 : World} {r : Nat} {lg pv v2 v3 v' : Value} {ks ks' : List Int} {ts : List Fm} (h : Sp1 w2 w5 r lg pv v2 v3 ks ts) (g : w5.grownBy w6 v2.ownBlock) (h6 : OwnI w6 w2.heap.size v' ks') : Sp1 w2 (w6.setCell ⟨r, 2, none⟩ v') r lg pv v' v3 ks' ts := by
  have hb := h.boxK g
  exact ⟨hb.set 2 v', own_boxed h6 hb (by decide), (h.inn.grownI h.kd g).boxed hb (by decide) (by decide), (h.kp.grown g (fun k e => (h.kd.len k e).1)).setCell h.hr v', h.hr⟩
theorem Sp1.boxI {w2 w5 w6 : World} {r : Nat} {lg pv v2 v3 : Value} {ks : List Int} {ts : List Fm} (h : Sp1 w2 w5 r lg pv v2 v3 ks ts) (g : w5.grownBy w6 v3.ownBlock) : BoxG w6 r 70 [lg, pv, v2, v3, .slice none 0 0, .slice none 0 0, .slice none 0 0, .slice none 0 0] := by
  obtain ⟨us, h1, _⟩ := h.inn
  exact h.box.other h1 (by decide) g
theorem Sp1.pushI {w2 w5 w6 : World} {r : Nat} {lg pv v2 v3 v' : Value} {ks : List Int} {ts ts' : List Fm} (h : Sp1 w2 w5 r lg pv v2 v3 ks ts) (g : w5.grownBy w6 v3.ownBlock) (h6 : InnL w6 w2.heap.size v' ts') : Sp1 w2 (w6.setCell ⟨r, 3, none⟩ v') r lg pv v2 v' ks ts' := by
  have hb := h.boxI g
  obtain ⟨us, h1, _⟩ := h.inn
  have hk : OwnI w6 w2.heap.size v2 ks := own_touch h.kd (Touch.grown g) (fun i e hi => type_ne h1 h.kd (by decide) hi.symm e)
  exact ⟨hb.set 3 v', own_boxed hk hb (by decide), h6.boxed hb (by decide) (by decide), (h.kp.grown g (fun k e => (World.ownsRow.lt h1 k e).1)).setCell h.hr v', h.hr⟩
/-- the second loop: masks and types -/
structure Sp2 (w5 wr : World) (r : Nat) (c0 c1 c2 c3 v4 vt : Value) (M T : List Int) : Prop where
  box : BoxG wr r 70 [c0, c1, c2, c3, v4, .slice none 0 0, .slice none 0 0, .slice none 0 0]
  r4 : OwnI wr w5.heap.size v4 M
  rt : OwnI wr w5.heap.size vt T
  ap : ∀ k, v4.ownBlock = some k → vt.ownBlock ≠ some k
  to : Touch w5 wr (fun i => i = r)
theorem Sp2.keeps {w5 wr w' : World} {r : Nat} {c0 c1 c2 c3 v4 vt : Value} {M T : List Int} (h : Sp2 w5 wr r c0 c1 c2 c3 v4 vt M T) (k : Keeps wr w') : Sp2 w5 w' r c0 c1 c2 c3 v4 vt M T := ⟨h.box.keeps k, h.r4.keeps k, h.rt.keeps k, h.ap, h.to.keeps k⟩
theorem Sp2.box4 {w5 w6 w7 : World} {r : Nat} {c0 c1 c2 c3 v4 vt : Value} {M T : List Int} (h : Sp2 w5 w6 r c0 c1 c2 c3 v4 vt M T) (g : w6.grownBy w7 v4.ownBlock) : BoxG w7 r 70 [c0, c1, c2, c3, v4, .slice none 0 0, .slice none 0 0, .slice none 0 0] := h.box.other h.r4 (by decide) g
theorem Sp2.push4 {w5 w6 w7 : World} {r : Nat} {c0 c1 c2 c3 v4 vt v' : Value} {M M' T : List Int} (h : Sp2 w5 w6 r c0 c1 c2 c3 v4 vt M T) (g : w6.grownBy w7 v4.ownBlock) (h7 : OwnI w7 w5.heap.size v' M') (hn : ∀ k, v'.ownBlock = some k → v4.ownBlock = some k ∨ w6.heap.size ≤ k) :
    Sp2 w5 (w7.setCell ⟨r, 4, none⟩ v') r c0 c1 c2 c3 v' vt M' T := by
  have hb := h.box4 g
  have ht : OwnI w7 w5.heap.size vt T := own_touch h.rt (Touch.grown g) (fun i e hi => h.ap i hi.symm e)
  exact ⟨hb.set 4 v', own_boxed h7 hb (by decide), own_boxed ht hb (by decide), fun k e e5 => by
    rcases hn k e with h1 | h1
    · exact h.ap k h1 e5
    · have := (h.rt.len k e5).2; omega, (h.to.push g (fun k e => .inl (h.r4.len k e).1)).ofBox hb rfl⟩
theorem Sp2.pushT {w5 w6 w7 : World} {r : Nat} {c0 c1 c2 c3 v4 vt v' : Value} {M T T' : List Int} (h : Sp2 w5 w6 r c0 c1 c2 c3 v4 vt M T) (g : w6.grownBy w7 vt.ownBlock) (h7 : OwnI w7 w5.heap.size v' T') (hn : ∀ k, v'.ownBlock = some k → vt.ownBlock = some k ∨ w6.heap.size ≤ k) :
    Sp2 w5 w7 r c0 c1 c2 c3 v4 v' M T' := by
  have h4 : OwnI w7 w5.heap.size v4 M := own_touch h.r4 (Touch.grown g) (fun i e hi => h.ap i e hi.symm)
  exact ⟨h.box.other h.rt (by decide) g, h4, h7, fun k e e5 => by
    rcases hn k e5 with h1 | h1
    · exact h.ap k e h1
    · have := (h.r4.len k e).2; omega, h.to.push g (fun k e => .inl (h.rt.len k e).1)⟩
end Go.Proofs.YtgnehffglhbggaaGreat
