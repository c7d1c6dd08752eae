/- The types of a search, program side: newTypes. -/
import Derived.Test.YtkkcfifnkcnceaaGreatHMV
import Derived.Deep.AppendLies
import Derived.Test.YtkkcfifnkcnceaaGreatHU1
import Derived.Test.YtkkcfifnkcnceaaGreatHMW
import Derived.Test.YtkkcfifnkcnceaaGreatHRN
namespace Go.Proofs.YtkkcfifnkcnceaaGreat
open Go.RowKit
structure NwR (w : World) (r L : Nat) (E : List Fm) (N : Nat) (R : List Bool) (ss : List ByteArray) : Prop where
 ty : TyA w r L N (nees E N) (liveL L E N)
 c4 : ∃ v, w.cell? ⟨r, 4, none⟩ = some v ∧ Bools w v R
 c1 : ∃ v, w.cell? ⟨r, 1, none⟩ = some v ∧ ElL w v ss (E.map Fm.enc)
def refL (E A B : List Fm) (N : Nat) : List Bool := (List.range N).map (refB E A B)
set_option maxHeartbeats 1000000 in
theorem newTypes1_any (E : List Fm) (ss : List ByteArray) (h8 : E.length ≤ 8) (m : Nat) (hm : m < 256) (r gp gt : Nat) (pv v : Value) (t : Fm) (w : World) (hs : ∀ x ∈ subs t, isEl x = true → x ∈ E) (hv : Nds w v t.enc)
  (c1 : w.cell? ⟨r, 1, none⟩ = some pv) (hp : ElL w pv ss (E.map Fm.enc)) (cp : w.cell? ⟨gp, 0, none⟩ = some (.pointer (some ⟨r, 0, none⟩))) (ct : w.cell? ⟨gt, 0, none⟩ = some (.int .i64 m)) :
  Calls Tryz.prog 127 #[v, .pointer (some ⟨gp, 0, none⟩), .pointer (some ⟨gt, 0, none⟩)] w fun e w' => e = .returned (.bool (!valB E m t)) ∧ Keeps w w' := by
 have HV := hid (valueIn_any E ss h8 m hm r pv t v w hs hv c1 hp)
 obtain ⟨p, n, c, rfl⟩ := hv.shape
 clear hs hv hp c1
 generalize valB E m t = b at *
 go_enter Tryz.func127, Tryz.ntmps127
 go_wp2_with fail
 refine HV.out.mono ?_; rintro e w2 ⟨rfl, k2⟩
 go_wp2_with fail
 go_ret
 exact ⟨rfl, k2⟩
set_option maxHeartbeats 1000000 in
theorem newTypes2_any (E : List Fm) (ss : List ByteArray) (h8 : E.length ≤ 8) (m : Nat) (hm : m < 256) (r gp gt : Nat) (pv v : Value) (t : Fm) (w : World) (hs : ∀ x ∈ subs t, isEl x = true → x ∈ E) (hv : Nds w v t.enc)
  (c1 : w.cell? ⟨r, 1, none⟩ = some pv) (hp : ElL w pv ss (E.map Fm.enc)) (cp : w.cell? ⟨gp, 0, none⟩ = some (.pointer (some ⟨r, 0, none⟩))) (ct : w.cell? ⟨gt, 0, none⟩ = some (.int .i64 m)) :
  Calls Tryz.prog 128 #[v, .pointer (some ⟨gp, 0, none⟩), .pointer (some ⟨gt, 0, none⟩)] w fun e w' => e = .returned (.bool (valB E m t)) ∧ Keeps w w' := by
 have HV := hid (valueIn_any E ss h8 m hm r pv t v w hs hv c1 hp)
 obtain ⟨p, n, c, rfl⟩ := hv.shape
 clear hs hv hp c1
 generalize valB E m t = b at *
 go_enter Tryz.func128, Tryz.ntmps128
 go_wp2_with fail
 refine HV.out.mono ?_; rintro e w2 ⟨rfl, k2⟩
 go_wp2_with fail
 go_ret
 exact ⟨rfl, k2⟩
theorem enters_newTypes1 : Enters 127 := fun _ _ => by kernel_rfl
theorem enters_newTypes2 : Enters 128 := fun _ _ => by kernel_rfl
noncomputable def decE (x : List Nd) : Fm := @dite _ (∃ t : Fm, t.enc = x) (Classical.propDecidable _) (fun h => Classical.choose h) (fun _ => .fls)
theorem decE_enc (t : Fm) : decE t.enc = t := by
 have h : ∃ u : Fm, u.enc = t.enc := ⟨t, rfl⟩
 unfold decE
 rw [dif_pos h]
 exact enc_inj (Classical.choose_spec h)
theorem any_dec (A : List Fm) (p : Fm → Bool) : (A.map Fm.enc).any (fun x => p (decE x)) = A.any p := by
 rw [List.any_map]
 exact any_same fun t _ => by simp [decE_enc]
theorem newContains1 (E A : List Fm) (ss : List ByteArray) (h8 : E.length ≤ 8) (m : Nat) (hm : m < 256) (r gp gt : Nat) (pv v : Value) (w : World) (hs : ∀ t ∈ A, ∀ x ∈ subs t, isEl x = true → x ∈ E) (hv : NdsL w v (A.map Fm.enc))
  (c1 : w.cell? ⟨r, 1, none⟩ = some pv) (hp : ElL w pv ss (E.map Fm.enc)) (cp : w.cell? ⟨gp, 0, none⟩ = some (.pointer (some ⟨r, 0, none⟩))) (ct : w.cell? ⟨gt, 0, none⟩ = some (.int .i64 m)) :
  Calls Tryz.prog 126 #[v, .func (.func 127) #[] #[.pointer (some ⟨gp, 0, none⟩), .pointer (some ⟨gt, 0, none⟩)]] w fun e w' => e = .returned (.bool (A.any fun t => !valB E m t)) ∧ Keeps w w' := by
 rw [← any_dec A (fun t => !valB E m t)]
 refine containsFuncL (fun x => !valB E m (decE x)) _ _ _ v w hv enters_newTypes1 (fun x u w1 hx k1 hu => ?_)
 obtain ⟨t, ht, rfl⟩ := List.mem_map.1 hx
 rw [decE_enc]
 exact newTypes1_any E ss h8 m hm r gp gt pv u t w1 (hs t ht) hu (k1.cell c1) (hp.keeps k1) (k1.cell cp) (k1.cell ct)
theorem newContains2 (E A : List Fm) (ss : List ByteArray) (h8 : E.length ≤ 8) (m : Nat) (hm : m < 256) (r gp gt : Nat) (pv v : Value) (w : World) (hs : ∀ t ∈ A, ∀ x ∈ subs t, isEl x = true → x ∈ E) (hv : NdsL w v (A.map Fm.enc))
  (c1 : w.cell? ⟨r, 1, none⟩ = some pv) (hp : ElL w pv ss (E.map Fm.enc)) (cp : w.cell? ⟨gp, 0, none⟩ = some (.pointer (some ⟨r, 0, none⟩))) (ct : w.cell? ⟨gt, 0, none⟩ = some (.int .i64 m)) :
  Calls Tryz.prog 126 #[v, .func (.func 128) #[] #[.pointer (some ⟨gp, 0, none⟩), .pointer (some ⟨gt, 0, none⟩)]] w fun e w' => e = .returned (.bool (A.any fun t => valB E m t)) ∧ Keeps w w' := by
 rw [← any_dec A (fun t => valB E m t)]
 refine containsFuncL (fun x => valB E m (decE x)) _ _ _ v w hv enters_newTypes2 (fun x u w1 hx k1 hu => ?_)
 obtain ⟨t, ht, rfl⟩ := List.mem_map.1 hx
 rw [decE_enc]
 exact newTypes2_any E ss h8 m hm r gp gt pv u t w1 (hs t ht) hu (k1.cell c1) (hp.keeps k1) (k1.cell cp) (k1.cell ct)
end Go.Proofs.YtkkcfifnkcnceaaGreat
namespace Go.Proofs.YtkkcfifnkcnceaaGreat
open Go.RowKit
theorem Touch.push {a b c : World} {S : Nat → Prop} {row : Option Nat} (h : Touch a b S) (g : b.grownBy c row) (hr : ∀ k, row = some k → a.heap.size ≤ k ∨ S k) : Touch a c S :=
 ⟨g.os.trans h.os, g.tape.trans h.tape, g.output.trans h.output, Nat.le_trans h.size g.size, fun i hi hs =>
  (g.block i (Nat.lt_of_lt_of_le hi h.size) (fun e => by rcases hr i e.symm with h1 | h1; omega; exact hs h1)).trans (h.block i hi hs)⟩
theorem Touch.keeps {a b c : World} {S : Nat → Prop} (h : Touch a b S) (k : Keeps b c) : Touch a c S := h.trans (Touch.of_keeps k _)
theorem Touch.cellOf {a b : World} {S : Nat → Prop} (h : Touch a b S) {g o : Nat} {v : Value} (hs : ¬ S g) (hc : a.cell? ⟨g, o, none⟩ = some v) : b.cell? ⟨g, o, none⟩ = some v :=
 ((h.cell (World.block_lt_of_cell? a _ hc) hs).1 o).trans hc
def neT (E : List Fm) (N i : Nat) : List Nee := ((List.range i).filter fun j => isMo (E.getD j .fls)).map (nee E N)
theorem neT_yes {E : List Fm} {N i : Nat} (h : isMo (E.getD i .fls) = true) : neT E N (i + 1) = neT E N i ++ [nee E N i] := by
 unfold neT
 rw [range_take (fun j => isMo (E.getD j .fls)) i, if_pos h, List.map_append]
 rfl
theorem neT_no {E : List Fm} {N i : Nat} (h : isMo (E.getD i .fls) = false) : neT E N (i + 1) = neT E N i := by
 unfold neT
 rw [range_take (fun j => isMo (E.getD j .fls)) i, if_neg (by rw [h]; simp), List.append_nil]
theorem neT_len (E : List Fm) (N i : Nat) : (neT E N i).length ≤ i := by
 unfold neT
 rw [List.length_map]
 exact Nat.le_trans (List.length_filter_le _ _) (by simp)
theorem neT_end (E : List Fm) (N : Nat) : neT E N E.length = nees E N := rfl
theorem map_range_next {α : Type} (f : Nat → α) (k : Nat) : (List.range (k + 1)).map f = (List.range k).map f ++ [f k] := by rw [List.range_succ, List.map_append]; rfl
theorem el_case {t : Fm} (h : isEl t = true) : (isMo t = false ∧ t.kind = 0) ∨ (isMo t = true ∧ (t.kind = 5 ∨ t.kind = 6) ∧ t.kind = (if isBx t then 5 else 6) ∧ ∃ x, t.enc = x :: ((below t).enc ++ [])) := by
 cases t <;> simp [isEl] at h <;> simp [isMo, isBx, Fm.kind, below, Fm.enc]
theorem below_sub {t x : Fm} (h : isMo t = true) (hx : x ∈ subs (below t)) : x ∈ subs t := by
 cases t <;> simp [isMo] at h <;> exact List.mem_cons_of_mem _ hx
theorem elF_sub {G : List Fm} (hG : Fine G) {t x : Fm} (ht : t ∈ elF G) (hm : isMo t = true) (hx : x ∈ subs (below t)) (he : isEl x = true) : x ∈ elF G := by
 rw [elF_mem hG]
 refine ⟨?_, he⟩
 obtain ⟨h1, _⟩ := (elF_mem hG).1 ht
 unfold subG at *
 obtain ⟨g, hg, h2⟩ := List.mem_flatMap.1 h1
 exact List.mem_flatMap.2 ⟨g, hg, subs_trans h2 x (below_sub hm hx)⟩
theorem elF_of {G : List Fm} (hG : Fine G) {t x : Fm} (ht : t ∈ G) (hx : x ∈ subs t) (he : isEl x = true) : x ∈ elF G := by
 rw [elF_mem hG]
 exact ⟨List.mem_flatMap.2 ⟨t, ht, hx⟩, he⟩
theorem elF_isEl {G : List Fm} (hG : Fine G) {t : Fm} (ht : t ∈ elF G) : isEl t = true := ((elF_mem hG).1 ht).2
theorem getD_mem {E : List Fm} {i : Nat} (h : i < E.length) : E.getD i .fls ∈ E := by
 rw [List.getD_eq_getElem?_getD, List.getElem?_eq_getElem h]
 exact List.getElem_mem h
theorem OwnNe.neeT {w6 wr : World} {r C g : Nat} {v c0 c1 c2 c3 c4 c5 : Value} {ns : List Nee} (h : OwnNe w6 C v ns) (hb : BoxT w6 r c0 c1 c2 c3 c4 c5) (t : Touch w6 wr (fun i => i = r)) (hl : ns.length ≤ 8) (hn : ∀ n ∈ ns, n.inn.length ≤ 2147483648) (hg : w6.heap.size ≤ g) : NeeO wr g v ns := by
 have ht : ∀ us, w6.ownsRow C 150 3 v ns.length (neCells ns us) → RowsB w6 C us (ns.map Nee.inn) → wr.ownsRow C 150 3 v ns.length (neCells ns us) ∧ RowsB wr C us (ns.map Nee.inn) := fun us a b =>
  ⟨own_touch a t (fun i e hi => by rw [show i = r from hi] at e; exact type_ne hb a (by decide) rfl e), b.touch t (fun i hi e => by
   obtain ⟨j, hj, e2⟩ := hi
   rw [show i = r from e] at e2
   exact type_ne hb (b.2 j hj (by have := b.1; omega)) (by decide) rfl e2)⟩
 have h2 : OwnNe wr C v ns := by
  obtain ⟨us, a, b⟩ := h
  exact ⟨us, (ht us a b).1, (ht us a b).2⟩
 exact h2.neeO hl hn h ht hg
structure Nw1 (w3 wr : World) (r C : Nat) (lg pv : Value) (N : Nat) (v2 : Value) (ns : List Nee) : Prop where
 box : BoxT wr r lg pv v2 (.int .i64 N) (.slice none 0 0) (.slice none 0 0)
 ne : OwnNe wr C v2 ns
 to : Touch w3 wr (fun i => i = r)
theorem Nw1.keeps {w3 wr w' : World} {r C N : Nat} {lg pv v2 : Value} {ns : List Nee} (h : Nw1 w3 wr r C lg pv N v2 ns) (k : Keeps wr w') : Nw1 w3 w' r C lg pv N v2 ns := ⟨h.box.keeps k, h.ne.keeps k, h.to.keeps k⟩
theorem Nw1.push {w3 w5 w6 : World} {r N : Nat} {lg pv v2 v2' : Value} {ns ms : List Nee} (h : Nw1 w3 w5 r w3.heap.size lg pv N v2 ns) (g : w5.grownBy w6 v2.ownBlock) (hr : ∀ k, v2.ownBlock = some k → w3.heap.size ≤ k) (h6 : OwnNe w6 w3.heap.size v2' ms) :
  Nw1 w3 (w6.setCell ⟨r, 2, none⟩ v2') r w3.heap.size lg pv N v2' ms := by
 obtain ⟨us, ho, _⟩ := h.ne
 have hb6 : BoxT w6 r lg pv v2 (.int .i64 N) (.slice none 0 0) (.slice none 0 0) := h.box.other ho (by decide) (fun i hi => hi.symm) (Touch.grown g)
 have g7 := hb6.grown 2 v2'
 exact ⟨hb6.set2 v2', h6.other hb6 (by decide) (by decide) (fun i hi => by rw [show i = r by simpa using hi]; rfl) (Touch.grown g7), (h.to.push g (fun k e => .inl (hr k e))).push g7 (fun k e => .inr (by simpa using e.symm))⟩
def BoxNe (w : World) (g : Nat) (a b c : Value) : Prop := w.ownsRow g 150 3 (.slice (some ⟨g, 0, none⟩) 1 1) 1 [a, b, c]
theorem BoxNe.made (w : World) (a b c : Value) : BoxNe (w.alloc (.cells #[a, b, c] 150)) w.heap.size a b c := by
 have h := World.ownsRow_lit (base := w.heap.size) (e := 150) (size := 3) w #[a, b, c] 1 (Nat.le_refl _) (by simp [maxLen]) (by simp)
 simpa [BoxNe] using h
theorem BoxNe.cell0 {w : World} {g : Nat} {a b c : Value} (h : BoxNe w g a b c) : w.cell? ⟨g, 0, none⟩ = some a := by rw [World.ownsRow.cellAt h 0 (by omega)]; rfl
theorem BoxNe.cell1 {w : World} {g : Nat} {a b c : Value} (h : BoxNe w g a b c) : w.cell? ⟨g, 1, none⟩ = some b := by rw [World.ownsRow.cellAt h 1 (by omega)]; rfl
theorem BoxNe.cell2 {w : World} {g : Nat} {a b c : Value} (h : BoxNe w g a b c) : w.cell? ⟨g, 2, none⟩ = some c := by rw [World.ownsRow.cellAt h 2 (by omega)]; rfl
theorem BoxNe.froz {w : World} {g : Nat} {a b c : Value} (h : BoxNe w g a b c) (i : Nat) : w.frozen? ⟨g, i, none⟩ = false := World.ownsRow.frozenAt h i
theorem BoxNe.keeps {w w' : World} {g : Nat} {a b c : Value} (h : BoxNe w g a b c) (k : Keeps w w') : BoxNe w' g a b c := own_keeps h k
theorem BoxNe.far {w w' : World} {g : Nat} {a b c : Value} {row : Option Nat} (h : BoxNe w g a b c) (k : w.grownBy w' row) (hn : ∀ j, row = some j → j ≠ g) : BoxNe w' g a b c :=
 own_touch h (Touch.grown k) (fun i e hi => by
  have e2 : g = i := by simpa [Value.ownBlock] using e
  exact hn i hi.symm e2.symm)
structure Nw2 (wr wq : World) (g : Nat) (a b c : Value) (bs : List Bool) : Prop where
 box : BoxNe wq g a b c
 row : OwnB wq wr.heap.size c bs
 kp : Keeps wr wq
 hg : wr.heap.size ≤ g
theorem Nw2.keeps {wr wq w' : World} {g : Nat} {a b c : Value} {bs : List Bool} (h : Nw2 wr wq g a b c bs) (k : Keeps wq w') : Nw2 wr w' g a b c bs := ⟨h.box.keeps k, h.row.keeps k, h.kp.trans k, h.hg⟩
theorem Nw2.push {wr w5 w6 : World} {g : Nat} {a b c c' : Value} {bs cs : List Bool} (h : Nw2 wr w5 g a b c bs) (gr : w5.grownBy w6 c.ownBlock) (h6 : OwnB w6 wr.heap.size c' cs) : Nw2 wr (w6.setCell ⟨g, 2, none⟩ c') g a b c' cs := by
 have hb6 : BoxNe w6 g a b c := own_touch h.box (Touch.grown gr) (fun i e hi => type_ne h.row h.box (by decide) hi.symm e)
 have hs := World.ownsRow.stored hb6 2 c'
 refine ⟨hs.1, h6.touch (Touch.grown hs.2) (fun i e hi => type_ne hb6 h6 (by decide) (k := i) (by rw [show i = g by simpa using hi]; rfl) e), (h.kp.grown gr (fun k e => (h.row.len k e).1)).setCell h.hg c', h.hg⟩
structure Nw3 (w3 wr : World) (r : Nat) (lg pv v2 : Value) (N : Nat) (v4 v5 : Value) (R S : List Bool) : Prop where
 box : BoxT wr r lg pv v2 (.int .i64 N) v4 v5
 r4 : OwnB wr w3.heap.size v4 R
 r5 : OwnB wr w3.heap.size v5 S
 ap : ∀ k, v4.ownBlock = some k → v5.ownBlock ≠ some k
 to : Touch w3 wr (fun i => i = r)
theorem Nw3.keeps {w3 wr w' : World} {r N : Nat} {lg pv v2 v4 v5 : Value} {R S : List Bool} (h : Nw3 w3 wr r lg pv v2 N v4 v5 R S) (k : Keeps wr w') : Nw3 w3 w' r lg pv v2 N v4 v5 R S := ⟨h.box.keeps k, h.r4.keeps k, h.r5.keeps k, h.ap, h.to.keeps k⟩
theorem Nw3.push4 {w3 w5 w6 : World} {r N : Nat} {lg pv v2 v4 v5 v' : Value} {R S R' : List Bool} (h : Nw3 w3 w5 r lg pv v2 N v4 v5 R S) (gr : w5.grownBy w6 v4.ownBlock) (h6 : OwnB w6 w3.heap.size v' R') (hn : ∀ k, v'.ownBlock = some k → v4.ownBlock = some k ∨ w5.heap.size ≤ k) : Nw3 w3 (w6.setCell ⟨r, 4, none⟩ v') r lg pv v2 N v' v5 R' S := by
 have hb6 : BoxT w6 r lg pv v2 (.int .i64 N) v4 v5 := h.box.other h.r4 (by decide) (fun i hi => hi.symm) (Touch.grown gr)
 have g7 := hb6.grown 4 v'
 have h5 : OwnB w6 w3.heap.size v5 S := h.r5.touch (Touch.grown gr) (fun i e hi => h.ap i hi.symm e)
 have hS : ∀ (u : Value) (l : List Bool), OwnB w6 w3.heap.size u l → OwnB (w6.setCell ⟨r, 4, none⟩ v') w3.heap.size u l := fun u l hu => hu.touch (Touch.grown g7) (fun i e hi => type_ne hb6 hu (by decide) (k := i) (by rw [show i = r by simpa using hi]; rfl) e)
 exact ⟨hb6.set4 v', hS _ _ h6, hS _ _ h5, fun k e e5 => by
  rcases hn k e with h1 | h1
  ·exact h.ap k h1 e5
  ·have := (h.r5.len k e5).2; omega, (h.to.push gr (fun k e => .inl (h.r4.len k e).1)).push g7 (fun k e => .inr (by simpa using e.symm))⟩
theorem Nw3.push5 {w3 w5 w6 : World} {r N : Nat} {lg pv v2 v4 v5 v' : Value} {R S S' : List Bool} (h : Nw3 w3 w5 r lg pv v2 N v4 v5 R S) (gr : w5.grownBy w6 v5.ownBlock) (h6 : OwnB w6 w3.heap.size v' S') (hn : ∀ k, v'.ownBlock = some k → v5.ownBlock = some k ∨ w5.heap.size ≤ k) : Nw3 w3 (w6.setCell ⟨r, 5, none⟩ v') r lg pv v2 N v4 v' R S' := by
 have hb6 : BoxT w6 r lg pv v2 (.int .i64 N) v4 v5 := h.box.other h.r5 (by decide) (fun i hi => hi.symm) (Touch.grown gr)
 have g7 := hb6.grown 5 v'
 have h4 : OwnB w6 w3.heap.size v4 R := h.r4.touch (Touch.grown gr) (fun i e hi => h.ap i e hi.symm)
 have hS : ∀ (u : Value) (l : List Bool), OwnB w6 w3.heap.size u l → OwnB (w6.setCell ⟨r, 5, none⟩ v') w3.heap.size u l := fun u l hu => hu.touch (Touch.grown g7) (fun i e hi => type_ne hb6 hu (by decide) (k := i) (by rw [show i = r by simpa using hi]; rfl) e)
 exact ⟨hb6.set5 v', hS _ _ h4, hS _ _ h6, fun k e e5 => by
  rcases hn k e5 with h1 | h1
  ·exact h.ap k e h1
  ·have := (h.r4.len k e).2; omega, (h.to.push gr (fun k e => .inl (h.r5.len k e).1)).push g7 (fun k e => .inr (by simpa using e.symm))⟩
theorem Nw2.box6 {wr w5 w6 : World} {g : Nat} {a b c : Value} {bs : List Bool} (h : Nw2 wr w5 g a b c bs) (gr : w5.grownBy w6 c.ownBlock) : BoxNe w6 g a b c :=
 own_touch h.box (Touch.grown gr) (fun i e hi => type_ne h.row h.box (by decide) hi.symm e)
theorem Nw1.box6 {w3 w5 w6 : World} {r C N : Nat} {lg pv v2 : Value} {ns : List Nee} (h : Nw1 w3 w5 r C lg pv N v2 ns) (g : w5.grownBy w6 v2.ownBlock) : BoxT w6 r lg pv v2 (.int .i64 N) (.slice none 0 0) (.slice none 0 0) := by
 obtain ⟨us, ho, _⟩ := h.ne
 exact h.box.other ho (by decide) (fun i hi => hi.symm) (Touch.grown g)
theorem Nw3.box4 {w3 w5 w6 : World} {r N : Nat} {lg pv v2 v4 v5 : Value} {R S : List Bool} (h : Nw3 w3 w5 r lg pv v2 N v4 v5 R S) (gr : w5.grownBy w6 v4.ownBlock) : BoxT w6 r lg pv v2 (.int .i64 N) v4 v5 := h.box.other h.r4 (by decide) (fun i hi => hi.symm) (Touch.grown gr)
theorem Nw3.box5 {w3 w5 w6 : World} {r N : Nat} {lg pv v2 v4 v5 : Value} {R S : List Bool} (h : Nw3 w3 w5 r lg pv v2 N v4 v5 R S) (gr : w5.grownBy w6 v5.ownBlock) : BoxT w6 r lg pv v2 (.int .i64 N) v4 v5 := h.box.other h.r5 (by decide) (fun i hi => hi.symm) (Touch.grown gr)
theorem OwnB.shape0 {w : World} {B : Nat} {v : Value} {a : List Bool} (h : OwnB w B v a) : ∃ p c, v = .slice p a.length c := by
 obtain ⟨p, c, e, _⟩ := At.of_own h
 exact ⟨p, c, e⟩
theorem OwnL.shapeV {w : World} {B : Nat} {v : Value} {xs : List (List Nd)} (h : OwnL w B v xs) : ∃ p n c, v = .slice p n c := by
 obtain ⟨vs, ho, _⟩ := h
 obtain ⟨p, c, e, _⟩ := At.of_own ho
 exact ⟨p, _, c, e⟩
theorem OwnL.touchV {w w' : World} {S : Nat → Prop} {B : Nat} {v : Value} {xs : List (List Nd)} (h : OwnL w B v xs) (k : Touch w w' S) (hS : ∀ i, B ≤ i → ¬ S i) : OwnL w' B v xs := by
 obtain ⟨vs, ho, hr, ha, hf⟩ := h
 exact ⟨vs, own_touch ho k (fun i e => hS i (World.ownsRow.lt ho i e).1), hr.touch k (fun i e => hS i (hr.lt e).1), ha, hf⟩
theorem ElL.getE {w : World} {p : Option Addr} {n cap : Nat} {ss : List ByteArray} {E : List Fm} (h : ElL w (.slice p n cap) ss (E.map Fm.enc)) (i : Nat) (h1 : i < ss.length) (h2 : i < E.length) :
  ∃ b off u, p = some ⟨b, off, none⟩ ∧ w.cell? ⟨b, off + i * 2, none⟩ = some (.string ss[i]) ∧ w.cell? ⟨b, off + i * 2 + 1, none⟩ = some u ∧ Nds w u (E.getD i .fls).enc := by
 obtain ⟨p', cap', e, _, _, _, _, hget⟩ := h
 cases e
 obtain ⟨b, off, u, a1, a2, a3, a4⟩ := hget i h1 (by simpa using h2)
 refine ⟨b, off, u, a1, a2, a3, ?_⟩
 have : (E.map Fm.enc)[i]'(by simpa using h2) = (E.getD i .fls).enc := by
  rw [List.getElem_map, List.getD_eq_getElem?_getD, List.getElem?_eq_getElem h2]; rfl
 rw [← this]; exact a4
theorem stepBL {w : World} {ops : Array Oper} {o : Oper} {a : Act} {K : Act → World → Prop} {Q : Exit → Act → World → Prop} {E : Prop} (hgd : o.guard = none) (s x : Operand)
  (ho : o.op = .call { callee := .builtin .append, args := #[s, x], argTypes := #[100, 100] }) (base : Nat) (v : Value) (xs : List Bool) (hs : a.eval s = v) (hown : OwnB w base v xs)
  (u : Value) (y : Bool) (hx : a.eval x = u) (hu : Bools w u [y]) (hbase : base ≤ w.heap.size) (hlen : xs.length ≤ 1000000)
  (h : ∀ v' w', OwnB w' base v' (xs ++ [y]) → w.grownBy w' v.ownBlock → (∀ k, v.ownBlock = some k → base ≤ k) → (∀ k, v'.ownBlock = some k → v.ownBlock = some k ∨ w.heap.size ≤ k) → K (a.put o.dst v') w') : if Region.wanted o (yielded ops a.tmps) = true then Oper.wp Tryz.prog o a w K Q else E := by
 rw [if_pos (by simp [Region.wanted, hgd])]
 obtain ⟨i0, hi, hz0, hz1, hz2⟩ := info_parts infoB
 obtain ⟨p, cap, rfl, _, _, hat, _⟩ := hu
 obtain ⟨b, off, rfl, hc⟩ := hat 0 (by simp [boolCells])
 refine wp_append_lies w s x _ ho base _ i0 _ 1 1 Tryz.underlying100 hi hz0 hz1 hz2 rfl (by decide) v _ _ hs hown ⟨b, off, none⟩ 1 cap [.bool y] hx (by simp) ?_ (by simp [Value.oneCell']) (by omega) (by unfold maxLen; omega) (by omega) hbase _ rfl ?_
 ·intro j u hj
  cases j with
  | zero => simp at hj; subst hj; simpa [Addr.add, boolCells] using hc
  | succ j => simp at hj
 ·intro g c' w' h2 h3 h4 h5
  refine h _ w' ?_ h3 (fun k e => (World.ownsRow.lt hown k e).1) (fun k e => ?_)
  ·unfold OwnB
   rw [List.length_append, show boolCells (xs ++ [y]) = boolCells xs ++ [.bool y] by simp [boolCells]]
   exact h2
  ·have : k = g := by simpa [Value.ownBlock] using e.symm
   subst this
   rcases h4 with h4 | h4
   ·exact .inl h4
   ·exact .inr (by omega)
end Go.Proofs.YtkkcfifnkcnceaaGreat
namespace Go.Proofs.YtkkcfifnkcnceaaGreat
open Go.RowKit
end Go.Proofs.YtkkcfifnkcnceaaGreat
namespace Go.Proofs.YtkkcfifnkcnceaaGreat
open Go.RowKit
def BoxG (w : World) (r : Nat) (T : TypeId) (cs : List Value) : Prop := w.ownsRow r T cs.length (.slice (some ⟨r, 0, none⟩) 1 1) 1 cs
section
variable {w w' : World} {r : Nat} {T : TypeId} {cs : List Value}
theorem BoxG.cell (h : BoxG w r T cs) (i : Nat) (hi : i < cs.length) : w.cell? ⟨r, i, none⟩ = some cs[i] := by
 rw [World.ownsRow.cellAt h i (by omega)]
 exact List.getElem?_eq_getElem hi
theorem BoxG.froz (h : BoxG w r T cs) (i : Nat) : w.frozen? ⟨r, i, none⟩ = false := World.ownsRow.frozenAt h i
theorem BoxG.lt (h : BoxG w r T cs) : r < w.heap.size := (World.ownsRow.lt h r rfl).2
theorem BoxG.set (h : BoxG w r T cs) (i : Nat) (x : Value) : BoxG (w.setCell ⟨r, i, none⟩ x) r T (cs.set i x) := by
 have := (World.ownsRow.stored h i x).1
 unfold BoxG
 rw [List.length_set]
 exact this
theorem BoxG.grown (h : BoxG w r T cs) (i : Nat) (x : Value) : w.grownBy (w.setCell ⟨r, i, none⟩ x) (some r) := (World.ownsRow.stored h i x).2
theorem BoxG.keeps (h : BoxG w r T cs) (k : Keeps w w') : BoxG w' r T cs := own_keeps h k
theorem BoxG.other {B s m : Nat} {T' : TypeId} {u : Value} {ds : List Value} (h : BoxG w r T cs) (ho : w.ownsRow B T' s u m ds) (t : T' ≠ T) (k : w.grownBy w' u.ownBlock) : BoxG w' r T cs :=
 own_touch h (Touch.grown k) (fun _i e hi => type_ne ho h t hi.symm e)
theorem BoxG.made (w : World) (T : TypeId) (cs : List Value) (_h0 : 0 < cs.length) (_h1 : cs.length ≤ 1000) : BoxG (w.alloc (.cells cs.toArray T)) w.heap.size T cs := by
 have h := World.ownsRow_lit (base := w.heap.size) (e := T) (size := cs.length) w cs.toArray 1 (Nat.le_refl _) (by unfold maxLen; omega) (by simp)
 simpa [BoxG] using h
theorem own_boxed {B s m : Nat} {T' : TypeId} {u : Value} {ds : List Value} {i : Nat} {x : Value} (ho : w.ownsRow B T' s u m ds) (h : BoxG w r T cs) (t : T ≠ T') : (w.setCell ⟨r, i, none⟩ x).ownsRow B T' s u m ds :=
 own_touch ho (Touch.grown (h.grown i x)) (fun j e hi => by
  have : j = r := by simpa using hi
  subst this
  exact type_ne h ho t rfl e)
theorem Touch.ofBox {a : World} {S : Nat → Prop} {i : Nat} {x : Value} (t : Touch a w S) (h : BoxG w r T cs) (hr : S r) : Touch a (w.setCell ⟨r, i, none⟩ x) S :=
 t.push (h.grown i x) (fun k e => .inr (by have : r = k := by simpa using e
                                           subst this; exact hr))
end
def tlV : Value → Value
 | .slice (some ⟨g, 0, none⟩) m cap => .slice (if cap = 1 then some ⟨g, 0, none⟩ else some ⟨g, 2, none⟩) (m - 1) (cap - 1)
 | v => v
theorem sizeOfN1 (w : World) : (sizeOf 131).run Tryz.prog w = .ok 2 w := by
 obtain ⟨i0, hi, hz0, hz1, hz2⟩ := info_parts infoN
 simp [sizeOf, typeInfo, hi, hz1]
theorem slice1 (g m cap : Nat) (hl : 1 ≤ m) (_hc : m ≤ cap) (wx : World) :
  (Instr.slice 95 (.slice (some ⟨g, 0, none⟩) m cap) (some (.int .i64 1)) none none).run Tryz.prog wx = .ok (tlV (.slice (some ⟨g, 0, none⟩) m cap)) wx := by
 have hT : Tryz.prog.underlying 95 = some (.slice (Tryz.prog.elem 95)) := by kernel_rfl
 have hE : Tryz.prog.elem 95 = 131 := by kernel_rfl
 rw [run_slice_l (P := Tryz.prog) wx 95 (some ⟨g, 0, none⟩) m cap hT .i64 1 (by omega) (by omega), hE, sizeOfN1]
 simp only [Result.andThen_ok, sliced, Option.map_some]
 rfl
theorem tail1 (g m cap : Nat) (hl : 1 ≤ m) (hc : m ≤ cap) (hm : cap ≤ maxLen) (w : World) (B : Nat) (a : List Nd) (h : OwnN w B (.slice (some ⟨g, 0, none⟩) m cap) a) (ha : a.length ≤ 2147483648) : Nds w (tlV (.slice (some ⟨g, 0, none⟩) m cap)) (a.drop 1) := by
 have h0 := h
 obtain ⟨_, _, e, _, _, hat, _⟩ := h.nds ha
 injection e with e1 e2 e3
 subst e1; subst e2; subst e3
 have hdl : (a.drop 1).length = a.length - 1 := by simp
 refine ⟨_, cap - 1, by rw [hdl]; rfl, by omega, by omega, ?_, by omega⟩
 split
 ·have : a.drop 1 = [] := List.drop_eq_nil_of_le (by omega)
  rw [this]; exact At.nil _ _
 ·intro j hj
  have hcd : ∀ (x : List Nd), ndCells (x.drop 1) = (ndCells x).drop 2 := by
   intro x
   cases x with
   | nil => rfl
   | cons y x => simp [ndCells]
  have hj2 : 2 + j < (ndCells a).length := by
   rw [hcd] at hj
   simp at hj
   omega
  obtain ⟨b', off', hp, hc'⟩ := hat (2 + j) hj2
  cases hp
  refine ⟨g, _, rfl, ?_⟩
  have e2 : (ndCells (a.drop 1))[j]? = (ndCells a)[2 + j]? := by rw [hcd, List.getElem?_drop]
  rw [List.getElem?_eq_getElem hj, List.getElem?_eq_getElem hj2] at e2
  rw [show 2 + j = 0 + (2 + j) by omega, hc']
  exact e2.symm
def InnL (w : World) (C : Nat) (v : Value) (ts : List Fm) : Prop := ∃ us, w.ownsRow C 95 1 v ts.length (us.map tlV) ∧ RowsN w C us (ts.map Fm.enc) ∧ ∀ u ∈ us, ∃ g m c, u = .slice (some ⟨g, 0, none⟩) m c
theorem InnL.keeps {w w' : World} {C : Nat} {v : Value} {ts : List Fm} (h : InnL w C v ts) (k : Keeps w w') : InnL w' C v ts := by
 obtain ⟨us, h1, h2, h3⟩ := h
 exact ⟨us, own_keeps h1 k, h2.keeps k, h3⟩
theorem InnL.empty (w : World) : InnL (w.alloc (.cells #[] 95)) w.heap.size (.slice (some ⟨w.heap.size, 0, none⟩) 0 0) [] :=
 ⟨[], World.ownsRow_made w #[] 0 (Nat.le_refl _) (by simp [maxLen]) (by simp), RowsN.nil _ _, fun u h => by cases h⟩
theorem InnL.mono {w : World} {C C' : Nat} {v : Value} {ts : List Fm} (h : InnL w C v ts) (k : C' ≤ C) : InnL w C' v ts := by
 obtain ⟨us, h1, h2, h3⟩ := h
 exact ⟨us, own_mono h1 k, h2.mono k, h3⟩
theorem InnL.touch {w w' : World} {C : Nat} {v : Value} {ts : List Fm} {S : Nat → Prop} (h : InnL w C v ts) (k : Touch w w' S) (hS : ∀ i, S i → ∃ r T s cs, w.ownsRow r T s (.slice (some ⟨i, 0, none⟩) 1 1) 1 cs ∧ T ≠ 95 ∧ T ≠ 131) : InnL w' C v ts := by
 obtain ⟨us, h1, h2, h3⟩ := h
 refine ⟨us, own_touch h1 k (fun i e hi => ?_), h2.touch k (fun i hb hi => ?_), h3⟩
 ·obtain ⟨r, T, s, cs, ho, t1, _⟩ := hS i hi
  exact type_ne ho h1 t1 rfl e
 ·obtain ⟨r, T, s, cs, ho, _, t2⟩ := hS i hi
  obtain ⟨j, hj, e⟩ := hb
  exact type_ne ho (h2.2 j hj (by have := h2.1; omega)) t2 rfl e
theorem InnL.boxed {w : World} {C r i : Nat} {v x : Value} {ts : List Fm} {T : TypeId} {cs : List Value} (h : InnL w C v ts) (hb : BoxG w r T cs) (t1 : T ≠ 95) (t2 : T ≠ 131) : InnL (w.setCell ⟨r, i, none⟩ x) C v ts := by
 obtain ⟨us, h1, h2, h3⟩ := h
 refine ⟨us, own_boxed h1 hb t1, ⟨h2.1, fun j a b => own_boxed (h2.2 j a b) hb t2⟩, h3⟩
theorem InnL.touchR {w w' : World} {C r : Nat} {v : Value} {ts : List Fm} {T : TypeId} {cs : List Value} (h : InnL w C v ts) (hb : BoxG w r T cs) (t1 : T ≠ 95) (t2 : T ≠ 131) (k : Touch w w' (fun i => i = r)) : InnL w' C v ts :=
 h.touch k (fun i hi => ⟨r, T, cs.length, cs, by
  have e : i = r := hi
  subst e
  exact hb, t1, t2⟩)
theorem InnL.grownI {w w' : World} {C B : Nat} {v u : Value} {ts : List Fm} {a : List Int} (h : InnL w C v ts) (ho : OwnI w B u a) (k : w.grownBy w' u.ownBlock) : InnL w' C v ts := by
 obtain ⟨us, h1, h2, h3⟩ := h
 refine ⟨us, own_touch h1 (Touch.grown k) (fun i e hi => type_ne ho h1 (by decide) hi.symm e), h2.touch (Touch.grown k) (fun i hb hi => ?_), h3⟩
 obtain ⟨j, hj, e⟩ := hb
 exact type_ne ho (h2.2 j hj (by have := h2.1; omega)) (by decide) hi.symm e
theorem InnL.shape {w : World} {C : Nat} {v : Value} {ts : List Fm} (h : InnL w C v ts) : ∃ p c, v = .slice p ts.length c ∧ ts.length ≤ c ∧ c ≤ maxLen := by
 obtain ⟨us, h1, _⟩ := h
 obtain ⟨p, c, e, a, b, _⟩ := At.of_own h1
 exact ⟨p, c, e, a, b⟩
theorem InnL.get {w : World} {C : Nat} {p : Option Addr} {n c : Nat} {ts : List Fm} (h : InnL w C (.slice p n c) ts) (i : Nat) (hi : i < ts.length) (hb : ∀ t ∈ ts, t.enc.length ≤ 1000) :
  ∃ b off x, p = some ⟨b, off, none⟩ ∧ w.cell? ⟨b, off + i, none⟩ = some x ∧ Nds w x (ts[i].enc.drop 1) := by
 obtain ⟨us, h1, h2, h3⟩ := h
 obtain ⟨p', c', e, _, _, hat⟩ := At.of_own h1
 cases e
 have hul : us.length = ts.length := by rw [h2.1, List.length_map]
 obtain ⟨b, off, hp, hc⟩ := hat i (by rw [List.length_map]; omega)
 have hiu : i < us.length := by omega
 have hr := h2.2 i hiu (by simpa using hi)
 obtain ⟨g, m, cc, hu⟩ := h3 us[i] (List.getElem_mem hiu)
 have hlen := hb ts[i] (List.getElem_mem hi)
 have hr' : OwnN w C (.slice (some ⟨g, 0, none⟩) m cc) ts[i].enc := by
  rw [← hu]
  simpa using hr
 have hsh := At.of_own hr'
 obtain ⟨p9, c9, e9, a9, b9, _⟩ := hsh
 cases e9
 refine ⟨b, off, _, hp, hc, ?_⟩
 rw [List.getElem_map, hu]
 exact tail1 g _ _ (by have := Fm.enc_pos ts[i]; omega) a9 b9 w C _ hr' (by omega)
end Go.Proofs.YtkkcfifnkcnceaaGreat
namespace Go.Proofs.YtkkcfifnkcnceaaGreat
open Go.RowKit
theorem OwnS.sh {w : World} {B : Nat} {v : Value} {a : List ByteArray} (h : OwnS w B v a) : ∃ p n c, v = .slice p n c := by
 obtain ⟨p, c, e, _⟩ := At.of_own h
 exact ⟨p, _, c, e⟩
theorem infoQ2 : (Tryz.prog.info? 26).map (fun i => (i.zero, i.size, i.bytes)) = some (some (.agg #[.slice none 0 0, .slice none 0 0]), 2, 48) := by kernel_rfl
theorem sqCells_app : ∀ us vs : List (Value × Value), sqCells (us ++ vs) = sqCells us ++ sqCells vs
 | [], _ => rfl
 | x :: l, vs => by simp [sqCells, sqCells_app l vs]
theorem sqCells_get : ∀ (us : List (Value × Value)) (i : Nat) (hi : i < us.length), (sqCells us)[i * 2]? = some us[i].1 ∧ (sqCells us)[i * 2 + 1]? = some us[i].2
 | [], i, hi => by simp at hi
 | x :: l, 0, _ => by simp [sqCells]
 | x :: l, i + 1, hi => by
  have := sqCells_get l i (by simpa using hi)
  rw [show (i + 1) * 2 = i * 2 + 1 + 1 by omega, show i * 2 + 1 + 1 + 1 = (i * 2 + 1) + 1 + 1 by omega]
  simpa [sqCells] using this
def SqO (w : World) (B : Nat) (v : Value) (ps : List SqT) : Prop :=
 ∃ us : List (Value × Value), us.length = ps.length ∧ w.ownsRow B 26 2 v ps.length (sqCells us) ∧ ∀ i (h1 : i < us.length) (h2 : i < ps.length), OwnS w B us[i].1 ps[i].1 ∧ OwnS w B us[i].2 ps[i].2
theorem SqO.keeps {w w' : World} {B : Nat} {v : Value} {ps : List SqT} (h : SqO w B v ps) (k : Keeps w w') : SqO w' B v ps := by
 obtain ⟨us, h1, h2, h3⟩ := h
 exact ⟨us, h1, own_keeps h2 k, fun i a b => ⟨(h3 i a b).1.keeps k, (h3 i a b).2.keeps k⟩⟩
theorem SqO.empty (w : World) : SqO (w.alloc (.cells #[] 26)) w.heap.size (.slice (some ⟨w.heap.size, 0, none⟩) 0 0) [] :=
 ⟨[], rfl, World.ownsRow_made w #[] 0 (Nat.le_refl _) (by simp [maxLen]) (by simp), fun i h => by simp at h⟩
theorem SqO.sh {w : World} {B : Nat} {v : Value} {ps : List SqT} (h : SqO w B v ps) : ∃ p n c, v = .slice p n c := by
 obtain ⟨us, h1, h2, h3⟩ := h
 obtain ⟨p, c, e, _⟩ := At.of_own h2
 exact ⟨p, _, c, e⟩
theorem SqO.sql {w : World} {B : Nat} {v : Value} {ps : List SqT} (h : SqO w B v ps) (hl : ps.length ≤ 2147483648) (hb : ∀ p ∈ ps, p.1.length ≤ 2147483648 ∧ p.2.length ≤ 2147483648) : SqL w v ps := by
 obtain ⟨us, h1, h2, h3⟩ := h
 obtain ⟨p, c, rfl, hc1, hc2, hat⟩ := At.of_own h2
 refine ⟨p, c, rfl, hc1, hc2, hl, fun i hi => ?_⟩
 have hi' : i < us.length := by omega
 obtain ⟨g1, g2⟩ := sqCells_get us i hi'
 obtain ⟨r1, r2⟩ := h3 i hi' hi
 obtain ⟨b1, b2⟩ := hb ps[i] (List.getElem_mem hi)
 obtain ⟨ha1, ha2⟩ := List.getElem?_eq_some_iff.1 g1
 obtain ⟨hb1, hb2⟩ := List.getElem?_eq_some_iff.1 g2
 obtain ⟨b, off, hp, hcA⟩ := hat (i * 2) ha1
 obtain ⟨b', off', hp', hcB⟩ := hat (i * 2 + 1) hb1
 rw [hp] at hp'
 cases hp'
 rw [ha2] at hcA
 rw [hb2] at hcB
 refine ⟨b, off, fun c => if c = 0 then us[i].1 else us[i].2, hp, fun c hc => ?_, ⟨by simpa using r1.strsP b1, by simpa using r1.sh⟩, ⟨by simpa using r2.strsP b2, by simpa using r2.sh⟩⟩
 have hc2 : c = 0 ∨ c = 1 := by omega
 rcases hc2 with rfl | rfl
 ·simpa using hcA
 ·simpa [Nat.add_assoc] using hcB
theorem appQK {w : World} {o : Oper} {a : Act} {K : Act → World → Prop} {Q : Exit → Act → World → Prop} (s x : Operand)
  (ho : o.op = .call { callee := .builtin .append, args := #[s, x], argTypes := #[29, 29] }) (base : Nat) (v : Value) (ps : List SqT) (hs : a.eval s = v) (hown : SqO w base v ps)
  (p : Option Addr) (cc : Nat) (y z : Value) (A C : List ByteArray) (hx : a.eval x = .slice p 1 cc) (hat : At w p [y, z]) (hy : OwnS w base y A) (hz : OwnS w base z C) (hbase : base ≤ w.heap.size) (hlen : ps.length ≤ 1000000)
  (h : ∀ v' w', SqO w' base v' (ps ++ [(A, C)]) → w.grownBy w' v.ownBlock → (∀ k, v.ownBlock = some k → base ≤ k) → K (a.put o.dst v') w') : o.wp Tryz.prog a w K Q := by
 obtain ⟨i0, hi, hz0, hz1, hz2⟩ := info_parts infoQ2
 obtain ⟨us, hl, hrow, he⟩ := hown
 obtain ⟨py, ny, cy, ey⟩ := hy.sh
 obtain ⟨pz, nz, cz, ez⟩ := hz.sh
 refine wp_append_at s x _ ho _ i0 _ 2 48 Tryz.underlying29 hi hz0 hz1 hz2 rfl (by decide) base v _ _ hs hrow p 1 cc [y, z] hx (by simp) hat (by
  intro u hu
  simp at hu
  rcases hu with rfl | rfl
  ·rw [ey]; rfl
  ·rw [ez]; rfl) (by unfold maxLen; omega) (by omega) hbase ?_
 intro v' w' h1 h2 h4
 have T := Touch.grown h2
 have stay : ∀ {u : Value} {l : List ByteArray}, OwnS w base u l → OwnS w' base u l := fun hu => own_touch hu T (fun i hi e => type_ne hrow hu (by decide) e.symm hi)
 refine h v' w' ⟨us ++ [(y, z)], by simp [hl], ?_, fun i a1 a2 => ?_⟩ h2 h4
 ·rw [List.length_append, sqCells_app]
  exact h1
 ·by_cases hi2 : i < us.length
  ·have hi3 : i < ps.length := by omega
   rw [List.getElem_append_left hi2, List.getElem_append_left hi3]
   exact ⟨stay (he i hi2 hi3).1, stay (he i hi2 hi3).2⟩
  ·have : i = us.length := by simp at a1; omega
   subst this
   rw [List.getElem_append_right (Nat.le_refl _), List.getElem_append_right (by omega)]
   simp [hl]
   exact ⟨stay hy, stay hz⟩
section
variable {md : Region.Mode} {ops : Array Oper} {Q : Exit → Act → World → Prop} {nt : Nat} {ins : List Nat} {kd : Nat → Kq} {w0 : World} {o : Oper}
theorem kBuildO (B : Nat) (s s' : Nat) (x y : List ByteArray) (ho : o.op = .build 26 #[(0, .tmp s), (1, .tmp s')]) (hg : o.guard = none) (h : availK md ops ins o s = true) (h' : availK md ops ins o s' = true) (hs : kd s = .ows B x) (hs' : kd s' = .ows B y) (hk : ∀ d, o.dst = some d → kd d = .oq B x y) : StQ md ops Q nt ins kd w0 o :=
 StepK.plain hg fun a w K hsa hJ hins hdep hK => by
  have hv := getK h hins hdep
  have hv' := getK h' hins hdep
  change (kd s).holds _ w at hv
  change (kd s').holds _ w at hv'
  rw [hs] at hv
  rw [hs'] at hv'
  have hv : OwnS w B (a.eval (.tmp s)) x := hv
  have hv' : OwnS w B (a.eval (.tmp s')) y := hv'
  obtain ⟨p, n, c, e3⟩ := hv.sh
  obtain ⟨q, m, d, e4⟩ := hv'.sh
  rw [e3] at hv
  rw [e4] at hv'
  unfold Oper.wp execOp
  have e2 : (#[(0, Operand.tmp s), (1, Operand.tmp s')] : Array (Nat × Operand)).map (fun (i, x) => (i, a.eval x)) = #[(0, .slice p n c), (1, .slice q m d)] := by simp [e3, e4]
  simp only [ho]
  rw [e2]
  simp only [Sem.run_bind, run_bQ, Result.andThen_ok, Sem.run_pure]
  exact hK _ _ (Keeps.refl w) (fun d hd => by show (kd d).holds _ w; rw [hk d hd]; exact ⟨_, _, rfl, hv, hv'⟩)
theorem kRowO (B : Nat) (s : Nat) (x y : List ByteArray) (ho : o.op = .buildSlice 29 1 #[(0, .tmp s)]) (hg : o.guard = none) (h : availK md ops ins o s = true) (hs : kd s = .oq B x y) (hk : ∀ d, o.dst = some d → kd d = .orow B x y) : StQ md ops Q nt ins kd w0 o :=
 StepK.plain hg fun a w K hsa hJ hins hdep hK => by
  have hv := getK h hins hdep
  change (kd s).holds _ w at hv
  rw [hs] at hv
  obtain ⟨u, v, e, hu, hv⟩ := hv
  obtain ⟨p, n, c, rfl⟩ := hu.sh
  obtain ⟨q, m, d, rfl⟩ := hv.sh
  unfold Oper.wp execOp
  have e2 : (#[(0, Operand.tmp s)] : Array (Nat × Operand)).map (fun (i, x) => (i, a.eval x)) = #[(0, .agg #[.slice p n c, .slice q m d])] := by simp [e]
  simp only [ho]
  rw [e2]
  simp only [Sem.run_bind, run_rowQ1, Result.andThen_ok, Sem.run_pure]
  have k := (Keeps.refl w).alloc (.cells #[.slice p n c, .slice q m d] 26)
  refine hK _ _ k (fun d' hd => ?_)
  show (kd d').holds _ _
  rw [hk d' hd]
  refine ⟨_, _, _, rfl, fun j hj => ⟨w.heap.size, 0, rfl, ?_⟩, hu.keeps k, hv.keeps k⟩
  have hj2 : j = 0 ∨ j = 1 := by simp at hj; omega
  rw [cell_of_row _ w.heap.size (0 + j) #[.slice p n c, .slice q m d] 26 (0, 0) (heap_alloc_new w _)]
  rcases hj2 with rfl | rfl <;> simp
end
end Go.Proofs.YtkkcfifnkcnceaaGreat
