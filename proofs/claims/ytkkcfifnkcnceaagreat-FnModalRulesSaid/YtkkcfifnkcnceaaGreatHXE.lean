/- The reference's table of values: rows of truth values by texts. -/
import Derived.Test.YtkkcfifnkcnceaaGreatHXC
import Derived.Deep.CutBlock
import Derived.Deep.DeepCutAuto
namespace Go.Proofs.YtkkcfifnkcnceaaGreat
open Go.RowKit
noncomputable def rowT (E : List Fm) (l : List Nat) (s : ByteArray) : List Bool := l.map fun m => valB E m (txF s)
theorem rowT_len (E : List Fm) (l : List Nat) (s : ByteArray) : (rowT E l s).length = l.length := by simp [rowT]
def InE (E : List Fm) (x : ByteArray) : Prop := IsTx x (txF x) ∧ ∀ y ∈ subs (txF x), isEl y = true → y ∈ E
structure EOk (E : List Fm) (sE : List ByteArray) (N : Nat) : Prop where
 tx : Txts sE E
 wf : ∀ t ∈ E, t.wf
 h8 : E.length ≤ 8
 hN : N ≤ 256
theorem nodup_len {α : Type} : ∀ (ks U : List α), ks.Nodup → (∀ k ∈ ks, k ∈ U) → ks.length ≤ U.length
 | [], U, _, _ => by simp
 | k :: ks, U, h, hs => by
  rw [List.nodup_cons] at h
  obtain ⟨A, B, rfl⟩ := List.append_of_mem (hs k (by simp))
  have := nodup_len ks (A ++ B) h.2 (fun x hx => by
   have h1 := hs x (by simp [hx])
   have h2 : x ≠ k := fun e => h.1 (e ▸ hx)
   simp only [List.mem_append, List.mem_cons] at h1 ⊢
   rcases h1 with h1 | h1 | h1
   ·exact .inl h1
   ·exact absurd h1 h2
   ·exact .inr h1)
  simp at this ⊢
  omega
structure SpT (w1 w : World) (r g : Nat) (E : List Fm) (l : List Nat) (c0 c1 c2 c3 c4 c5 c6 c7 : Value) (ks js : List ByteArray) : Prop where
 box : BoxG w r 103 [c0, c1, c2, c3, c4, c5, c6, c7]
 tx : OwnS w w1.heap.size c6 ks
 rows : ∃ us, w.ownsRow w1.heap.size 100 1 c7 us.length us ∧ RowsB w w1.heap.size us (js.map (rowT E l)) ∧ ∀ k, blk us k → k ≠ g
 tch : Touch w1 w (fun i => i = r)
section
variable {w1 w w' : World} {r g : Nat} {E : List Fm} {l : List Nat} {c0 c1 c2 c3 c4 c5 c6 c7 : Value} {ks js : List ByteArray}
theorem SpT.keeps (h : SpT w1 w r g E l c0 c1 c2 c3 c4 c5 c6 c7 ks js) (k : Keeps w w') : SpT w1 w' r g E l c0 c1 c2 c3 c4 c5 c6 c7 ks js := by
 obtain ⟨us, a, b, c⟩ := h.rows
 exact ⟨h.box.keeps k, h.tx.keeps k, ⟨us, own_keeps a k, b.keeps k, c⟩, h.tch.keeps k⟩
theorem SpT.fresh {g' : Nat} (h : SpT w1 w r g E l c0 c1 c2 c3 c4 c5 c6 c7 ks js) (hg : w.heap.size ≤ g') : SpT w1 w r g' E l c0 c1 c2 c3 c4 c5 c6 c7 ks js := by
 obtain ⟨us, a, b, c⟩ := h.rows
 exact ⟨h.box, h.tx, ⟨us, a, b, fun k hk e => by have := (b.lt hk).2; omega⟩, h.tch⟩
theorem SpT.start {L N : Nat} {sE : List ByteArray} (h : SpF w1 r L E sE N c0 c1 c2 c3 c4 c5) (l : List Nat) (g : Nat) : SpT w1 w1 r g E l c0 c1 c2 c3 c4 c5 (.slice none 0 0) (.slice none 0 0) [] [] :=
 ⟨h.box, OwnS.nil _ _, ⟨[], World.ownsRow_nil w1 _ _ 1, RowsB.nil _ _, fun k hk => by obtain ⟨i, hi, _⟩ := hk; simp at hi⟩, Touch.refl _ _⟩
theorem SpT.write {B n c : Nat} {d : List Bool} {S : Nat → Prop} (h : SpT w1 w r g E l c0 c1 c2 c3 c4 c5 c6 c7 ks js) (ho : OwnB w B (.slice (some ⟨g, 0, none⟩) n c) d) (hS : ∀ i, S i → i = g) (hg : w1.heap.size ≤ g) (k : Touch w w' S) : SpT w1 w' r g E l c0 c1 c2 c3 c4 c5 c6 c7 ks js := by
 obtain ⟨us, a, b, cc⟩ := h.rows
 have hb : ∀ i, S i → (Value.slice (some ⟨g, 0, none⟩) n c).ownBlock = some i := fun i hi => by rw [hS i hi]; rfl
 refine ⟨own_touch h.box k (fun i e hi => type_ne ho h.box (by decide) (hb i hi) e), own_touch h.tx k (fun i e hi => type_ne ho h.tx (by decide) (hb i hi) e), ⟨us, own_touch a k (fun i e hi => type_ne ho a (by decide) (hb i hi) e), b.touch k (fun i hb hi => cc i hb (hS i hi)), cc⟩, ?_⟩
 exact ⟨k.os.trans h.tch.os, k.tape.trans h.tch.tape, k.output.trans h.tch.output, Nat.le_trans h.tch.size k.size, fun i hi hs => (k.block i (Nat.lt_of_lt_of_le hi h.tch.size) (fun e => by have := hS i e; omega)).trans (h.tch.block i hi hs)⟩
theorem SpT.box6 (h : SpT w1 w r g E l c0 c1 c2 c3 c4 c5 c6 c7 ks js) (k : w.grownBy w' c6.ownBlock) : BoxG w' r 103 [c0, c1, c2, c3, c4, c5, c6, c7] := h.box.other h.tx (by decide) k
theorem SpT.push6 {v' : Value} {ks' : List ByteArray} (h : SpT w1 w r g E l c0 c1 c2 c3 c4 c5 c6 c7 ks js) (k : w.grownBy w' c6.ownBlock) (h6 : OwnS w' w1.heap.size v' ks') : SpT w1 (w'.setCell ⟨r, 6, none⟩ v') r g E l c0 c1 c2 c3 c4 c5 v' c7 ks' js := by
 have hb := h.box6 k
 obtain ⟨us, a, b, cc⟩ := h.rows
 have a' : w'.ownsRow w1.heap.size 100 1 c7 us.length us := own_touch a (Touch.grown k) (fun i e hi => type_ne h.tx a (by decide) hi.symm e)
 have b' : RowsB w' w1.heap.size us (js.map (rowT E l)) := b.touch (Touch.grown k) (fun i hb hi => by
  obtain ⟨j, hj, e⟩ := hb
  exact type_ne h.tx (b.2 j hj (by have := b.1; omega)) (by decide) hi.symm e)
 exact ⟨hb.set 6 v', own_boxed h6 hb (by decide), ⟨us, own_boxed a' hb (by decide), ⟨b'.1, fun j h1 h2 => own_boxed (b'.2 j h1 h2) hb (by decide)⟩, cc⟩, (h.tch.push k (fun k e => .inl (h.tx.len k e).1)).ofBox hb rfl⟩
theorem SpT.box7 {us : List Value} (h : SpT w1 w r g E l c0 c1 c2 c3 c4 c5 c6 c7 ks js) (a : w.ownsRow w1.heap.size 100 1 c7 us.length us) (k : w.grownBy w' c7.ownBlock) : BoxG w' r 103 [c0, c1, c2, c3, c4, c5, c6, c7] := h.box.other a (by decide) k
theorem SpT.push7 {v' u : Value} {us : List Value} {x : ByteArray} {B : Nat} (h : SpT w1 w r g E l c0 c1 c2 c3 c4 c5 c6 c7 ks js) (a : w.ownsRow w1.heap.size 100 1 c7 us.length us) (b : RowsB w w1.heap.size us (js.map (rowT E l))) (cc : ∀ k, blk us k → k ≠ g)
  (hu : OwnB w B u (rowT E l x)) (hB : w1.heap.size ≤ B) (hg : g < B) (k : w.grownBy w' c7.ownBlock) {n' : Nat} (hn' : n' = us.length + 1) (h7 : w'.ownsRow w1.heap.size 100 1 v' n' (us ++ [u])) : SpT w1 (w'.setCell ⟨r, 7, none⟩ v') r g E l c0 c1 c2 c3 c4 c5 c6 v' ks (js ++ [x]) ∧ OwnB (w'.setCell ⟨r, 7, none⟩ v') B u (rowT E l x) := by
 have hb := h.box7 a k
 have hn2 : n' = (us ++ [u]).length := by simp; omega
 rw [hn2] at h7
 have t' : OwnS w' w1.heap.size c6 ks := own_touch h.tx (Touch.grown k) (fun i e hi => type_ne a h.tx (by decide) hi.symm e)
 have b' : RowsB w' w1.heap.size us (js.map (rowT E l)) := b.touch (Touch.grown k) (fun i hb hi => by
  obtain ⟨j, hj, e⟩ := hb
  exact type_ne a (b.2 j hj (by have := b.1; omega)) (by decide) hi.symm e)
 have u' : OwnB w' B u (rowT E l x) := own_touch hu (Touch.grown k) (fun i e hi => type_ne a hu (by decide) hi.symm e)
 have b2 := RowsB.snoc (OwnB.mono u' hB) b'
 have u2 : OwnB (w'.setCell ⟨r, 7, none⟩ v') B u (rowT E l x) := own_boxed u' hb (by decide)
 refine ⟨⟨hb.set 7 v', own_boxed t' hb (by decide), ⟨us ++ [u], own_boxed h7 hb (by decide), ?_, fun j hj => ?_⟩, (h.tch.push k (fun k e => .inl (World.ownsRow.lt a k e).1)).ofBox hb rfl⟩, u2⟩
 ·rw [List.map_append, List.map_cons, List.map_nil]
  exact ⟨b2.1, fun j h1 h2 => own_boxed (b2.2 j h1 h2) hb (by decide)⟩
 ·obtain ⟨i, hi, e⟩ := hj
  by_cases hlt : i < us.length
  ·rw [List.getElem_append_left hlt] at e
   exact cc j ⟨i, hlt, e⟩
  ·have : i = us.length := by simp at hi; omega
   subst this
   rw [List.getElem_append_right (Nat.le_refl _)] at e
   simp only [Nat.sub_self, List.getElem_cons_zero] at e
   have := (hu.len j e).1
   omega
end
theorem infoBB : (Tryz.prog.info? 100).map (fun i => (i.zero, i.size, i.bytes)) = some (some (.slice none 0 0), 1, 24) := by kernel_rfl
theorem appBBK {w : World} {o : Oper} {a : Act} {K : Act → World → Prop} {Q : Exit → Act → World → Prop} (s x : Operand)
  (ho : o.op = .call { callee := .builtin .append, args := #[s, x], argTypes := #[101, 101] }) (base : Nat) (v : Value) (us : List Value) (hs : a.eval s = v)
  {n : Nat} (hown : w.ownsRow base 100 1 v n us) (p : Option Addr) (c : Nat) (u : Value) (hx : a.eval x = .slice p 1 c) (hat : At w p [u]) (hu1 : u.oneCell' = true) (hbase : base ≤ w.heap.size) (hlen : n ≤ 1000000)
  (h : ∀ v' w', w'.ownsRow base 100 1 v' (n + 1) (us ++ [u]) → w.grownBy w' v.ownBlock → (∀ k, v.ownBlock = some k → base ≤ k) → K (a.put o.dst v') w') : o.wp Tryz.prog a w K Q := by
 obtain ⟨i0, hi, hz0, hz1, hz2⟩ := info_parts infoBB
 refine wp_append_at s x _ ho _ i0 _ 1 24 Tryz.underlying101 hi hz0 hz1 hz2 rfl (by decide) base v _ _ hs hown p 1 c [u] hx (by simp) hat (by simpa using hu1) (by unfold maxLen; omega) (by omega) hbase ?_
 intro v' w' h1 h2 h3
 exact h v' w' h1 h2 h3
theorem appBB {w : World} {ops : Array Oper} {rest : List Oper} {o : Oper} {a : Act} {Q : Exit → Act → World → Prop} (hgd : o.guard = none) (s x : Operand)
  (ho : o.op = .call { callee := .builtin .append, args := #[s, x], argTypes := #[101, 101] }) (base : Nat) (v : Value) (us : List Value) (hs : a.eval s = v)
  {n : Nat} (hown : w.ownsRow base 100 1 v n us) (p : Option Addr) (c : Nat) (u : Value) (hx : a.eval x = .slice p 1 c) (hat : At w p [u]) (hu1 : u.oneCell' = true) (hbase : base ≤ w.heap.size) (hlen : n ≤ 1000000)
  (h : ∀ v' w', w'.ownsRow base 100 1 v' (n + 1) (us ++ [u]) → w.grownBy w' v.ownBlock → (∀ k, v.ownBlock = some k → base ≤ k) → wpList Tryz.prog ops Q rest (a.put o.dst v') w') : wpList Tryz.prog ops Q (o :: rest) a w :=
 wpList_plain hgd fun _ hK => appBBK s x ho base v us hs hown p c u hx hat hu1 hbase hlen fun v' w' h1 h2 h3 => hK _ _ (h v' w' h1 h2 h3)
def mixB (f f' : Nat → Bool) (l : List Nat) (k : Nat) : List Bool := (List.range l.length).map fun j => if j < k then f' (l.getD j 0) else f (l.getD j 0)
theorem mixB_len (f f' : Nat → Bool) (l : List Nat) (k : Nat) : (mixB f f' l k).length = l.length := by simp [mixB]
theorem mixB_get (f f' : Nat → Bool) (l : List Nat) (k j : Nat) (h : j < (mixB f f' l k).length) : (mixB f f' l k)[j] = if j < k then f' (l.getD j 0) else f (l.getD j 0) := by simp [mixB]
theorem mixB_zero (f f' : Nat → Bool) (l : List Nat) : mixB f f' l 0 = l.map f := by
 apply List.ext_getElem
 ·simp [mixB]
 ·intro i h1 h2
  simp at h2
  rw [mixB_get, if_neg (by omega), List.getElem_map, List.getD_eq_getElem?_getD, List.getElem?_eq_getElem h2]; rfl
theorem mixB_end (f f' : Nat → Bool) (l : List Nat) : mixB f f' l l.length = l.map f' := by
 apply List.ext_getElem
 ·simp [mixB]
 ·intro i h1 h2
  simp at h2
  rw [mixB_get, if_pos h2, List.getElem_map, List.getD_eq_getElem?_getD, List.getElem?_eq_getElem h2]; rfl
theorem mixB_set (f f' : Nat → Bool) (l : List Nat) (k : Nat) (h : k < l.length) : (mixB f f' l k).set k (f' l[k]) = mixB f f' l (k + 1) := by
 apply List.ext_getElem
 ·simp [mixB]
 ·intro i h1 h2
  rw [List.getElem_set]
  split
  ·rename_i e
   subst e
   rw [mixB_get, if_pos (by omega), List.getD_eq_getElem?_getD, List.getElem?_eq_getElem h]; rfl
  ·rename_i e
   rw [mixB_get, mixB_get]
   by_cases hik : i < k
   ·rw [if_pos hik, if_pos (by omega)]
   ·rw [if_neg hik, if_neg (by omega)]
theorem mixB_at (f f' : Nat → Bool) (l : List Nat) (k : Nat) (h : k < l.length) : (mixB f f' l k)[k]'(by rw [mixB_len]; exact h) = f l[k] := by
 rw [mixB_get, if_neg (by omega), List.getD_eq_getElem?_getD, List.getElem?_eq_getElem h]; rfl
theorem rowT_get (E : List Fm) (l : List Nat) (s : ByteArray) (k : Nat) (h : k < l.length) : (rowT E l s)[k]'(by rw [rowT_len]; exact h) = valB E l[k] (txF s) := by simp [rowT]
end Go.Proofs.YtkkcfifnkcnceaaGreat
namespace Go.Proofs.YtkkcfifnkcnceaaGreat
open Go.RowKit
def StayX (w w' : World) : Prop := w.heap.size ≤ w'.heap.size ∧ ∀ (T : TypeId) (base s : Nat) (v : Value) (n : Nat) (xs : List Value), T ≠ 9 → T ≠ 100 → T ≠ 103 → w.ownsRow base T s v n xs → w'.ownsRow base T s v n xs
theorem StayX.keeps {w w' : World} (k : Keeps w w') : StayX w w' := ⟨k.size, fun _ _ _ _ _ _ _ _ _ h => own_keeps h k⟩
theorem StayX.trans {a b c : World} (h : StayX a b) (k : StayX b c) : StayX a c := ⟨Nat.le_trans h.1 k.1, fun T base s v n xs t1 t2 t3 ho => k.2 T base s v n xs t1 t2 t3 (h.2 T base s v n xs t1 t2 t3 ho)⟩
theorem StayX.str {w w' : World} {B : Nat} {u : Value} {ks : List ByteArray} (ho : OwnS w B u ks) (k : w.grownBy w' u.ownBlock) : StayX w w' :=
 ⟨k.size, fun _T _ _ _ _ _ t1 _ _ h => own_touch h (Touch.grown k) (fun _i e hi => type_ne ho h (Ne.symm t1) hi.symm e)⟩
theorem StayX.row {w w' : World} {B s n : Nat} {u : Value} {us : List Value} (ho : w.ownsRow B 100 s u n us) (k : w.grownBy w' u.ownBlock) : StayX w w' :=
 ⟨k.size, fun _T _ _ _ _ _ _ t2 _ h => own_touch h (Touch.grown k) (fun _i e hi => type_ne ho h (Ne.symm t2) hi.symm e)⟩
theorem StayX.box {w : World} {r i : Nat} {cs : List Value} {x : Value} (hb : BoxG w r 103 cs) : StayX w (w.setCell ⟨r, i, none⟩ x) :=
 ⟨(hb.grown i x).size, fun _T _ _ _ _ _ _ _ t3 h => own_boxed h hb (Ne.symm t3)⟩
def RowR (w1 w : World) (r g : Nat) (E : List Fm) (l : List Nat) (c0 c1 c2 c3 c4 c5 : Value) (U : List ByteArray) (x : ByteArray) (e : Ending) (w' : World) : Prop :=
 ∃ v c6 c7 ks, e = .returned v ∧ OwnB w' w1.heap.size v (rowT E l x) ∧ (∀ k, v.ownBlock = some k → k ≠ g) ∧ SpT w1 w' r g E l c0 c1 c2 c3 c4 c5 c6 c7 ks ks ∧ ks.Nodup ∧ (∀ k ∈ ks, k ∈ U) ∧ StayX w w'
set_option maxRecDepth 100000 in
set_option maxHeartbeats 8000000 in
theorem l12Row_any (w1 : World) (r g L N : Nat) (E : List Fm) (sE : List ByteArray) (c0 c1 c2 c3 c4 c5 c6 c7 : Value) (ks U : List ByteArray) (x : ByteArray) (w : World)
  (hF : SpF w1 r L E sE N c0 c1 c2 c3 c4 c5) (hE : EOk E sE N) (hT : SpT w1 w r g E (livL L E N) c0 c1 c2 c3 c4 c5 c6 c7 ks ks) (hx : InE E x) (hg : g < w.heap.size) (hnd : ks.Nodup) (hU : ∀ k ∈ ks, k ∈ U) (hxU : x ∈ U) (hUl : U.length ≤ 100000) :
  Calls Tryz.prog 74 #[.pointer (some ⟨r, 0, none⟩), .string x] w (RowR w1 w r g E (livL L E N) c0 c1 c2 c3 c4 c5 U x) := by
 have hkl : ks.length ≤ 100000 := Nat.le_trans (nodup_len ks U hnd hU) hUl
 have x1 := hT.box.cell 1 (by simp)
 have x5 := hT.box.cell 5 (by simp)
 have x6 := hT.box.cell 6 (by simp)
 have x7 := hT.box.cell 7 (by simp)
 simp only [List.getElem_cons_succ, List.getElem_cons_zero] at x1 x5 x6 x7
 have hsz1 := hT.tch.size
 have HT := hid hT
 obtain ⟨us, hus, hrows, hcc⟩ := hT.rows
 have hul : us.length = ks.length := by rw [hrows.1, List.length_map]
 obtain ⟨p6, q6, e6, hq6, hx6m, -⟩ := At.of_own hT.tx
 obtain ⟨p7, q7, e7, hq7, hx7m, hat7⟩ := At.of_own hus
 have HTXS := hid (fun wz (kz : Keeps w wz) => (hT.tx.keeps kz).strs (by omega))
 have HUS := hid (fun i (hi : i < us.length) => hat7 i hi)
 have HROW := hid (fun i (hi : i < us.length) (hi2 : i < ks.length) => (show ∃ p c, us[i] = .slice p (livL L E N).length c ∧ OwnB w w1.heap.size us[i] (rowT E (livL L E N) ks[i]) ∧ ∀ k, us[i].ownBlock = some k → k ≠ g from by
  have h0 := hrows.2 i hi (by rw [List.length_map]; omega)
  rw [List.getElem_map] at h0
  obtain ⟨p, c, e, _⟩ := At.of_own h0
  rw [rowT_len] at e
  exact ⟨p, c, e, h0, fun k hk => hcc k ⟨i, hi, hk⟩⟩))
 have HIN := hid (fun wz (kz : Keeps w wz) => hF.p5 wz (hT.tch.keeps kz))
 have HTRU := hid (fun m (hm : m < 256) v wz (hz : Nds wz v (txF x).enc) (kz : Keeps w wz) => l12True_any E sE hE.tx hE.wf hE.h8 m hm r c1 (txF x) v wz hx.1.1 (by have := hx.1.2.2; omega) hx.2 hz (kz.cell x1) (hF.p1 wz (hT.tch.keeps kz)))
 have hsm := hx.1.small
 have h40 := hx.1.2.2
 have HP := hid (fun wz => l02GoodA x wz (by omega))
 unfold GoodR at HP
 have hix := isTx_iff.2 ⟨_, hx.1⟩
 have HIX := hid hix; clear hix
 have HTX1 := hid hx.1
 have hLL := livL_len L E N
 have hN := hE.hN
 have HLT : Hid (∀ k (h : k < (livL L E N).length), (livL L E N)[k] < 256) := hid (fun k h => by have := livL_lt _ (List.getElem_mem h); omega)
 have HRT : Hid (rowT E (livL L E N) x = (livL L E N).map fun m => valB E m (txF x)) := hid rfl
 have HND := hid hnd
 have HUU := hid hU
 have HHIT : Hid (∀ i (h : i < ks.length), (ks[i].toList == x.toList) = true → ks[i] = x) := hid (fun i h he => by
  rw [beq_bts, decide_eq_true_eq] at he
  exact bts_inj he)
 have HMISS : Hid ((∀ j (hj : j < ks.length), (ks[j].toList == x.toList) = false) → x ∉ ks) := hid (fun h hm => by
  obtain ⟨j, hj, e⟩ := List.getElem_of_mem hm
  have := h j hj
  rw [e, beq_bts] at this
  simp at this)
 subst e6
 subst e7
 have hul2 := hul
 have HUSL := hid hul
 rw [hul] at x7 hq7
 have hin := hF.p5 w hT.tch
 obtain ⟨p5, q5, rfl, hl5, hx5m, -⟩ := hin
 have hnl : (natI (livL L E N)).length = (livL L E N).length := by simp [natI]
 rw [hnl] at x5 hl5
 unfold maxLen at hx5m hx6m hx7m
 rw [hul] at HT
 rw [hnl] at HT HIN ⊢
 clear hT hus hrows hcc hat7 hF hE hx hnd hU hnl
 generalize hlv : livL L E N = l at *
 have HLV := hid hlv; clear hlv
 have HTK : Hid (∀ k (h : k < l.length), (l.take (k + 1)).map (fun m => valB E m (txF x)) = (l.take k).map (fun m => valB E m (txF x)) ++ [valB E l[k] (txF x)]) := hid (fun k h => by rw [List.take_succ_eq_append_getElem h, List.map_append]; rfl)
 have HTE : Hid ((l.take l.length).map (fun m => valB E m (txF x)) = l.map fun m => valB E m (txF x)) := hid (by rw [List.take_length])
 have HT0 : Hid ((l.take 0).map (fun m => valB E m (txF x)) = []) := hid (by simp)
 have HTKL : Hid (∀ k, ((l.take k).map (fun m => valB E m (txF x))).length ≤ l.length) := hid (fun k => by simp; omega)
 generalize (fun m => valB E m (txF x)) = vl at *
 clear hul
 go_enter Tryz.func74, Tryz.ntmps74
 go_wp2_with fail
 go_loopw [4, 5] (fun o i' wr => ∃ i : Nat, i ≤ ks.length ∧ i' = .int .i64 i ∧ o = .slice none 0 0 ∧ (∀ j (hj : j < ks.length), j < i → (ks[j].toList == x.toList) = false) ∧ Keeps w wr) (fun _ i' _ => ks.length - (intOf i').toNat)
 case atStart => exact ⟨0, by omega, rfl, rfl, fun j hj h => by omega, Keeps.refl w⟩
 case round =>
  obtain ⟨i, hi, rfl, rfl, hall, kw⟩ := hrel
  have HA := hid hall; clear hall
  have y6 := kw.cell x6
  have y7 := kw.cell x7
  have y5 := kw.cell x5
  by_cases hlt : i < ks.length
  ·have hlt' : (i : Int) < ks.length := by omega
   obtain ⟨b1, o1, rfl, h1⟩ := (HTXS.out wr kw).get i hlt
   have hiu : i < us.length := by omega
   obtain ⟨b2, o2, rfl, h2⟩ := HUS.out i hiu
   obtain ⟨pu, cu, eu, hu, hgu⟩ := HROW.out i hiu hlt
   replace h2 := kw.cell h2
   have HHi := hid (HHIT.out i hlt)
   have HNi : Hid ((ks[i].toList == x.toList) = false → ∀ j (hj : j < ks.length), j < i + 1 → (ks[j].toList == x.toList) = false) := hid (fun h j hj hji => by
    by_cases e : j = i
    ·subst e; exact h
    ·exact HA.out j hj (by omega))
   have HU1 := hid hu
   have HGU := hid hgu
   clear hu hgu hul2
   generalize us[i] = u at *
   subst eu
   generalize ks[i] = y at *
   cases he : y.toList == x.toList
   ·rw [he] at HNi
    go_wp2_with fail
    go_roundw
    case rel => exact ⟨i + 1, by omega, by go_num, rfl, HNi.out (by trivial), kw⟩
    case measure => simp [intOf]; omega
   ·rw [he] at HHi
    go_wp2_with fail
    go_ret
    exact ⟨_, _, _, ks, rfl, by rw [← HHi.out (by trivial)]; exact HU1.out.keeps kw, HGU.out, HT.out.keeps kw, HND.out, HUU.out, StayX.keeps kw⟩
  ·have hlt' : ¬ (i : Int) < ks.length := by omega
   have HNX := hid (HMISS.out (fun j hj => HA.out j hj (by omega)))
   obtain rfl : i = ks.length := by omega
   clear HHIT HMISS HA
   have HPW := hid (HP.out wr)
   go_wp2_with fail
   refine HPW.out.mono ?_; rintro e w5 ⟨v5, rfl, k5, hg5⟩
   rw [HIX.out]
   have hv5 := hg5 _ HTX1.out
   have hnd5 := hv5.nds (by omega)
   obtain ⟨g5, q9, rfl, hBg, hgl, hcg, hcm⟩ := hv5.shape (Fm.enc_pos _)
   have HND5 := hid (fun wz (kz : Keeps w5 wz) => hnd5.keeps kz)
   have hE0 := OwnB.empty w5
   have HE0 := hid hE0
   have kw5 := kw.trans k5
   have hs5 : w.heap.size ≤ w5.heap.size := kw5.size
   have kA := (Keeps.refl w5).alloc (.cells #[] 4)
   clear hv5 hg5 hnd5 hE0 y5 y6 y7
   generalize (txF x).enc.length = nx at *
   unfold maxLen at hcm
   go_wp2_with fail
   go_loopw [8, 9] (fun o k' wr => ∃ k : Nat, k ≤ l.length ∧ k' = .int .i64 k ∧ OwnB wr w5.heap.size o ((l.take k).map vl) ∧ Keeps w5 wr) (fun _ k' _ => l.length - (intOf k').toNat)
   case atStart => exact ⟨0, by omega, rfl, by rw [HT0.out]; exact HE0.out, kA⟩
   case round =>
    obtain ⟨k, hk, rfl, hown, kq⟩ := hrel
    clear HE0 kA
    have y5 := (kw5.trans kq).cell x5
    by_cases hkl2 : k < l.length
    ·have hkl' : (k : Int) < l.length := by omega
     obtain ⟨_, _, e0, _, _, hat, _⟩ := HIN.out wr (kw5.trans kq)
     simp only [Value.slice.injEq] at e0
     obtain ⟨rfl, -, rfl⟩ := e0
     obtain ⟨b3, o3, rfl, e3⟩ := hat.int k (by simpa [natI] using hkl2)
     rw [show (natI l)[k]'(by simpa [natI] using hkl2) = ((l[k] : Nat) : Int) by simp [natI]] at e3
     have HTV := hid (HTRU.out l[k] (HLT.out k hkl2) _ wr (HND5.out wr kq) (kw5.trans kq))
     have HTKk := hid (HTK.out k hkl2)
     have htl := HTKL.out k
     clear hat
     generalize l[k] = lk at *
     generalize hvb : valB E lk (txF x) = vb at *
     have HVB := hid hvb; clear hvb
     generalize hrk : (l.take k).map vl = rk at *
     have HRK := hid hrk; clear hrk
     have hsq := kq.size
     go_wp2_with fail
     refine HTV.out.mono ?_; rintro e w6 ⟨rfl, k6⟩
     have hs6 := k6.size
     have k6a := k6.alloc (.cells #[.bool vb] 4)
     go_wp2_with (at_builtin; refine appB rfl _ _ rfl w5.heap.size _ rk rfl ((hown.keeps k6).keeps ((Keeps.refl w6).alloc _)) _ [vb] rfl (Bools.lit1 w6 vb) (by simp; omega) (by simp; omega) ?_; intro v7 w7 hv7 hg7 hr7; have k7 := ((kq.trans k6).alloc (.cells #[.bool vb] 4)).grown hg7 (fun q hq => hr7 q hq))
     go_roundw
     case rel => exact ⟨k + 1, by omega, by go_num, by rw [HTKk.out]; exact hv7, k7⟩
     case measure => simp [intOf]; omega
    ·obtain rfl : k = l.length := by omega
     have hkl' : ¬ ((l.length : Int) < l.length) := by omega
     rw [HTE.out, ← HRT.out] at hown
     obtain ⟨pv, cv, rfl, hcv1, hcv2, -⟩ := At.of_own hown
     have hrl : (rowT E l x).length = l.length := rowT_len E l x
     rw [hrl] at hown ⊢
     have hbw := kq.size
     have KK := kw5.trans kq
     have HR0 := hid (HT.out.keeps KK)
     have HV0 := hid hown
     clear hown hrl
     generalize wr = wB at *
     have y6 := HR0.out.box.cell 6 (by simp)
     have y7 := HR0.out.box.cell 7 (by simp)
     simp only [List.getElem_cons_succ, List.getElem_cons_zero] at y6 y7
     have hsB : w1.heap.size ≤ wB.heap.size := HR0.out.tch.size
     have ka := (Keeps.refl wB).alloc (.cells #[.string x] 9)
     have hR := HR0.out.keeps ka
     have hxl : ([x] : List ByteArray).length = 1 := rfl
     go_upto_region 13 with (at_builtin; refine appS rfl _ _ rfl w1.heap.size _ ks rfl hR.tx _ [x] rfl (Strs.lit1 wB x) (by simp; omega) (by simp; omega) ?_; intro v7 w7 hv7 hg7 hr7; have hb7 := hR.box6 hg7; have z6 := hb7.cell 6 (by simp); have zf := hb7.froz 6; simp only [List.getElem_cons_succ, List.getElem_cons_zero] at z6; obtain ⟨p7b, q7b, rfl, hq7b, hx7b, -⟩ := At.of_own hv7; simp only [List.length_append, List.length_cons, List.length_nil, Nat.zero_add] at hv7 hq7b ⊢)
     have h7a := hR.box6 hg7
     have HP6 := hid (hR.push6 hg7 hv7)
     have hst1 : StayX w w7 := ((StayX.keeps KK).trans (StayX.keeps ka)).trans (StayX.str hR.tx hg7)
     have HST2 := hid (hst1.trans (StayX.box (i := 6) (x := .slice p7b (ks.length + 1) q7b) h7a))
     have hvA : OwnB w7 w5.heap.size (.slice pv l.length cv) (rowT E l x) := own_touch (HV0.out.keeps ka) (Touch.grown hg7) (fun i e hi => type_ne hR.tx (HV0.out.keeps ka) (by decide) hi.symm e)
     have hvB : OwnB (w7.setCell ⟨r, 6, none⟩ (.slice p7b (ks.length + 1) q7b)) w5.heap.size (.slice pv l.length cv) (rowT E l x) := own_boxed hvA h7a (by decide)
     have HV1 := hid hvB
     clear hst1 hvA hvB h7a hR ka hg7 hr7 hv7 y6 y7 z6 zf hb7
     generalize w7.setCell ⟨r, 6, none⟩ (.slice p7b (ks.length + 1) q7b) = wC at *
     obtain ⟨us2, hus2, hrows2, hcc2⟩ := HP6.out.rows
     have hul3 : us2.length = ks.length := by rw [hrows2.1, List.length_map]
     have y7 := HP6.out.box.cell 7 (by simp)
     simp only [List.getElem_cons_succ, List.getElem_cons_zero] at y7
     have hsC : w1.heap.size ≤ wC.heap.size := HP6.out.tch.size
     have ka := (Keeps.refl wC).alloc (.cells #[.slice pv l.length cv] 100)
     have hR := HP6.out.keeps ka
     have hV := HV1.out.keeps ka
     have hRow := own_keeps hus2 ka
     have hRowK := hRow
     rw [hul3] at hRowK
     have HRK := hid hRowK
     clear hRowK
     have HU3 := hid hul3
     have hRow2 := hrows2.keeps ka
     have HX := hid (And.intro hRow (And.intro hRow2 hcc2))
     have HHR := hid hR
     clear hus2 hrows2 hcc2 hRow hRow2 hR hul3
     go_wp2_with (at_builtin; refine appBB rfl _ _ rfl w1.heap.size _ us2 rfl HRK.out (some ⟨wC.heap.size, 0, none⟩) 1 (.slice pv l.length cv) rfl (At.lit1 wC _ _) rfl (by simp; omega) (by omega) ?_; intro v8 w8 hv8 hg8 hr8; have hb8 := HHR.out.box7 HX.out.1 hg8; have z7 := hb8.cell 7 (by simp); have zf := hb8.froz 7; simp only [List.getElem_cons_succ, List.getElem_cons_zero] at z7; obtain ⟨p8b, q8b, rfl, hq8b, hx8b, -⟩ := At.of_own hv8)
     have hP7 := HHR.out.push7 HX.out.1 HX.out.2.1 HX.out.2.2 hV (by omega) (by omega) hg8 (by rw [HU3.out]) hv8
     have hst8 : StayX w w8 := ((HST2.out.trans (StayX.keeps ka))).trans (StayX.row HX.out.1 hg8)
     have hst9 := hst8.trans (StayX.box (i := 7) (x := .slice p8b (ks.length + 1) q8b) (HHR.out.box7 HX.out.1 hg8))
     have HP7 := hid hP7
     have HST := hid hst9
     go_ret
     refine ⟨_, _, _, ks ++ [x], rfl, HP7.out.2.mono (by omega), fun k hk => by have := (HP7.out.2.len k hk).1; omega, HP7.out.1, ?_, ?_, HST.out⟩
     ·rw [List.nodup_append]
      refine ⟨HND.out, by simp, ?_⟩
      intro a ha b hb e
      simp at hb
      subst hb; subst e
      exact HNX.out ha
     ·intro k hk
      rcases List.mem_append.1 hk with h | h
      ·exact HUU.out k h
      ·simp at h; subst h; exact hxU
end Go.Proofs.YtkkcfifnkcnceaaGreat
