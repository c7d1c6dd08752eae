/- The reference's space while it is made: its stages. -/
import Derived.Test.YtkkcfifnkcnceaaGreatHRP
namespace Go.Proofs.YtkkcfifnkcnceaaGreat
open Go.RowKit
def mskT (E : List Fm) (t : Nat) : Nat → Nat
 | 0 => 0
 | i + 1 => if (isMo (E.getD i .fls) && innB E i t) = true then mskT E t i ||| 2 ^ i else mskT E t i
theorem mskT_lt (E : List Fm) (t : Nat) : ∀ i, mskT E t i < 2 ^ i
 | 0 => by simp [mskT]
 | i + 1 => by
  have h := mskT_lt E t i
  have h2 : 2 ^ i < 2 ^ (i + 1) := Nat.pow_lt_pow_right (by omega) (by omega)
  unfold mskT
  split
  ·exact Nat.or_lt_two_pow (by omega) h2
  ·omega
theorem mskT_bit (E : List Fm) (t : Nat) : ∀ i j, j < i → (mskT E t i).testBit j = (isMo (E.getD j .fls) && innB E j t)
 | 0, j, h => by omega
 | i + 1, j, h => by
  unfold mskT
  by_cases hj : j < i
  ·have ih := mskT_bit E t i j hj
   split
   ·rw [Nat.testBit_or, ih, Nat.testBit_two_pow]
    rw [decide_eq_false (by omega), Bool.or_false]
   ·exact ih
  ·obtain rfl : j = i := by omega
   have hb : (mskT E t j).testBit j = false := Nat.testBit_lt_two_pow (mskT_lt E t j)
   split
   ·rename_i h2
    rw [Nat.testBit_or, Nat.testBit_two_pow, hb, h2]
    simp
   ·rename_i h2
    rw [hb]
    cases hx : (isMo (E.getD j .fls) && innB E j t)
    ·rfl
    ·exact absurd hx h2
theorem mskT_yes {E : List Fm} {t i : Nat} (h : (isMo (E.getD i .fls) && innB E i t) = true) : mskT E t (i + 1) = mskT E t i ||| 2 ^ i := by rw [mskT, if_pos h]
theorem mskT_no {E : List Fm} {t i : Nat} (h : (isMo (E.getD i .fls) && innB E i t) = false) : mskT E t (i + 1) = mskT E t i := by rw [mskT, if_neg (by rw [h]; simp)]
def mskM (E : List Fm) (m : Nat) : Nat := mskT E m E.length
theorem mskM_lt {E : List Fm} (h8 : E.length ≤ 8) (m : Nat) : mskM E m < 256 := Nat.lt_of_lt_of_le (mskT_lt E m E.length) (two8 h8)
theorem mskM_bit {E : List Fm} {m i : Nat} (hi : i < E.length) (hm : isMo (E.getD i .fls) = true) : (mskM E m).testBit i = innB E i m := by
 unfold mskM
 rw [mskT_bit E m E.length i hi, hm, Bool.true_and]
theorem natI_map (l : List Nat) (k : Nat) : natI (l ++ [k]) = natI l ++ [(k : Int)] := by simp [natI]
theorem appILK {w : World} {o : Oper} {a : Act} {K : Act → World → Prop} {Q : Exit → Act → World → Prop} (s x : Operand)
  (ho : o.op = .call { callee := .builtin .append, args := #[s, x], argTypes := #[62, 62] }) (base : Nat) (v : Value) (xs : List Int) (hs : a.eval s = v) (hown : OwnI w base v xs)
  (u : Value) (y : Int) (hx : a.eval x = u) (hu : Ints w u [y]) (hbase : base ≤ w.heap.size) (hlen : xs.length ≤ 1000000)
  (h : ∀ v' w', OwnI w' base v' (xs ++ [y]) → w.grownBy w' v.ownBlock → (∀ k, v.ownBlock = some k → base ≤ k) → (∀ k, v'.ownBlock = some k → v.ownBlock = some k ∨ w.heap.size ≤ k) → K (a.put o.dst v') w') : o.wp Tryz.prog a w K Q := by
 obtain ⟨i0, hi, hz0, hz1, hz2⟩ := info_parts infoI
 obtain ⟨p, cap, rfl, _, _, hat, _⟩ := hu
 obtain ⟨b, off, rfl, hc⟩ := hat 0 (by simp [intCells])
 refine wp_append_lies w s x _ ho base _ i0 _ 1 8 Tryz.underlying62 hi hz0 hz1 hz2 rfl (by decide) v _ _ hs hown ⟨b, off, none⟩ 1 cap [.int .i64 y] hx (by simp) ?_ (by simp [Value.oneCell']) (by omega) (by unfold maxLen; omega) (by omega) hbase _ rfl ?_
 ·intro j u hj
  cases j with
  | zero => simp at hj; subst hj; simpa [Addr.add, intCells] using hc
  | succ j => simp at hj
 ·intro g c' w' h2 h3 h4 h5
  refine h _ w' ?_ h3 (fun k e => (World.ownsRow.lt hown k e).1) (fun k e => ?_)
  ·unfold OwnI
   rw [List.length_append, show intCells (xs ++ [y]) = intCells xs ++ [.int .i64 y] by simp [intCells]]
   exact h2
  ·have : k = g := by simpa [Value.ownBlock] using e.symm
   subst this
   rcases h4 with h4 | h4
   ·exact .inl h4
   ·exact .inr (by omega)
theorem appIL {w : World} {ops : Array Oper} {rest : List Oper} {o : Oper} {a : Act} {Q : Exit → Act → World → Prop} (hgd : o.guard = none) (s x : Operand)
  (ho : o.op = .call { callee := .builtin .append, args := #[s, x], argTypes := #[62, 62] }) (base : Nat) (v : Value) (xs : List Int) (hs : a.eval s = v) (hown : OwnI w base v xs)
  (u : Value) (y : Int) (hx : a.eval x = u) (hu : Ints w u [y]) (hbase : base ≤ w.heap.size) (hlen : xs.length ≤ 1000000)
  (h : ∀ v' w', OwnI w' base v' (xs ++ [y]) → w.grownBy w' v.ownBlock → (∀ k, v.ownBlock = some k → base ≤ k) → (∀ k, v'.ownBlock = some k → v.ownBlock = some k ∨ w.heap.size ≤ k) → wpList Tryz.prog ops Q rest (a.put o.dst v') w') : wpList Tryz.prog ops Q (o :: rest) a w :=
 wpList_plain hgd fun _ hK => appILK s x ho base v xs hs hown u y hx hu hbase hlen fun v' w' h1 h2 h3 h4 => hK _ _ (h v' w' h1 h2 h3 h4)
theorem stepInn {w : World} {ops : Array Oper} {o : Oper} {a : Act} {K : Act → World → Prop} {Q : Exit → Act → World → Prop} {E : Prop} (hgd : o.guard = none) (s x : Operand)
  (ho : o.op = .call { callee := .builtin .append, args := #[s, x], argTypes := #[73, 73] }) (base : Nat) (v : Value) (ts : List Fm) (hs : a.eval s = v)
  (hown : InnL w base v ts) (g m c : Nat) (t : Fm) (hu : OwnN w base (.slice (some ⟨g, 0, none⟩) m c) t.enc) (hbase : base ≤ w.heap.size)
  (p : Option Addr) (cc : Nat) (hx : a.eval x = .slice p 1 cc) (hat : At w p [tlV (.slice (some ⟨g, 0, none⟩) m c)]) (hlen : ts.length ≤ 1000000)
  (h : ∀ v' w', InnL w' base v' (ts ++ [t]) → w.grownBy w' v.ownBlock → (∀ k, v.ownBlock = some k → base ≤ k) → K (a.put o.dst v') w') : if Region.wanted o (yielded ops a.tmps) = true then Oper.wp Tryz.prog o a w K Q else E := by
 rw [if_pos (by simp [Region.wanted, hgd])]
 obtain ⟨i0, hi, hz0, hz1, hz2⟩ := info_parts infoL
 obtain ⟨us, hrow, hr, h3⟩ := hown
 refine wp_append_at s x _ ho _ i0 _ 1 24 Tryz.underlying73 hi hz0 hz1 hz2 rfl (by decide) base v _ _ hs hrow p 1 cc [tlV (.slice (some ⟨g, 0, none⟩) m c)] hx (by simp) hat (by simp [tlV, Value.oneCell']) (by unfold maxLen; omega) (by omega) hbase ?_
 intro v' w' h1 h2 h4
 refine h v' w' ⟨us ++ [.slice (some ⟨g, 0, none⟩) m c], ?_, ?_, ?_⟩ h2 h4
 ·rw [List.length_append, List.map_append]
  exact h1
 ·rw [List.map_append]
  refine RowsN.snoc ?_ (hr.touch (Touch.grown h2) (fun i hb e => ?_))
  ·exact hu.touch (Touch.grown h2) (fun i hi e => type_ne hrow hu (by decide) e.symm hi)
  ·obtain ⟨j, hj, e2⟩ := hb
   exact type_ne hrow (hr.2 j hj (by have := hr.1; omega)) (by decide) e.symm e2
 ·intro u hu2
  rcases List.mem_append.1 hu2 with h | h
  ·exact h3 u h
  ·exact ⟨g, m, c, by simpa using h⟩
structure Sp1 (w2 wr : World) (r : Nat) (lg pv v2 v3 : Value) (ks : List Int) (ts : List Fm) : Prop where
 box : BoxG wr r 103 [lg, pv, v2, v3, .slice none 0 0, .slice none 0 0, .slice none 0 0, .slice none 0 0]
 kd : OwnI wr w2.heap.size v2 ks
 inn : InnL wr w2.heap.size v3 ts
 kp : Keeps w2 wr
 hr : w2.heap.size ≤ r
theorem Sp1.keeps {w2 wr w' : World} {r : Nat} {lg pv v2 v3 : Value} {ks : List Int} {ts : List Fm} (h : Sp1 w2 wr r lg pv v2 v3 ks ts) (k : Keeps wr w') : Sp1 w2 w' r lg pv v2 v3 ks ts := ⟨h.box.keeps k, h.kd.keeps k, h.inn.keeps k, h.kp.trans k, h.hr⟩
theorem Sp1.boxK {w2 w5 w6 : World} {r : Nat} {lg pv v2 v3 : Value} {ks : List Int} {ts : List Fm} (h : Sp1 w2 w5 r lg pv v2 v3 ks ts) (g : w5.grownBy w6 v2.ownBlock) : BoxG w6 r 103 [lg, pv, v2, v3, .slice none 0 0, .slice none 0 0, .slice none 0 0, .slice none 0 0] := h.box.other h.kd (by decide) g
theorem Sp1.pushK {w2 w5 w6 : World} {r : Nat} {lg pv v2 v3 v' : Value} {ks ks' : List Int} {ts : List Fm} (h : Sp1 w2 w5 r lg pv v2 v3 ks ts) (g : w5.grownBy w6 v2.ownBlock) (h6 : OwnI w6 w2.heap.size v' ks') : Sp1 w2 (w6.setCell ⟨r, 2, none⟩ v') r lg pv v' v3 ks' ts := by
 have hb := h.boxK g
 exact ⟨hb.set 2 v', own_boxed h6 hb (by decide), (h.inn.grownI h.kd g).boxed hb (by decide) (by decide), (h.kp.grown g (fun k e => (h.kd.len k e).1)).setCell h.hr v', h.hr⟩
theorem Sp1.boxI {w2 w5 w6 : World} {r : Nat} {lg pv v2 v3 : Value} {ks : List Int} {ts : List Fm} (h : Sp1 w2 w5 r lg pv v2 v3 ks ts) (g : w5.grownBy w6 v3.ownBlock) : BoxG w6 r 103 [lg, pv, v2, v3, .slice none 0 0, .slice none 0 0, .slice none 0 0, .slice none 0 0] := by
 obtain ⟨us, h1, _⟩ := h.inn
 exact h.box.other h1 (by decide) g
theorem Sp1.pushI {w2 w5 w6 : World} {r : Nat} {lg pv v2 v3 v' : Value} {ks : List Int} {ts ts' : List Fm} (h : Sp1 w2 w5 r lg pv v2 v3 ks ts) (g : w5.grownBy w6 v3.ownBlock) (h6 : InnL w6 w2.heap.size v' ts') : Sp1 w2 (w6.setCell ⟨r, 3, none⟩ v') r lg pv v2 v' ks ts' := by
 have hb := h.boxI g
 obtain ⟨us, h1, _⟩ := h.inn
 have hk : OwnI w6 w2.heap.size v2 ks := own_touch h.kd (Touch.grown g) (fun i e hi => type_ne h1 h.kd (by decide) hi.symm e)
 exact ⟨hb.set 3 v', own_boxed hk hb (by decide), h6.boxed hb (by decide) (by decide), (h.kp.grown g (fun k e => (World.ownsRow.lt h1 k e).1)).setCell h.hr v', h.hr⟩
structure Sp2 (w5 wr : World) (r : Nat) (c0 c1 c2 c3 v4 vt : Value) (M T : List Int) : Prop where
 box : BoxG wr r 103 [c0, c1, c2, c3, v4, .slice none 0 0, .slice none 0 0, .slice none 0 0]
 r4 : OwnI wr w5.heap.size v4 M
 rt : OwnI wr w5.heap.size vt T
 ap : ∀ k, v4.ownBlock = some k → vt.ownBlock ≠ some k
 to : Touch w5 wr (fun i => i = r)
theorem Sp2.keeps {w5 wr w' : World} {r : Nat} {c0 c1 c2 c3 v4 vt : Value} {M T : List Int} (h : Sp2 w5 wr r c0 c1 c2 c3 v4 vt M T) (k : Keeps wr w') : Sp2 w5 w' r c0 c1 c2 c3 v4 vt M T := ⟨h.box.keeps k, h.r4.keeps k, h.rt.keeps k, h.ap, h.to.keeps k⟩
theorem Sp2.box4 {w5 w6 w7 : World} {r : Nat} {c0 c1 c2 c3 v4 vt : Value} {M T : List Int} (h : Sp2 w5 w6 r c0 c1 c2 c3 v4 vt M T) (g : w6.grownBy w7 v4.ownBlock) : BoxG w7 r 103 [c0, c1, c2, c3, v4, .slice none 0 0, .slice none 0 0, .slice none 0 0] := h.box.other h.r4 (by decide) g
theorem Sp2.push4 {w5 w6 w7 : World} {r : Nat} {c0 c1 c2 c3 v4 vt v' : Value} {M M' T : List Int} (h : Sp2 w5 w6 r c0 c1 c2 c3 v4 vt M T) (g : w6.grownBy w7 v4.ownBlock) (h7 : OwnI w7 w5.heap.size v' M') (hn : ∀ k, v'.ownBlock = some k → v4.ownBlock = some k ∨ w6.heap.size ≤ k) :
  Sp2 w5 (w7.setCell ⟨r, 4, none⟩ v') r c0 c1 c2 c3 v' vt M' T := by
 have hb := h.box4 g
 have ht : OwnI w7 w5.heap.size vt T := own_touch h.rt (Touch.grown g) (fun i e hi => h.ap i hi.symm e)
 exact ⟨hb.set 4 v', own_boxed h7 hb (by decide), own_boxed ht hb (by decide), fun k e e5 => by
  rcases hn k e with h1 | h1
  ·exact h.ap k h1 e5
  ·have := (h.rt.len k e5).2; omega, (h.to.push g (fun k e => .inl (h.r4.len k e).1)).ofBox hb rfl⟩
theorem Sp2.pushT {w5 w6 w7 : World} {r : Nat} {c0 c1 c2 c3 v4 vt v' : Value} {M T T' : List Int} (h : Sp2 w5 w6 r c0 c1 c2 c3 v4 vt M T) (g : w6.grownBy w7 vt.ownBlock) (h7 : OwnI w7 w5.heap.size v' T') (hn : ∀ k, v'.ownBlock = some k → vt.ownBlock = some k ∨ w6.heap.size ≤ k) :
  Sp2 w5 w7 r c0 c1 c2 c3 v4 v' M T' := by
 have h4 : OwnI w7 w5.heap.size v4 M := own_touch h.r4 (Touch.grown g) (fun i e hi => h.ap i e hi.symm)
 exact ⟨h.box.other h.rt (by decide) g, h4, h7, fun k e e5 => by
  rcases hn k e5 with h1 | h1
  ·exact h.ap k e h1
  ·have := (h.r4.len k e).2; omega, h.to.push g (fun k e => .inl (h.rt.len k e).1)⟩
end Go.Proofs.YtkkcfifnkcnceaaGreat
