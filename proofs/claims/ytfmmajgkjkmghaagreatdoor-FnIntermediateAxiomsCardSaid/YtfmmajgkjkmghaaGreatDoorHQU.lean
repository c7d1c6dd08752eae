import Derived.Test.YtfmmajgkjkmghaaGreatDoorHQ2
import Derived.Test.YtfmmajgkjkmghaaGreatDoorHQR
import Derived.Test.YtfmmajgkjkmghaaGreatDoorHAL
import Derived.Test.YtfmmajgkjkmghaaGreatDoorHQT
import Derived.Laws.CopyOwn
import Derived.Deep.RegionLaw
/- Rows of lists of numbers, and of posets. -/
namespace Go.Proofs.YtfmmajgkjkmghaaGreatDoor
open Go.RowKit
def RowsI (w : World) (B : Nat) (vs : List Value) (xs : List (List Nat)) : Prop := vs.length = xs.length ∧ ∀ i (h1 : i < vs.length) (h2 : i < xs.length), OwnI w B vs[i] (zs xs[i])
theorem RowsI.nil (w : World) (B : Nat) : RowsI w B [] [] := ⟨rfl, fun i h => by simp at h⟩
theorem RowsI.snoc {w : World} {B : Nat} {v : Value} {vs : List Value} {x : List Nat} {xs : List (List Nat)} (h : OwnI w B v (zs x)) (hs : RowsI w B vs xs) : RowsI w B (vs ++ [v]) (xs ++ [x]) :=
 ⟨by simp [hs.1], fun i h1 h2 => by
  have hl := hs.1
  by_cases hi : i < vs.length
  ·rw [List.getElem_append_left hi, List.getElem_append_left (by omega)]; exact hs.2 i hi (by omega)
  ·simp at h1
   obtain rfl : i = vs.length := by omega
   rw [List.getElem_append_right (Nat.le_refl _), List.getElem_append_right (by omega)]
   simpa [hl] using h⟩
theorem RowsI.append {w : World} {B : Nat} {vs us : List Value} {xs ys : List (List Nat)} (h : RowsI w B vs xs) (g : RowsI w B us ys) : RowsI w B (vs ++ us) (xs ++ ys) :=
 ⟨by simp [h.1, g.1], fun i h1 h2 => by
  have hl := h.1
  have gl := g.1
  simp at h1 h2
  by_cases hi : i < vs.length
  ·rw [List.getElem_append_left hi, List.getElem_append_left (by omega)]; exact h.2 i hi (by omega)
  ·rw [List.getElem_append_right (by omega), List.getElem_append_right (by omega)]
   have := g.2 (i - vs.length) (by omega) (by omega)
   simpa [hl] using this⟩
theorem RowsI.keeps {w w' : World} {B : Nat} {vs : List Value} {xs : List (List Nat)} (h : RowsI w B vs xs) (k : Keeps w w') : RowsI w' B vs xs := ⟨h.1, fun i h1 h2 => (h.2 i h1 h2).keeps k⟩
theorem RowsI.mono {w : World} {B B' : Nat} {vs : List Value} {xs : List (List Nat)} (h : RowsI w B vs xs) (k : B' ≤ B) : RowsI w B' vs xs := ⟨h.1, fun i h1 h2 => (h.2 i h1 h2).mono k⟩
def blkI (vs : List Value) (k : Nat) : Prop := ∃ i, ∃ h : i < vs.length, vs[i].ownBlock = some k
theorem RowsI.touch {w w' : World} {S : Nat → Prop} {B : Nat} {vs : List Value} {xs : List (List Nat)} (h : RowsI w B vs xs) (k : Touch w w' S) (hS : ∀ i, blkI vs i → ¬ S i) : RowsI w' B vs xs :=
 ⟨h.1, fun i h1 h2 => (h.2 i h1 h2).touch k (fun j e => hS j ⟨i, h1, e⟩)⟩
theorem RowsI.off {w : World} {B B' : Nat} {T : TypeId} {s n : Nat} {v : Value} {hs vs : List Value} {xs : List (List Nat)} (h : RowsI w B vs xs) (ho : w.ownsRow B' T s v n hs) (hT : T ≠ 2) {k : Nat} (hk : v.ownBlock = some k) : ¬ blkI vs k := fun ⟨i, hi, e⟩ =>
 type_ne ho (h.2 i hi (by have := h.1; omega)) hT hk e
theorem infoLI : (Tryz.prog.info? 24).map (fun i => (i.zero, i.size, i.bytes)) = some (some (.slice none 0 0), 1, 24) := by kernel_rfl
theorem tyneLI : (24 : TypeId) ≠ 2 := by decide
def OwnLI (w : World) (B : Nat) (v : Value) (xs : List (List Nat)) : Prop := ∃ vs, w.ownsRow B 24 1 v xs.length vs ∧ RowsI w B vs xs
theorem OwnLI.nil (w : World) (B : Nat) : OwnLI w B (.slice none 0 0) [] := ⟨[], World.ownsRow_nil w B _ 1, RowsI.nil _ _⟩
theorem OwnLI.keeps {w w' : World} {B : Nat} {v : Value} {xs : List (List Nat)} (h : OwnLI w B v xs) (k : Keeps w w') : OwnLI w' B v xs := by
 obtain ⟨vs, ho, hr⟩ := h
 exact ⟨vs, own_keeps ho k, hr.keeps k⟩
theorem OwnLI.mono {w : World} {B B' : Nat} {v : Value} {xs : List (List Nat)} (h : OwnLI w B v xs) (k : B' ≤ B) : OwnLI w B' v xs := by
 obtain ⟨vs, ho, hr⟩ := h
 exact ⟨vs, own_mono ho k, hr.mono k⟩
theorem OwnLI.shape {w : World} {B : Nat} {v : Value} {xs : List (List Nat)} (h : OwnLI w B v xs) : ∃ p cap, v = .slice p xs.length cap ∧ xs.length ≤ cap ∧ cap ≤ maxLen := by
 obtain ⟨vs, ho, _⟩ := h
 obtain ⟨p, cap, h1, h2, h3, _⟩ := At.of_own ho
 exact ⟨p, cap, h1, h2, h3⟩
theorem OwnLI.get {w : World} {B : Nat} {p : Option Addr} {n cap : Nat} {xs : List (List Nat)} (h : OwnLI w B (.slice p n cap) xs) (i : Nat) (hi : i < xs.length) :
  ∃ b off u, p = some ⟨b, off, none⟩ ∧ w.cell? ⟨b, off + i, none⟩ = some u ∧ OwnI w B u (zs xs[i]) := by
 obtain ⟨vs, ho, hr⟩ := h
 obtain ⟨p', cap', e, _, _, hat⟩ := At.of_own ho
 cases e
 obtain ⟨b, off, hp, hc⟩ := hat i (by rw [hr.1]; exact hi)
 exact ⟨b, off, _, hp, hc, hr.2 i (by rw [hr.1]; exact hi) hi⟩
theorem OwnI.one {w : World} {B : Nat} {u : Value} {x : List Int} (h : OwnI w B u x) : u.oneCell' = true := by
 obtain ⟨p, c, e, _⟩ := At.of_own h
 rw [e]; rfl
theorem appLIK {w : World} {o : Oper} {a : Act} {K : Act → World → Prop} {Q : Exit → Act → World → Prop} (s x : Operand)
  (ho : o.op = .call { callee := .builtin .append, args := #[s, x], argTypes := #[54, 54] }) (base : Nat) (v : Value) (xs : List (List Nat)) (hs : a.eval s = v)
  (w0 : World) (hown : OwnLI w0 base v xs) (k : Keeps w0 w) (u : Value) (y : List Nat) (hu : OwnI w base u (zs y)) (hbase : base ≤ w.heap.size)
  (p : Option Addr) (c : Nat) (hx : a.eval x = .slice p 1 c) (hat : At w p [u]) (hlen : xs.length ≤ 2147483647)
  (h : ∀ v' w', OwnLI w' base v' (xs ++ [y]) → w.grownBy w' v.ownBlock → (∀ k, v.ownBlock = some k → base ≤ k) → K (a.put o.dst v') w') : o.wp Tryz.prog a w K Q := by
 obtain ⟨i0, hi, hz0, hz1, hz2⟩ := info_parts infoLI
 obtain ⟨vs, hrow, hr⟩ := hown
 have hone : ∀ z ∈ [u], z.oneCell' = true := by
  intro z hz
  simp at hz; subst hz
  exact hu.one
 have hrow' := own_keeps hrow k
 have hr' := hr.keeps k
 refine wp_append_at s x _ ho _ i0 _ 1 24 Tryz.underlying54 hi hz0 hz1 hz2 rfl (by decide) base v _ _ hs hrow' p 1 c [u] hx (by simp) hat hone (by unfold maxLen; omega) (by omega) hbase ?_
 intro v' w' h1 h2 h3
 refine h v' w' ⟨vs ++ [u], by rw [List.length_append]; exact h1, RowsI.snoc ?_ ?_⟩ h2 h3
 ·exact hu.touch (Touch.grown h2) (fun i hi e => type_ne hrow' hu tyneLI e.symm hi)
 ·exact hr'.touch (Touch.grown h2) (fun i hb e => hr'.off hrow' tyneLI e.symm hb)
theorem stepLI {w : World} {ops : Array Oper} {o : Oper} {a : Act} {K : Act → World → Prop} {Q : Exit → Act → World → Prop} {E : Prop} (hgd : o.guard = none) (s x : Operand)
  (ho : o.op = .call { callee := .builtin .append, args := #[s, x], argTypes := #[54, 54] }) (base : Nat) (v : Value) (xs : List (List Nat)) (hs : a.eval s = v)
  (w0 : World) (hown : OwnLI w0 base v xs) (k : Keeps w0 w) (u : Value) (y : List Nat) (hu : OwnI w base u (zs y)) (hbase : base ≤ w.heap.size)
  (p : Option Addr) (c : Nat) (hx : a.eval x = .slice p 1 c) (hat : At w p [u]) (hlen : xs.length ≤ 2147483647)
  (h : ∀ v' w', OwnLI w' base v' (xs ++ [y]) → w.grownBy w' v.ownBlock → (∀ k, v.ownBlock = some k → base ≤ k) → K (a.put o.dst v') w') : if Region.wanted o (yielded ops a.tmps) = true then Oper.wp Tryz.prog o a w K Q else E := by
 rw [if_pos (by simp [Region.wanted, hgd])]
 exact appLIK s x ho base v xs hs w0 hown k u y hu hbase p c hx hat hlen h
def RetLI (w : World) (xs : List (List Nat)) (e : Ending) (w' : World) : Prop := ∃ v, e = .returned v ∧ OwnLI w' w.heap.size v xs ∧ Keeps w w'
def psCells : List (List Nat) → List Value → List Value
 | x :: xs, u :: us => .int .i64 (x.length : Nat) :: u :: psCells xs us
 | _, _ => []
theorem psCells_len : ∀ (xs : List (List Nat)) (us : List Value), us.length = xs.length → (psCells xs us).length = xs.length * 2
 | [], [], _ => rfl
 | x :: xs, u :: us, h => by
  have := psCells_len xs us (by simpa using h)
  simp only [psCells, List.length_cons, this]; omega
 | [], _ :: _, h => by simp at h
 | _ :: _, [], h => by simp at h
theorem psCells_append : ∀ (xs ys : List (List Nat)) (us vs : List Value), us.length = xs.length → psCells (xs ++ ys) (us ++ vs) = psCells xs us ++ psCells ys vs
 | [], _, [], _, _ => rfl
 | x :: xs, ys, u :: us, vs, h => by
  have := psCells_append xs ys us vs (by simpa using h)
  simp only [List.cons_append, psCells, this]
 | [], _, _ :: _, _, h => by simp at h
 | _ :: _, _, [], _, h => by simp at h
theorem psCells_get : ∀ (xs : List (List Nat)) (us : List Value) (i : Nat) (h1 : i < xs.length) (h2 : i < us.length), (psCells xs us)[i * 2]? = some (.int .i64 (xs[i].length : Nat)) ∧ (psCells xs us)[i * 2 + 1]? = some us[i]
 | x :: xs, u :: us, 0, _, _ => by simp [psCells]
 | x :: xs, u :: us, i + 1, h1, h2 => by
  have := psCells_get xs us i (by simpa using h1) (by simpa using h2)
  simpa [psCells, Nat.add_mul] using this
theorem psCells_one : ∀ (xs : List (List Nat)) (us : List Value), (∀ u ∈ us, u.oneCell' = true) → ∀ z ∈ psCells xs us, z.oneCell' = true
 | x :: xs, u :: us, h, z, hz => by
  simp only [psCells, List.mem_cons] at hz
  rcases hz with rfl | rfl | hz
  ·rfl
  ·exact h _ (by simp)
  ·exact psCells_one xs us (fun u hu => h u (by simp [hu])) z hz
 | [], _, _, z, hz => by simp [psCells] at hz
 | _ :: _, [], _, z, hz => by simp [psCells] at hz
theorem infoPs : (Tryz.prog.info? 26).map (fun i => (i.zero, i.size, i.bytes)) = some (some (.agg #[.int .i64 0, .slice none 0 0]), 2, 32) := by kernel_rfl
theorem tynePs : (26 : TypeId) ≠ 2 := by decide
def OwnPs (w : World) (B : Nat) (v : Value) (xs : List (List Nat)) : Prop := ∃ us, w.ownsRow B 26 2 v xs.length (psCells xs us) ∧ RowsI w B us xs
theorem OwnPs.nil (w : World) (B : Nat) : OwnPs w B (.slice none 0 0) [] := ⟨[], World.ownsRow_nil w B _ 2, RowsI.nil _ _⟩
theorem OwnPs.keeps {w w' : World} {B : Nat} {v : Value} {xs : List (List Nat)} (h : OwnPs w B v xs) (k : Keeps w w') : OwnPs w' B v xs := by
 obtain ⟨vs, ho, hr⟩ := h
 exact ⟨vs, own_keeps ho k, hr.keeps k⟩
theorem OwnPs.shape {w : World} {B : Nat} {v : Value} {xs : List (List Nat)} (h : OwnPs w B v xs) : ∃ p cap, v = .slice p xs.length cap ∧ xs.length ≤ cap ∧ cap ≤ maxLen := by
 obtain ⟨vs, ho, _⟩ := h
 obtain ⟨p, cap, h1, h2, h3, _⟩ := At.of_own ho
 exact ⟨p, cap, h1, h2, h3⟩
theorem OwnPs.get {w : World} {B : Nat} {p : Option Addr} {n cap : Nat} {xs : List (List Nat)} (h : OwnPs w B (.slice p n cap) xs) (i : Nat) (hi : i < xs.length) :
  ∃ b off u, p = some ⟨b, off, none⟩ ∧ w.cell? ⟨b, off + i * 2, none⟩ = some (.int .i64 (xs[i].length : Nat)) ∧ w.cell? ⟨b, off + i * 2 + 1, none⟩ = some u ∧ OwnI w B u (zs xs[i]) := by
 obtain ⟨us, ho, hr⟩ := h
 have hul := hr.1
 obtain ⟨p', cap', e, _, _, hat⟩ := At.of_own ho
 cases e
 have hl := psCells_len xs us hul
 obtain ⟨g1, g2⟩ := psCells_get xs us i hi (by omega)
 obtain ⟨b, off, hp, hc⟩ := hat (i * 2) (by omega)
 obtain ⟨b', off', hp', hc'⟩ := hat (i * 2 + 1) (by omega)
 rw [hp] at hp'
 cases hp'
 rw [List.getElem?_eq_getElem (by omega)] at g1 g2
 rw [Option.some.inj g1] at hc
 rw [Option.some.inj g2] at hc'
 exact ⟨b, off, us[i]'(by omega), hp, hc, by rw [Nat.add_assoc]; exact hc', hr.2 i (by omega) hi⟩
theorem appPsK {w : World} {o : Oper} {a : Act} {K : Act → World → Prop} {Q : Exit → Act → World → Prop} (s x : Operand)
  (ho : o.op = .call { callee := .builtin .append, args := #[s, x], argTypes := #[35, 35] }) (base : Nat) (v : Value) (xs : List (List Nat)) (hs : a.eval s = v)
  (w0 : World) (hown : OwnPs w0 base v xs) (k : Keeps w0 w) (us : List Value) (ys : List (List Nat)) (hu : RowsI w base us ys) (hbase : base ≤ w.heap.size)
  (p : Option Addr) (c : Nat) (hx : a.eval x = .slice p ys.length c) (hat : At w p (psCells ys us)) (hlen : xs.length + ys.length ≤ 2147483647)
  (h : ∀ v' w', OwnPs w' base v' (xs ++ ys) → w.grownBy w' v.ownBlock → (∀ k, v.ownBlock = some k → base ≤ k) → K (a.put o.dst v') w') : o.wp Tryz.prog a w K Q := by
 obtain ⟨i0, hi, hz0, hz1, hz2⟩ := info_parts infoPs
 obtain ⟨vs, hrow, hr⟩ := hown
 have hone : ∀ z ∈ psCells ys us, z.oneCell' = true := psCells_one ys us fun u hu' => by
  obtain ⟨j, hj, rfl⟩ := List.getElem_of_mem hu'
  exact (hu.2 j hj (by have := hu.1; omega)).one
 have hrow' := own_keeps hrow k
 have hr' := hr.keeps k
 refine wp_append_at s x _ ho _ i0 _ 2 32 Tryz.underlying35 hi hz0 hz1 hz2 rfl (by decide) base v _ _ hs hrow' p ys.length c (psCells ys us) hx (psCells_len ys us hu.1) hat hone (by unfold maxLen; omega) (by omega) hbase ?_
 intro v' w' h1 h2 h3
 refine h v' w' ⟨vs ++ us, ?_, RowsI.append ?_ ?_⟩ h2 h3
 ·rw [List.length_append, psCells_append _ _ _ _ hr.1]; exact h1
 ·exact hr'.touch (Touch.grown h2) (fun i hb e => hr'.off hrow' tynePs e.symm hb)
 ·exact hu.touch (Touch.grown h2) (fun i hb e => hu.off hrow' tynePs e.symm hb)
theorem appPs {w : World} {ops : Array Oper} {rest : List Oper} {o : Oper} {a : Act} {Q : Exit → Act → World → Prop} (hgd : o.guard = none) (s x : Operand)
  (ho : o.op = .call { callee := .builtin .append, args := #[s, x], argTypes := #[35, 35] }) (base : Nat) (v : Value) (xs : List (List Nat)) (hs : a.eval s = v)
  (w0 : World) (hown : OwnPs w0 base v xs) (k : Keeps w0 w) (us : List Value) (ys : List (List Nat)) (hu : RowsI w base us ys) (hbase : base ≤ w.heap.size)
  (p : Option Addr) (c : Nat) (hx : a.eval x = .slice p ys.length c) (hat : At w p (psCells ys us)) (hlen : xs.length + ys.length ≤ 2147483647)
  (h : ∀ v' w', OwnPs w' base v' (xs ++ ys) → w.grownBy w' v.ownBlock → (∀ k, v.ownBlock = some k → base ≤ k) → wpList Tryz.prog ops Q rest (a.put o.dst v') w') : wpList Tryz.prog ops Q (o :: rest) a w :=
 wpList_plain hgd fun _ hK => appPsK s x ho base v xs hs w0 hown k us ys hu hbase p c hx hat hlen fun v' w' h1 h2 h3 => hK _ _ (h v' w' h1 h2 h3)
theorem At.ps1 {w : World} {u : Value} {x : List Nat} {E : TypeId} : At (w.alloc (.cells #[.int .i64 (x.length : Nat), u] E)) (some ⟨w.heap.size, 0, none⟩) (psCells [x] [u]) := by
 intro j hj
 match j, hj with
 | 0, _ => exact ⟨_, _, rfl, by simp [psCells]⟩
 | 1, _ => exact ⟨_, _, rfl, by simp [psCells]⟩
theorem RowsI.one {w : World} {B : Nat} {u : Value} {x : List Nat} (h : OwnI w B u (zs x)) : RowsI w B [u] [x] := RowsI.snoc (vs := []) (xs := []) h (RowsI.nil _ _)
end Go.Proofs.YtfmmajgkjkmghaaGreatDoor
namespace Go.Proofs.YtfmmajgkjkmghaaGreatDoor
open Go.RowKit
theorem cmpL_step (x y : Nat) (a b : List Nat) : cmpL (x :: a) (y :: b) = if x < y then -1 else if y < x then 1 else cmpL a b := by
 unfold cmpL
 rw [lessL]
 by_cases h : x = y
 ·subst h
  simp
 ·rw [if_neg h]
  by_cases h1 : x < y
  ·simp [h1]
  ·have h2 : y < x := by omega
   simp [h1, h2, h]
theorem cmpL_nil : cmpL [] [] = 0 := by simp [cmpL, lessL]
theorem cmpL_nl (y : Nat) (b : List Nat) : cmpL [] (y :: b) = -1 := by simp [cmpL, lessL]
theorem cmpL_nr (x : Nat) (a : List Nat) : cmpL (x :: a) [] = 1 := by simp [cmpL, lessL]
theorem cmpL_drop (a b : List Nat) (i : Nat) (ha : i < a.length) (hb : i < b.length) : cmpL (a.drop i) (b.drop i) = if a.getD i 0 < b.getD i 0 then -1 else if b.getD i 0 < a.getD i 0 then 1 else cmpL (a.drop (i + 1)) (b.drop (i + 1)) := by
 rw [List.drop_eq_getElem_cons ha, List.drop_eq_getElem_cons hb, cmpL_step, getD_get ha, getD_get hb]
theorem isNaN64_any (x : Int) (w : World) : Calls Tryz.prog 149 #[.int .i64 x] w fun e w' => e = .returned (.bool false) ∧ w = w' := by
 have h : (x != x) = false := by simp
 go_enter Tryz.func149, Tryz.ntmps149
 go_wp2_with fail
 go_ret
 exact ⟨rfl, rfl⟩
theorem compare64_any (x y : Int) (w : World) : Calls Tryz.prog 84 #[.int .i64 x, .int .i64 y] w fun e w' => e = .returned (.int .i64 (if x < y then -1 else if y < x then 1 else 0)) ∧ w = w' := by
 have HN := hid (fun z => isNaN64_any z w)
 by_cases h1 : x < y
 ·rw [if_pos h1]
  go_enter Tryz.func84, Tryz.ntmps84
  go_wp2_with (go_at_call 149; refine (HN.out _).mono ?_; rintro e w' ⟨rfl, rfl⟩)
  go_ret
  exact ⟨rfl, rfl⟩
 ·rw [if_neg h1]
  by_cases h2 : y < x
  ·rw [if_pos h2]
   have h3 : x > y := h2
   go_enter Tryz.func84, Tryz.ntmps84
   go_wp2_with (go_at_call 149; refine (HN.out _).mono ?_; rintro e w' ⟨rfl, rfl⟩)
   go_ret
   exact ⟨rfl, rfl⟩
  ·rw [if_neg h2]
   have h3 : ¬ x > y := h2
   go_enter Tryz.func84, Tryz.ntmps84
   go_wp2_with (go_at_call 149; refine (HN.out _).mono ?_; rintro e w' ⟨rfl, rfl⟩)
   go_ret
   exact ⟨rfl, rfl⟩
set_option maxRecDepth 20000 in
set_option maxHeartbeats 1000000 in
theorem compareI_any (a b : List Nat) (va vb : Value) (w : World) (hva : Ints w va (zs a)) (hvb : Ints w vb (zs b)) :
  Calls Tryz.prog 80 #[va, vb] w fun e w' => e = .returned (.int .i64 (cmpL a b)) ∧ w = w' := by
 have hva0 := hva
 have hvb0 := hvb
 obtain ⟨p, cap, rfl, _, hmx, _, hl1⟩ := hva
 obtain ⟨q, cap2, rfl, _, hmx2, _, hl2⟩ := hvb
 unfold maxLen at hmx hmx2
 rw [zs_length a] at *
 rw [zs_length b] at *
 have HA := hid (fun i (hi : i < a.length) => hva0.zs_cell i hi)
 have HB := hid (fun i (hi : i < b.length) => hvb0.zs_cell i hi)
 clear hva0 hvb0
 have HD := hid (cmpL_drop a b)
 have HE1 : Hid (a.length < b.length → cmpL (a.drop a.length) (b.drop a.length) = -1) := hid fun h => by
  rw [List.drop_length, List.drop_eq_getElem_cons h, cmpL_nl]
 have HE2 : Hid (a.length = b.length → cmpL (a.drop a.length) (b.drop a.length) = 0) := hid fun h => by
  rw [List.drop_length, h, List.drop_length, cmpL_nil]
 have HE3 : Hid (∀ i, i < a.length → b.length = i → cmpL (a.drop i) (b.drop i) = 1) := hid fun i h e => by
  subst e
  rw [List.drop_length, List.drop_eq_getElem_cons h, cmpL_nr]
 have hst : cmpL a b = cmpL (a.drop 0) (b.drop 0) := rfl
 rw [hst]
 clear hst
 obtain ⟨D, hD⟩ : ∃ D : Nat → Int, ∀ i, D i = cmpL (a.drop i) (b.drop i) := ⟨fun i => cmpL (a.drop i) (b.drop i), fun _ => rfl⟩
 obtain ⟨A, hA⟩ : ∃ A : Nat → Nat, ∀ i, A i = a.getD i 0 := ⟨fun i => a.getD i 0, fun _ => rfl⟩
 obtain ⟨B, hB⟩ : ∃ B : Nat → Nat, ∀ i, B i = b.getD i 0 := ⟨fun i => b.getD i 0, fun _ => rfl⟩
 simp only [← hD, ← hA, ← hB] at *
 clear hD hA hB
 have HC := hid (fun x y => compare64_any x y w)
 generalize a.length = n at *
 generalize b.length = m at *
 go_enter Tryz.func80, Tryz.ntmps80
 go_wp2_with fail
 go_loopw [11] (fun i' wr => ∃ i : Nat, i ≤ n ∧ i ≤ m ∧ i' = .int .i64 i ∧ Hid (D i = D 0) ∧ w = wr) (fun i' _ => n - (intOf i').toNat)
 case atStart => exact ⟨0, by omega, by omega, rfl, hid rfl, rfl⟩
 case round =>
  obtain ⟨i, hi, hi2, rfl, HI, rfl⟩ := hrel
  by_cases hlt : i < n
  ·have hlt' : (i : Int) < n := by omega
   obtain ⟨b1, o1, rfl, h1⟩ := HA.out i hlt
   by_cases hlm : i < m
   ·have hlm' : ¬ ((i : Int) ≥ m) := by omega
    have hlm2 : (i : Int) < m := by omega
    obtain ⟨b2, o2, rfl, h2⟩ := HB.out i hlm
    have hd := HD.out i hlt hlm
    have HCC := hid (HC.out (A i) (B i))
    by_cases hx : A i < B i
    ·rw [if_pos hx] at hd
     have h5 : ((A i : Nat) : Int) < (B i : Nat) := by omega
     rw [if_pos h5] at HCC
     have HX := hid hd; clear hd
     clear hx h5
     generalize A i = x at *
     generalize B i = y at *
     go_wp2_with fail
     refine HCC.out.mono ?_; rintro e w' ⟨rfl, rfl⟩
     go_wp2_with fail
     go_ret
     exact ⟨ret_int (by rw [← HI.out, HX.out]), rfl⟩
    ·rw [if_neg hx] at hd
     have h5 : ¬ ((A i : Nat) : Int) < (B i : Nat) := by omega
     rw [if_neg h5] at HCC
     by_cases hy : B i < A i
     ·rw [if_pos hy] at hd
      have h6 : ((B i : Nat) : Int) < (A i : Nat) := by omega
      rw [if_pos h6] at HCC
      have HX := hid hd; clear hd
      clear hx h5 hy h6
      generalize A i = x at *
      generalize B i = y at *
      go_wp2_with fail
      refine HCC.out.mono ?_; rintro e w' ⟨rfl, rfl⟩
      go_wp2_with fail
      go_ret
      exact ⟨ret_int (by rw [← HI.out, HX.out]), rfl⟩
     ·rw [if_neg hy] at hd
      have h6 : ¬ ((B i : Nat) : Int) < (A i : Nat) := by omega
      rw [if_neg h6] at HCC
      have HX := hid hd; clear hd
      clear hx h5 hy h6
      generalize A i = x at *
      generalize B i = y at *
      go_wp2_with fail
      refine HCC.out.mono ?_; rintro e w' ⟨rfl, rfl⟩
      go_wp2_with fail
      go_roundw
      case rel => exact ⟨i + 1, by omega, by omega, by go_num, hid (by rw [← HX.out]; exact HI.out), trivial⟩
      case measure => simp [intOf]; omega
   ·have hlm' : (i : Int) ≥ m := by omega
    have HX := hid (HE3.out i hlt (by omega))
    go_wp2_with fail
    go_ret
    exact ⟨ret_int (by rw [← HI.out, HX.out]), rfl⟩
  ·have e : n = i := by omega
   subst e
   have hlt' : ¬ (n : Int) < n := by omega
   by_cases hlm : n < m
   ·have hlm' : (n : Int) < m := by omega
    have HX := hid (HE1.out hlm)
    go_wp2_with fail
    go_ret
    exact ⟨ret_int (by rw [← HI.out, HX.out]), rfl⟩
   ·have hlm' : ¬ (n : Int) < m := by omega
    have HX := hid (HE2.out (by omega))
    go_wp2_with fail
    go_ret
    exact ⟨ret_int (by rw [← HI.out, HX.out]), rfl⟩
end Go.Proofs.YtfmmajgkjkmghaaGreatDoor
namespace Go.Proofs.YtfmmajgkjkmghaaGreatDoor
open Go.RowKit
theorem dptL_take {b : List Nat} {k : Nat} (h : k < b.length) : (dptL b).take (k + 1) = (dptL b).take k ++ [dptB b k] := by
 have hl : k < (dptL b).length := by rw [dptL_len]; exact h
 rw [List.take_succ_eq_append_getElem hl]
 congr 2
 have := dptL_get h
 rw [getD_get hl] at this
 exact this
set_option maxRecDepth 20000 in
set_option maxHeartbeats 2000000 in
theorem l05Depths_any (b : List Nat) (hp : Pos b) (v : Value) (w : World) (hv : Ints w v (zs b)) :
  Calls Tryz.prog 121 #[.agg #[.int .i64 b.length, v]] w (RetI w (zs (dptL b))) := by
 obtain ⟨hb, hbm, hr, ht, ha⟩ := id hp
 have kA := (Keeps.refl w).alloc (.cells #[.int .i64 b.length, v] 57)
 obtain ⟨c0, c1⟩ := BoxF.made w b.length v 57
 have HCL := hid (l05Clusters_any b v _ (hv.keeps kA) hb hbm hr ht)
 rw [clB_range hb hbm hr ht ha] at HCL
 have HD := hid (fun x u wz (hx : x < b.length) (kz : Keeps w wz) (hu : Ints wz u (zs (List.range b.length))) => l05Depth_any b hp 8 x hx (cntB_le _) v u wz (hv.keeps kz) hu)
 have HTK := hid (fun k (hk : k < b.length) => dptL_take hk)
 have hdl := dptL_len b
 have HALL : Hid ((dptL b).take b.length = dptL b) := hid (by rw [List.take_of_length_le (by omega)])
 obtain ⟨p, cap, rfl, hle, hmx, _, _⟩ := hv
 unfold maxLen at hmx
 rw [zs_length b] at *
 clear hbm hr ht ha hp
 generalize hn : b.length = n at *
 go_enter Tryz.func121, Tryz.ntmps121
 go_wp2_with fail
 refine HCL.out.mono ?_; rintro e w2 ⟨vc, rfl, hvc, k2⟩
 have z0 := k2.cell c0
 have z1 := k2.cell c1
 obtain ⟨pc, mc, qc, rfl⟩ := hvc.shape0
 have HVC := hid (hvc.ints (by rw [zs_length, List.length_range]; omega))
 have kk := kA.trans k2
 have hE := OwnI.empty w2
 have HE := hid hE
 have k3 := (Keeps.refl w2).alloc (.cells #[] 2)
 have hs2 := kk.size
 clear hvc hE
 go_wp2_with fail
 go_loopw [4, 5] (fun o x' wr => ∃ k : Nat, k ≤ n ∧ x' = .int .i64 k ∧ OwnI wr w2.heap.size o (zs ((dptL b).take k)) ∧ Keeps w2 wr) (fun _ x' _ => n - (intOf x').toNat)
 case atStart => exact ⟨0, by omega, rfl, by simpa [zs] using HE.out, k3⟩
 case round =>
  obtain ⟨k, hk, rfl, hown, kw⟩ := hrel
  have y0 := kw.cell z0
  have y1 := kw.cell z1
  by_cases hlt : k < n
  ·have hlt' : (k : Int) < n := by omega
   have HDk := hid (HD.out k _ wr (by first | exact hlt | omega) (kk.trans kw) (HVC.out.keeps kw))
   have hll : (zs ((dptL b).take k)).length ≤ 8 := by rw [zs_length, List.length_take]; omega
   have HT := hid (HTK.out k (by first | exact hlt | omega))
   have HO := hid hown; clear hown
   generalize dptB b k = d at *
   generalize hL : zs ((dptL b).take k) = L at *
   have HL := hid hL; clear hL
   go_wp2_with (first | (go_at_call 156; refine HDk.out.mono ?_; rintro e w4 ⟨rfl, k4⟩) | (at_builtin; refine appI rfl _ _ rfl w2.heap.size _ L rfl (HO.out.keeps (k4.alloc _)) _ [(d : Int)] rfl (Ints.lit1 w4 d) (by have h1 := k4.size; have h2 := kw.size; simp; omega) (by simp; omega) ?_; intro v1 w5 hv1 hg1 hr1; have k5 := ((kw.trans k4).alloc (.cells #[.int .i64 d] 2)).grown hg1 (by simpa using hr1)))
   go_roundw
   case rel => exact ⟨k + 1, by omega, by go_num, by rw [HT.out, zs_snoc, HL.out]; exact hv1, k5⟩
   case measure => simp [intOf]; omega
  ·obtain rfl : k = n := by omega
   have hlt' : ¬ (k : Int) < k := by omega
   rw [HALL.out] at hown
   go_wp2_with fail
   go_ret
   exact ⟨_, rfl, hown.mono (by omega), kk.trans kw⟩
set_option maxRecDepth 20000 in
theorem l16Depths_any (b : List Nat) (hp : Pos b) (v : Value) (w : World) (hv : Ints w v (zs b)) :
  Calls Tryz.prog 58 #[.agg #[.int .i64 b.length, v]] w (RetI w (zs (dptL b))) := by
 have kA := (Keeps.refl w).alloc (.cells #[.int .i64 b.length, v] 26)
 have HD := hid (l05Depths_any b hp v _ (hv.keeps kA))
 obtain ⟨p, cap, rfl, _⟩ := hv
 have kz := kA.size
 clear hp
 go_enter Tryz.func58, Tryz.ntmps58
 go_wp2_with fail
 refine HD.out.mono ?_; rintro e w2 ⟨vd, rfl, hvd, k2⟩
 go_wp2_with fail
 go_ret
 exact ⟨_, rfl, hvd.mono kz, kA.trans k2⟩
theorem two_u64 {a b c d : Int} (h1 : a = c) (h2 : b = d) : Ending.returned (.tuple #[.int .u64 a, .int .u64 b]) = .returned (.tuple #[.int .u64 c, .int .u64 d]) := by rw [h1, h2]
set_option maxRecDepth 20000 in
theorem mul64_one (n : Nat) (w : World) (hn : n ≤ 8) : Calls Tryz.prog 193 #[.int .u64 1, .int .u64 n] w fun e w' => e = .returned (.tuple #[.int .u64 0, .int .u64 n]) ∧ w = w' := by
 go_enter Tryz.func193, Tryz.ntmps193
 go_wp2
 refine bodyPost_ret (v := ?v) ?h rfl ?_
 case h => simp [results, Tryz.results193, go_sem]; rfl
 refine ⟨two_u64 ?_ ?_, rfl⟩
 ·clear w
  revert n
  decide +kernel
 ·clear w
  revert n
  decide +kernel
set_option maxRecDepth 20000 in
theorem mul_one (n : Nat) (w : World) (hn : n ≤ 8) : Calls Tryz.prog 189 #[.int .u64 1, .int .u64 n] w fun e w' => e = .returned (.tuple #[.int .u64 0, .int .u64 n]) ∧ w = w' := by
 have HM := hid (mul64_one n w hn)
 have hw : IntKind.u64.wrap (n : Int) = n := by
  have : ∀ k : Fin 9, IntKind.u64.wrap ((k : Nat) : Int) = ((k : Nat) : Int) := by decide +kernel
  exact this ⟨n, by omega⟩
 go_enter Tryz.func189, Tryz.ntmps189
 go_wp2_with fail
 refine HM.out.mono ?_; rintro e w' ⟨rfl, rfl⟩
 go_wp2_with fail
 refine bodyPost_ret (v := .tuple #[.int .u64 0, .int .u64 n]) (by simp [results, Tryz.results189, go_sem]) rfl ?_
 exact ⟨rfl, rfl⟩
def rowR (k N : Nat) : List Value := List.replicate k (.int .i64 1) ++ List.replicate (N - k) (.int .i64 0)
theorem rowR_len {k N : Nat} (h : k ≤ N) : (rowR k N).length = N := by simp [rowR]; omega
theorem rowR_splice {k j N : Nat} (h : k + j ≤ N) : splice (rowR k N) k (List.replicate j (.int .i64 1)) = rowR (k + j) N := by
 unfold splice rowR
 rw [List.take_left' (by simp), List.length_replicate, List.drop_append, List.drop_eq_nil_of_le (by simp), List.length_replicate, List.nil_append, List.drop_replicate, ← List.append_assoc, List.replicate_append_replicate]
 congr 2
 omega
theorem rowR_get {k N j : Nat} (h : j < k) : (rowR k N)[j]? = some (.int .i64 1) := by
 unfold rowR
 rw [List.getElem?_append_left (by simpa using h)]
 simp [h]
theorem OwnI.heap {w : World} {B g n : Nat} {a : List Int} (h : OwnI w B (.slice (some ⟨g, 0, none⟩) n n) a) (hl : a.length = n) : w.heap[g]? = some (.cells (intCells a).toArray 2 (0, 0)) := by
 rcases h.2 with ⟨e, _⟩ | ⟨g', cap, cur, e, _, hg, _, _, hs, ht⟩
 ·cases e
 ·cases e
  rw [hg]
  have : cur.toList = intCells a := by
   rw [← ht, List.take_of_length_le (by simp at hs ⊢; omega)]
  rw [← this]
theorem OwnI.ofHeap {w : World} {B g : Nat} {a : List Int} (h : w.heap[g]? = some (.cells (intCells a).toArray 2 (0, 0))) (hB : B ≤ g) (hl : a.length ≤ maxLen) : OwnI w B (.slice (some ⟨g, 0, none⟩) a.length a.length) a := by
 refine ⟨by simp [intCells], .inr ⟨g, a.length, _, rfl, hB, h, Nat.le_refl _, hl, by simp [intCells], ?_⟩⟩
 rw [Nat.mul_one, List.take_of_length_le (by simp [intCells])]
theorem rowR_ints (N : Nat) : rowR N N = intCells (List.replicate N 1) := by simp [rowR, intCells]
theorem rowR_zero (N : Nat) : rowR 0 N = intCells (List.replicate N 0) := by simp [rowR, intCells]
set_option maxRecDepth 20000 in
set_option maxHeartbeats 400000 in
theorem repeat_one (N : Nat) (v : Value) (w : World) (hv : Ints w v [1]) (hN : N ≤ 8) :
  Calls Tryz.prog 179 #[v, .int .i64 N] w (RetI w (List.replicate N 1)) := by
 have HM := hid (mul_one N w hN)
 obtain ⟨p, cap, rfl, hle, hmx, hat, _⟩ := hv
 unfold maxLen at hmx
 obtain ⟨bs, os, rfl, hsrc⟩ := hat.int 0 (by simp)
 simp only [List.getElem_cons_zero, List.length_cons, List.length_nil, Nat.zero_add, Nat.add_zero] at *
 have hw : IntKind.u64.wrap (N : Int) = N := by
  have : ∀ k : Fin 9, IntKind.u64.wrap ((k : Nat) : Int) = ((k : Nat) : Int) := by decide +kernel
  exact this ⟨N, by omega⟩
 have hw1 : IntKind.u64.wrap 1 = 1 := by decide +kernel
 have hd1 : ¬ ((N : Int) > 9223372036854775807) := by omega
 obtain ⟨wm, hmk, hown0, km⟩ := run_makeI w N (by omega)
 have hg0 := hown0.heap (by simp)
 rw [← rowR_zero] at hg0
 have hsm := km.cell hsrc
 have HG0 := hid hg0
 have KM := hid km
 clear hg0 hown0 km hat
 go_enter Tryz.func179, Tryz.ntmps179
 go_wp2_with fail
 refine HM.out.mono ?_; rintro e w' ⟨rfl, rfl⟩
 have hrep : ∀ (m j : Nat) (x u : Value), (List.replicate m x)[j]? = some u → j < m ∧ u = x := fun m j x u h => by
  rw [List.getElem?_replicate] at h
  split at h
  ·rename_i hj; exact ⟨hj, by injection h with h; exact h.symm⟩
  ·cases h
 have HREP := hid hrep
 have hadd : ∀ b o j, (⟨b, o, none⟩ : Addr).add j = ⟨b, o + j, none⟩ := fun b o j => by unfold Addr.add; split <;> simp_all
 have HADD := hid hadd
 have HSM := hid hsm
 have HLN := hid (fun k (h : k ≤ N) => rowR_len h)
 have HSP := hid (fun k j (h : k + j ≤ N) => rowR_splice h)
 have HGET := hid (fun k j (h : j < k) => rowR_get (N := N) h)
 have HEND := hid (rowR_ints N)
 clear hrep hadd hsm
 obtain ⟨one, hone⟩ : ∃ one : Value, one = .int .i64 1 := ⟨_, rfl⟩
 obtain ⟨RW, hRW⟩ : ∃ RW : Nat → List Value, ∀ k, RW k = rowR k N := ⟨fun k => rowR k N, fun _ => rfl⟩
 obtain ⟨CS, hCS⟩ : ∃ CS : Nat → List Value, ∀ k, CS k = List.replicate k one := ⟨fun k => List.replicate k one, fun _ => rfl⟩
 have HOo := hid hone
 have HRW := hid hRW
 have HCS := hid hCS
 have HG1 := hid (show wm.heap[w.heap.size]? = some (.cells (RW 0).toArray 2 (0, 0)) by rw [hRW]; exact HG0.out)
 have HCL := hid (fun k => show (CS k).length = k by rw [hCS, List.length_replicate])
 have HRL := hid (fun k (h : k ≤ N) => show (RW k).length = N by rw [hRW]; exact HLN.out k h)
 have HC1 := hid (fun k => show ∀ u ∈ CS k, u.oneCell' = true by
  intro u hu
  rw [hCS] at hu
  rw [List.eq_of_mem_replicate hu, hone]; rfl)
 have HSS := hid (fun k j (h : k + j ≤ N) => show splice (RW k) k (CS j) = RW (k + j) by rw [hRW, hRW, hCS, hone]; exact HSP.out k j h)
 have HSRC := hid (fun k j u (h : (CS k)[j]? = some u) => show j < k ∧ u = .int .i64 1 by
  rw [hCS] at h
  have := HREP.out _ _ _ _ h
  exact ⟨this.1, this.2.trans hone⟩)
 have HRG := hid (fun k j (h : j < k) => show (RW k)[j]? = some (.int .i64 1) by rw [hRW]; exact HGET.out k j h)
 clear hone hRW hCS HG0
 have A1 := hid (show (CS (min 1 N)).length = Nat.min 1 N from HCL.out _)
 have A2 := hid (show 0 < (CS (min 1 N)).length → ∀ (j : Nat) (u : Value), (CS (min 1 N))[j]? = some u → wm.cell? ⟨bs, os + j, none⟩ = some u from fun _ j u hj => by
  obtain ⟨h1, h2⟩ := HSRC.out _ _ _ hj
  obtain rfl : j = 0 := by omega
  rw [h2]; exact HSM.out)
 have A3 := hid (show 0 + (CS (min 1 N)).length ≤ (RW 0).length by rw [HCL.out, HRL.out 0 (by omega)]; omega)
 have A4 := hid (HSS.out 0 (min 1 N) (by omega))
 have HSZ := hid (show (Tryz.prog.info? 2).map (·.size) = some 1 by kernel_rfl)
 go_wp2_with (refine wpList_copy_splice rfl _ _ _ _ rfl 2 Tryz.underlying24 HSZ.out _ _ _ _ _ _ rfl rfl w.heap.size 0 (RW 0) 2 HG1.out (CS (min 1 N)) ?_ ?_ ?_ (HC1.out _) w.heap.size w KM.out (Nat.le_refl _) ?_; exact A1.out; (first | exact A2.out | (intro hq; exact ⟨rfl, _, rfl, fun j u hj => by rw [HADD.out]; exact A2.out hq j u hj⟩)); exact A3.out; intro w2 hG2 hB2; rw [A4.out, Nat.zero_add] at hG2; rw [HCL.out (min 1 N)])
 go_loopw [8] (fun o wr => ∃ k : Nat, k ≤ N ∧ (k = 0 → N = 0) ∧ o = .int .i64 k ∧ Hid (wr.heap[w.heap.size]? = some (.cells (RW k).toArray 2 (0, 0))) ∧ Below w.heap.size w wr) (fun o _ => N - (intOf o).toNat)
 case atStart => exact ⟨min 1 N, by omega, by omega, rfl, hG2, hB2⟩
 case round =>
  obtain ⟨k, hk, hk0, rfl, hG, hB⟩ := hrel
  clear hG2 hB2 A1 A2 A3 A4
  by_cases hlt : k < N
  ·have hlt' : (k : Int) < N := by omega
   have hk1 : 1 ≤ k := by
    rcases Nat.eq_zero_or_pos k with h | h
    ·have := hk0 h; omega
    ·exact h
   have B1 := hid (show (CS (min k (N - k))).length = Nat.min k (N - k) from HCL.out _)
   have B2 := hid (fun (wz : World) (hz : wz.heap[w.heap.size]? = some (.cells (RW k).toArray 2 (0, 0))) => show ∀ (j : Nat) (u : Value), (CS (min k (N - k)))[j]? = some u → wz.cell? ⟨w.heap.size, j, none⟩ = some u from fun j u hj => by
    obtain ⟨h1, h2⟩ := HSRC.out _ _ _ hj
    rw [h2]
    have := HRG.out k j (by omega)
    simp only [World.cell?, hz]
    simpa using this)
   have B3 := hid (show k + (CS (min k (N - k))).length ≤ (RW k).length by rw [HCL.out, HRL.out k hk]; omega)
   have B4 := hid (HSS.out k (min k (N - k)) (by omega))
   have hkN : min k (N - k) ≤ N := by omega
   go_wp2_with fail
   have HWK := hid (show IntKind.i64.wrap ((k : Int) + ((min k (N - k) : Nat) : Int)) = ((k + min k (N - k) : Nat) : Int) by
    rw [← Int.natCast_add]; exact wrapN _ (by omega))
   clear HG1
   have hNk : ¬ N = k := by omega
   have hGd : wr.drew.heap[w.heap.size]? = some (.cells (RW k).toArray 2 (0, 0)) := hG.out
   have HGD := hid hGd; clear hGd
   have hBd : Below w.heap.size w wr.drew := Below.drew hB
   have B5 := hid (show 0 < (CS (min k (N - k))).length → (some (⟨w.heap.size, k, none⟩ : Addr)) = some ⟨w.heap.size, k, none⟩ ∧ ∃ ad, (some (⟨w.heap.size, 0, none⟩ : Addr)) = some ad ∧ ∀ (j : Nat) (u : Value), (CS (min k (N - k)))[j]? = some u → wr.drew.cell? (ad.add j) = some u from fun _ => ⟨rfl, _, rfl, fun j u hj => by
    rw [HADD.out, Nat.zero_add]; exact B2.out wr.drew HGD.out j u hj⟩)
   have hgi : goInt ((CS (min k (N - k))).length : Int) = .int .i64 ((min k (N - k) : Nat) : Int) := by rw [HCL.out]; rfl
   have HGI := hid hgi; clear hgi
   go_region_law ((refine step_copy_splice rfl (.tmp 41) (.tmp 44) _ _ rfl 2 Tryz.underlying24 HSZ.out (some ⟨w.heap.size, k, none⟩) (some ⟨w.heap.size, 0, none⟩) (N - k) (N - k) k N ?_ ?_ w.heap.size k (RW k) 2 HGD.out (CS (min k (N - k))) B1.out B5.out B3.out (HC1.out _) w.heap.size w hBd (Nat.le_refl _) ?_; go_simp; (try go_simp); intro w3 hG3 hB3; rw [HGI.out]))
   all_goals
    rw [B4.out] at hG3
    go_wp2_with fail
    go_roundw
    case rel => first | exact ⟨k + min k (N - k), by omega, by omega, HWK.out, hG3⟩ | exact ⟨k + min k (N - k), by omega, by omega, by rw [HWK.out], hG3, hB3⟩
    case measure =>
     have hwk := HWK.out
     simp only [intOf, hwk]
     omega
  ·obtain rfl : k = N := by omega
   have hlt' : ¬ (k : Int) < k := by omega
   have HF := hid (show OwnI wr w.heap.size (.slice (some ⟨w.heap.size, 0, none⟩) k k) (List.replicate k 1) by
    have h1 := hG.out
    rw [HRW.out, HEND.out] at h1
    have := OwnI.ofHeap h1 (Nat.le_refl _) (by simp [maxLen]; omega)
    simpa using this)
   go_wp2_with fail
   go_ret
   exact ⟨_, rfl, HF.out, hB⟩
end Go.Proofs.YtfmmajgkjkmghaaGreatDoor
