/- Rows of lists of numbers, and of posets. -/
import Derived.Test.YtponaoefpicfpaaGreatDoorGQ2
import Derived.Test.YtponaoefpicfpaaGreatDoorGQR
import Derived.Test.YtponaoefpicfpaaGreatDoorGAL
namespace Go.Proofs.YtponaoefpicfpaaGreatDoor
open Go.RowKit
/-- owned rows of numbers -/
def RowsI (w : World) (B : Nat) (vs : List Value) (xs : List (List Nat)) : Prop := vs.length = xs.length ∧ ∀ i (h1 : i < vs.length) (h2 : i < xs.length), OwnI w B vs[i] (zs xs[i])
theorem RowsI.nil (w : World) (B : Nat) : RowsI w B [] [] := ⟨rfl, fun i h => by simp at h⟩
theorem RowsI.snoc {w : World} {B : Nat} {v : Value} {vs : List Value} {x : List Nat} {xs : List (List Nat)} (h : OwnI w B v (zs x)) (hs : RowsI w B vs xs) : RowsI w B (vs ++ [v]) (xs ++ [x]) :=
  ⟨by simp [hs.1], fun i h1 h2 => by
    have hl := hs.1
    by_cases hi : i < vs.length
    · rw [List.getElem_append_left hi, List.getElem_append_left (by omega)]; exact hs.2 i hi (by omega)
    · simp at h1
      obtain rfl : i = vs.length := by omega
      rw [List.getElem_append_right (Nat.le_refl _), List.getElem_append_right (by omega)]
      simpa [hl] using h⟩
theorem RowsI.append {w : World} {B : Nat} {vs us : List Value} {xs ys : List (List Nat)} (h : RowsI w B vs xs) (g : RowsI w B us ys) : RowsI w B (vs ++ us) (xs ++ ys) :=
  ⟨by simp [h.1, g.1], fun i h1 h2 => by
    have hl := h.1
    have gl := g.1
    simp at h1 h2
    by_cases hi : i < vs.length
    · rw [List.getElem_append_left hi, List.getElem_append_left (by omega)]; exact h.2 i hi (by omega)
    · rw [List.getElem_append_right (by omega), List.getElem_append_right (by omega)]
      have := g.2 (i - vs.length) (by omega) (by omega)
      simpa [hl] using this⟩
theorem RowsI.keeps {w w' : World} {B : Nat} {vs : List Value} {xs : List (List Nat)} (h : RowsI w B vs xs) (k : Keeps w w') : RowsI w' B vs xs := ⟨h.1, fun i h1 h2 => (h.2 i h1 h2).keeps k⟩
theorem RowsI.mono {w : World} {B B' : Nat} {vs : List Value} {xs : List (List Nat)} (h : RowsI w B vs xs) (k : B' ≤ B) : RowsI w B' vs xs := ⟨h.1, fun i h1 h2 => (h.2 i h1 h2).mono k⟩
def blkI (vs : List Value) (k : Nat) : Prop := ∃ i, ∃ h : i < vs.length, vs[i].ownBlock = some k
theorem RowsI.touch {w w' : World} {S : Nat → Prop} {B : Nat} {vs : List Value} {xs : List (List Nat)} (h : RowsI w B vs xs) (k : Touch w w' S) (hS : ∀ i, blkI vs i → ¬ S i) : RowsI w' B vs xs :=
  ⟨h.1, fun i h1 h2 => (h.2 i h1 h2).touch k (fun j e => hS j ⟨i, h1, e⟩)⟩
theorem RowsI.off {w : World} {B B' : Nat} {T : TypeId} {s n : Nat} {v : Value} {hs vs : List Value} {xs : List (List Nat)} (h : RowsI w B vs xs) (ho : w.ownsRow B' T s v n hs) (hT : T ≠ 2) {k : Nat} (hk : v.ownBlock = some k) : ¬ blkI vs k := fun ⟨i, hi, e⟩ =>
  type_ne ho (h.2 i hi (by have := h.1; omega)) hT hk e
--
theorem infoLI : (Tryz.prog.info? 25).map (fun i => (i.zero, i.size, i.bytes)) = some (some (.slice none 0 0), 1, 24) := by kernel_rfl
theorem tyneLI : (25 : TypeId) ≠ 2 := by decide
/-- an owned row of owned rows of numbers -/
def OwnLI (w : World) (B : Nat) (v : Value) (xs : List (List Nat)) : Prop := ∃ vs, w.ownsRow B 25 1 v xs.length vs ∧ RowsI w B vs xs
theorem OwnLI.nil (w : World) (B : Nat) : OwnLI w B (.slice none 0 0) [] := ⟨[], World.ownsRow_nil w B _ 1, RowsI.nil _ _⟩
theorem OwnLI.empty (w : World) : OwnLI (w.alloc (.cells #[] 25)) w.heap.size (.slice (some ⟨w.heap.size, 0, none⟩) 0 0) [] :=
  ⟨[], World.ownsRow_made w #[] 0 (Nat.le_refl _) (by simp [maxLen]) (by simp), RowsI.nil _ _⟩
theorem OwnLI.keeps {w w' : World} {B : Nat} {v : Value} {xs : List (List Nat)} (h : OwnLI w B v xs) (k : Keeps w w') : OwnLI w' B v xs := by
  obtain ⟨vs, ho, hr⟩ := h
  exact ⟨vs, own_keeps ho k, hr.keeps k⟩
theorem OwnLI.mono {w : World} {B B' : Nat} {v : Value} {xs : List (List Nat)} (h : OwnLI w B v xs) (k : B' ≤ B) : OwnLI w B' v xs := by
  obtain ⟨vs, ho, hr⟩ := h
  exact ⟨vs, own_mono ho k, hr.mono k⟩
theorem OwnLI.shape {w : World} {B : Nat} {v : Value} {xs : List (List Nat)} (h : OwnLI w B v xs) : ∃ p cap, v = .slice p xs.length cap ∧ xs.length ≤ cap ∧ cap ≤ maxLen := by
  obtain ⟨vs, ho, _⟩ := h
  obtain ⟨p, cap, h1, h2, h3, _⟩ := At.of_own ho
  exact ⟨p, cap, h1, h2, h3⟩
theorem OwnLI.get {w : World} {B : Nat} {p : Option Addr} {n cap : Nat} {xs : List (List Nat)} (h : OwnLI w B (.slice p n cap) xs) (i : Nat) (hi : i < xs.length) :
    ∃ b off u, p = some ⟨b, off, none⟩ ∧ w.cell? ⟨b, off + i, none⟩ = some u ∧ OwnI w B u (zs xs[i]) := by
  obtain ⟨vs, ho, hr⟩ := h
  obtain ⟨p', cap', e, _, _, hat⟩ := At.of_own ho
  cases e
  obtain ⟨b, off, hp, hc⟩ := hat i (by rw [hr.1]; exact hi)
  exact ⟨b, off, _, hp, hc, hr.2 i (by rw [hr.1]; exact hi) hi⟩
theorem OwnI.one {w : World} {B : Nat} {u : Value} {x : List Int} (h : OwnI w B u x) : u.oneCell' = true := by
  obtain ⟨p, c, e, _⟩ := At.of_own h
  rw [e]; rfl
theorem appLIK {w : World} {o : Oper} {a : Act} {K : Act → World → Prop} {Q : Exit → Act → World → Prop} (s x : Operand)
    (ho : o.op = .call { callee := .builtin .append, args := #[s, x], argTypes := #[106, 106] }) (base : Nat) (v : Value) (xs : List (List Nat)) (hs : a.eval s = v)
    (w0 : World) (hown : OwnLI w0 base v xs) (k : Keeps w0 w) (u : Value) (y : List Nat) (hu : OwnI w base u (zs y)) (hbase : base ≤ w.heap.size)
    (p : Option Addr) (c : Nat) (hx : a.eval x = .slice p 1 c) (hat : At w p [u]) (hlen : xs.length ≤ 2147483647)
    (h : ∀ v' w', OwnLI w' base v' (xs ++ [y]) → w.grownBy w' v.ownBlock → (∀ k, v.ownBlock = some k → base ≤ k) → K (a.put o.dst v') w') : o.wp Tryz.prog a w K Q := by
  obtain ⟨i0, hi, hz0, hz1, hz2⟩ := info_parts infoLI
  obtain ⟨vs, hrow, hr⟩ := hown
  have hone : ∀ z ∈ [u], z.oneCell' = true := by
    intro z hz
    simp at hz; subst hz
    exact hu.one
  have hrow' := own_keeps hrow k
  have hr' := hr.keeps k
  refine wp_append_at s x _ ho _ i0 _ 1 24 Tryz.underlying106 hi hz0 hz1 hz2 rfl (by decide) base v _ _ hs hrow' p 1 c [u] hx (by simp) hat hone (by unfold maxLen; omega) (by omega) hbase ?_
  intro v' w' h1 h2 h3
  refine h v' w' ⟨vs ++ [u], by rw [List.length_append]; exact h1, RowsI.snoc ?_ ?_⟩ h2 h3
  · exact hu.touch (Touch.grown h2) (fun i hi e => type_ne hrow' hu tyneLI e.symm hi)
  · exact hr'.touch (Touch.grown h2) (fun i hb e => hr'.off hrow' tyneLI e.symm hb)
theorem appLI {w : World} {ops : Array Oper} {rest : List Oper} {o : Oper} {a : Act} {Q : Exit → Act → World → Prop} (hgd : o.guard = none) (s x : Operand)
    (ho : o.op = .call { callee := .builtin .append, args := #[s, x], argTypes := #[106, 106] }) (base : Nat) (v : Value) (xs : List (List Nat)) (hs : a.eval s = v)
    (w0 : World) (hown : OwnLI w0 base v xs) (k : Keeps w0 w) (u : Value) (y : List Nat) (hu : OwnI w base u (zs y)) (hbase : base ≤ w.heap.size)
    (p : Option Addr) (c : Nat) (hx : a.eval x = .slice p 1 c) (hat : At w p [u]) (hlen : xs.length ≤ 2147483647)
    (h : ∀ v' w', OwnLI w' base v' (xs ++ [y]) → w.grownBy w' v.ownBlock → (∀ k, v.ownBlock = some k → base ≤ k) → wpList Tryz.prog ops Q rest (a.put o.dst v') w') : wpList Tryz.prog ops Q (o :: rest) a w :=
  wpList_plain hgd fun _ hK => appLIK s x ho base v xs hs w0 hown k u y hu hbase p c hx hat hlen fun v' w' h1 h2 h3 => hK _ _ (h v' w' h1 h2 h3)
theorem stepLI {w : World} {ops : Array Oper} {o : Oper} {a : Act} {K : Act → World → Prop} {Q : Exit → Act → World → Prop} {E : Prop} (hgd : o.guard = none) (s x : Operand)
    (ho : o.op = .call { callee := .builtin .append, args := #[s, x], argTypes := #[106, 106] }) (base : Nat) (v : Value) (xs : List (List Nat)) (hs : a.eval s = v)
    (w0 : World) (hown : OwnLI w0 base v xs) (k : Keeps w0 w) (u : Value) (y : List Nat) (hu : OwnI w base u (zs y)) (hbase : base ≤ w.heap.size)
    (p : Option Addr) (c : Nat) (hx : a.eval x = .slice p 1 c) (hat : At w p [u]) (hlen : xs.length ≤ 2147483647)
    (h : ∀ v' w', OwnLI w' base v' (xs ++ [y]) → w.grownBy w' v.ownBlock → (∀ k, v.ownBlock = some k → base ≤ k) → K (a.put o.dst v') w') : if Region.wanted o (yielded ops a.tmps) = true then Oper.wp Tryz.prog o a w K Q else E := by
  rw [if_pos (by simp [Region.wanted, hgd])]
  exact appLIK s x ho base v xs hs w0 hown k u y hu hbase p c hx hat hlen h
def RetLI (w : World) (xs : List (List Nat)) (e : Ending) (w' : World) : Prop := ∃ v, e = .returned v ∧ OwnLI w' w.heap.size v xs ∧ Keeps w w'
--
/-! ### rows of posets -/
def psCells : List (List Nat) → List Value → List Value
  | x :: xs, u :: us => .int .i64 (x.length : Nat) :: u :: psCells xs us
  | _, _ => []
theorem psCells_len : ∀ (xs : List (List Nat)) (us : List Value), us.length = xs.length → (psCells xs us).length = xs.length * 2
  | [], [], _ => rfl
  | x :: xs, u :: us, h => by
    have := psCells_len xs us (by simpa using h)
    simp only [psCells, List.length_cons, this]; omega
  | [], _ :: _, h => by simp at h
  | _ :: _, [], h => by simp at h
theorem psCells_append : ∀ (xs ys : List (List Nat)) (us vs : List Value), us.length = xs.length → psCells (xs ++ ys) (us ++ vs) = psCells xs us ++ psCells ys vs
  | [], _, [], _, _ => rfl
  | x :: xs, ys, u :: us, vs, h => by
    have := psCells_append xs ys us vs (by simpa using h)
    simp only [List.cons_append, psCells, this]
  | [], _, _ :: _, _, h => by simp at h
  | _ :: _, _, [], _, h => by simp at h
theorem psCells_get : ∀ (xs : List (List Nat)) (us : List Value) (i : Nat) (h1 : i < xs.length) (h2 : i < us.length), (psCells xs us)[i * 2]? = some (.int .i64 (xs[i].length : Nat)) ∧ (psCells xs us)[i * 2 + 1]? = some us[i]
  | x :: xs, u :: us, 0, _, _ => by simp [psCells]
  | x :: xs, u :: us, i + 1, h1, h2 => by
    have := psCells_get xs us i (by simpa using h1) (by simpa using h2)
    simpa [psCells, Nat.add_mul] using this
theorem psCells_one : ∀ (xs : List (List Nat)) (us : List Value), (∀ u ∈ us, u.oneCell' = true) → ∀ z ∈ psCells xs us, z.oneCell' = true
  | x :: xs, u :: us, h, z, hz => by
    simp only [psCells, List.mem_cons] at hz
    rcases hz with rfl | rfl | hz
    · rfl
    · exact h _ (by simp)
    · exact psCells_one xs us (fun u hu => h u (by simp [hu])) z hz
  | [], _, _, z, hz => by simp [psCells] at hz
  | _ :: _, [], _, z, hz => by simp [psCells] at hz
theorem infoPs : (Tryz.prog.info? 32).map (fun i => (i.zero, i.size, i.bytes)) = some (some (.agg #[.int .i64 0, .slice none 0 0]), 2, 32) := by kernel_rfl
theorem tynePs : (32 : TypeId) ≠ 2 := by decide
def OwnPs (w : World) (B : Nat) (v : Value) (xs : List (List Nat)) : Prop := ∃ us, w.ownsRow B 32 2 v xs.length (psCells xs us) ∧ RowsI w B us xs
theorem OwnPs.nil (w : World) (B : Nat) : OwnPs w B (.slice none 0 0) [] := ⟨[], World.ownsRow_nil w B _ 2, RowsI.nil _ _⟩
theorem OwnPs.empty (w : World) : OwnPs (w.alloc (.cells #[] 32)) w.heap.size (.slice (some ⟨w.heap.size, 0, none⟩) 0 0) [] :=
  ⟨[], World.ownsRow_made w #[] 0 (Nat.le_refl _) (by simp [maxLen]) (by simp), RowsI.nil _ _⟩
theorem OwnPs.keeps {w w' : World} {B : Nat} {v : Value} {xs : List (List Nat)} (h : OwnPs w B v xs) (k : Keeps w w') : OwnPs w' B v xs := by
  obtain ⟨vs, ho, hr⟩ := h
  exact ⟨vs, own_keeps ho k, hr.keeps k⟩
theorem OwnPs.mono {w : World} {B B' : Nat} {v : Value} {xs : List (List Nat)} (h : OwnPs w B v xs) (k : B' ≤ B) : OwnPs w B' v xs := by
  obtain ⟨vs, ho, hr⟩ := h
  exact ⟨vs, own_mono ho k, hr.mono k⟩
theorem OwnPs.shape {w : World} {B : Nat} {v : Value} {xs : List (List Nat)} (h : OwnPs w B v xs) : ∃ p cap, v = .slice p xs.length cap ∧ xs.length ≤ cap ∧ cap ≤ maxLen := by
  obtain ⟨vs, ho, _⟩ := h
  obtain ⟨p, cap, h1, h2, h3, _⟩ := At.of_own ho
  exact ⟨p, cap, h1, h2, h3⟩
theorem OwnPs.get {w : World} {B : Nat} {p : Option Addr} {n cap : Nat} {xs : List (List Nat)} (h : OwnPs w B (.slice p n cap) xs) (i : Nat) (hi : i < xs.length) :
    ∃ b off u, p = some ⟨b, off, none⟩ ∧ w.cell? ⟨b, off + i * 2, none⟩ = some (.int .i64 (xs[i].length : Nat)) ∧ w.cell? ⟨b, off + i * 2 + 1, none⟩ = some u ∧ OwnI w B u (zs xs[i]) := by
  obtain ⟨us, ho, hr⟩ := h
  have hul := hr.1
  obtain ⟨p', cap', e, _, _, hat⟩ := At.of_own ho
  cases e
  have hl := psCells_len xs us hul
  obtain ⟨g1, g2⟩ := psCells_get xs us i hi (by omega)
  obtain ⟨b, off, hp, hc⟩ := hat (i * 2) (by omega)
  obtain ⟨b', off', hp', hc'⟩ := hat (i * 2 + 1) (by omega)
  rw [hp] at hp'
  cases hp'
  rw [List.getElem?_eq_getElem (by omega)] at g1 g2
  rw [Option.some.inj g1] at hc
  rw [Option.some.inj g2] at hc'
  exact ⟨b, off, us[i]'(by omega), hp, hc, by rw [Nat.add_assoc]; exact hc', hr.2 i (by omega) hi⟩
theorem appPsK {w : World} {o : Oper} {a : Act} {K : Act → World → Prop} {Q : Exit → Act → World → Prop} (s x : Operand)
    (ho : o.op = .call { callee := .builtin .append, args := #[s, x], argTypes := #[57, 57] }) (base : Nat) (v : Value) (xs : List (List Nat)) (hs : a.eval s = v)
    (w0 : World) (hown : OwnPs w0 base v xs) (k : Keeps w0 w) (us : List Value) (ys : List (List Nat)) (hu : RowsI w base us ys) (hbase : base ≤ w.heap.size)
    (p : Option Addr) (c : Nat) (hx : a.eval x = .slice p ys.length c) (hat : At w p (psCells ys us)) (hlen : xs.length + ys.length ≤ 2147483647)
    (h : ∀ v' w', OwnPs w' base v' (xs ++ ys) → w.grownBy w' v.ownBlock → (∀ k, v.ownBlock = some k → base ≤ k) → K (a.put o.dst v') w') : o.wp Tryz.prog a w K Q := by
  obtain ⟨i0, hi, hz0, hz1, hz2⟩ := info_parts infoPs
  obtain ⟨vs, hrow, hr⟩ := hown
  have hone : ∀ z ∈ psCells ys us, z.oneCell' = true := psCells_one ys us fun u hu' => by
    obtain ⟨j, hj, rfl⟩ := List.getElem_of_mem hu'
    exact (hu.2 j hj (by have := hu.1; omega)).one
  have hrow' := own_keeps hrow k
  have hr' := hr.keeps k
  refine wp_append_at s x _ ho _ i0 _ 2 32 Tryz.underlying57 hi hz0 hz1 hz2 rfl (by decide) base v _ _ hs hrow' p ys.length c (psCells ys us) hx (psCells_len ys us hu.1) hat hone (by unfold maxLen; omega) (by omega) hbase ?_
  intro v' w' h1 h2 h3
  refine h v' w' ⟨vs ++ us, ?_, RowsI.append ?_ ?_⟩ h2 h3
  · rw [List.length_append, psCells_append _ _ _ _ hr.1]; exact h1
  · exact hr'.touch (Touch.grown h2) (fun i hb e => hr'.off hrow' tynePs e.symm hb)
  · exact hu.touch (Touch.grown h2) (fun i hb e => hu.off hrow' tynePs e.symm hb)
theorem appPs {w : World} {ops : Array Oper} {rest : List Oper} {o : Oper} {a : Act} {Q : Exit → Act → World → Prop} (hgd : o.guard = none) (s x : Operand)
    (ho : o.op = .call { callee := .builtin .append, args := #[s, x], argTypes := #[57, 57] }) (base : Nat) (v : Value) (xs : List (List Nat)) (hs : a.eval s = v)
    (w0 : World) (hown : OwnPs w0 base v xs) (k : Keeps w0 w) (us : List Value) (ys : List (List Nat)) (hu : RowsI w base us ys) (hbase : base ≤ w.heap.size)
    (p : Option Addr) (c : Nat) (hx : a.eval x = .slice p ys.length c) (hat : At w p (psCells ys us)) (hlen : xs.length + ys.length ≤ 2147483647)
    (h : ∀ v' w', OwnPs w' base v' (xs ++ ys) → w.grownBy w' v.ownBlock → (∀ k, v.ownBlock = some k → base ≤ k) → wpList Tryz.prog ops Q rest (a.put o.dst v') w') : wpList Tryz.prog ops Q (o :: rest) a w :=
  wpList_plain hgd fun _ hK => appPsK s x ho base v xs hs w0 hown k us ys hu hbase p c hx hat hlen fun v' w' h1 h2 h3 => hK _ _ (h v' w' h1 h2 h3)
theorem stepPs {w : World} {ops : Array Oper} {o : Oper} {a : Act} {K : Act → World → Prop} {Q : Exit → Act → World → Prop} {E : Prop} (hgd : o.guard = none) (s x : Operand)
    (ho : o.op = .call { callee := .builtin .append, args := #[s, x], argTypes := #[57, 57] }) (base : Nat) (v : Value) (xs : List (List Nat)) (hs : a.eval s = v)
    (w0 : World) (hown : OwnPs w0 base v xs) (k : Keeps w0 w) (us : List Value) (ys : List (List Nat)) (hu : RowsI w base us ys) (hbase : base ≤ w.heap.size)
    (p : Option Addr) (c : Nat) (hx : a.eval x = .slice p ys.length c) (hat : At w p (psCells ys us)) (hlen : xs.length + ys.length ≤ 2147483647)
    (h : ∀ v' w', OwnPs w' base v' (xs ++ ys) → w.grownBy w' v.ownBlock → (∀ k, v.ownBlock = some k → base ≤ k) → K (a.put o.dst v') w') : if Region.wanted o (yielded ops a.tmps) = true then Oper.wp Tryz.prog o a w K Q else E := by
  rw [if_pos (by simp [Region.wanted, hgd])]
  exact appPsK s x ho base v xs hs w0 hown k us ys hu hbase p c hx hat hlen h
theorem At.ps1 {w : World} {u : Value} {x : List Nat} {E : TypeId} : At (w.alloc (.cells #[.int .i64 (x.length : Nat), u] E)) (some ⟨w.heap.size, 0, none⟩) (psCells [x] [u]) := by
  intro j hj
  match j, hj with
  | 0, _ => exact ⟨_, _, rfl, by simp [psCells]⟩
  | 1, _ => exact ⟨_, _, rfl, by simp [psCells]⟩
theorem RowsI.one {w : World} {B : Nat} {u : Value} {x : List Nat} (h : OwnI w B u (zs x)) : RowsI w B [u] [x] := RowsI.snoc (vs := []) (xs := []) h (RowsI.nil _ _)
def RetPs (w : World) (xs : List (List Nat)) (e : Ending) (w' : World) : Prop := ∃ v, e = .returned v ∧ OwnPs w' w.heap.size v xs ∧ Keeps w w'
end Go.Proofs.YtponaoefpicfpaaGreatDoor
/- The reference: tests of lists of numbers, relations that are numbered anew. -/
namespace Go.Proofs.YtponaoefpicfpaaGreatDoor
open Go.RowKit
--
set_option maxRecDepth 20000 in
theorem l01HasN_any (l : List Nat) (x : Nat) (v : Value) (w : World) (hv : Ints w v (zs l)) : Calls Tryz.prog 267 #[v, .int .i64 x] w fun e w' => e = .returned (.bool (l.contains x)) ∧ w = w' := by
  have hv0 := hv
  obtain ⟨p, cap, rfl, _, hmx, _, _⟩ := hv
  unfold maxLen at hmx
  rw [zs_length l] at *
  have HC := hid (fun i (hi : i < l.length) => hv0.zs_cell i hi)
  clear hv0
  have HF : Hid ((∀ j, j < l.length → l.getD j 0 ≠ x) → l.contains x = false) := hid fun h => by
    rw [Bool.eq_false_iff, ne_eq, List.contains_iff_mem]
    intro hx
    obtain ⟨j, hj, e⟩ := List.getElem_of_mem hx
    exact h j hj (by rw [getD_get hj, e])
  have HT : Hid (∀ j, j < l.length → l.getD j 0 = x → l.contains x = true) := hid fun j hj h => by
    rw [List.contains_iff_mem, ← h, getD_get hj]
    exact List.getElem_mem hj
  generalize l.contains x = r at *
  obtain ⟨G, hG⟩ : ∃ G : Nat → Nat, ∀ i, G i = l.getD i 0 := ⟨fun i => l.getD i 0, fun _ => rfl⟩
  simp only [← hG] at HC HF HT
  clear hG
  generalize l.length = n at *
  go_enter Tryz.func267, Tryz.ntmps267
  go_wp2_with fail
  go_loopw [4, 5] (fun s4 s5 wr => ∃ i : Nat, i ≤ n ∧ s4 = .bool false ∧ s5 = .int .i64 i ∧ Hid (∀ j, j < i → G j ≠ x) ∧ w = wr) (fun _ s5 _ => n - (intOf s5).toNat)
  case atStart => exact ⟨0, by omega, rfl, rfl, hid (fun j h => by omega), rfl⟩
  case round =>
    obtain ⟨i, hi, rfl, rfl, HA, rfl⟩ := hrel
    by_cases hlt : i < n
    · have hlt' : (i : Int) < n := by omega
      obtain ⟨b1, o1, rfl, h1⟩ := HC.out i hlt
      by_cases he : G i = x
      · have hb : (((G i : Nat) : Int) == (x : Int)) = true := by rw [he]; simp
        have HR := hid (HT.out i hlt he)
        clear he
        generalize G i = y at *
        go_wp2_with fail
        go_ret
        exact ⟨ret_bool HR.out.symm, rfl⟩
      · have hb : (((G i : Nat) : Int) == (x : Int)) = false := by simp; omega
        have HE := hid he; clear he
        generalize hy : G i = y at *
        have HY := hid hy; clear hy
        go_wp2_with fail
        go_roundw
        case rel => exact ⟨i + 1, by omega, rfl, by go_num, hid (fun j hj => by
          by_cases e : j = i
          · rw [e, HY.out]; exact HE.out
          · exact HA.out j (by omega)), trivial⟩
        case measure => simp [intOf]; omega
    · have e : n = i := by omega
      subst e
      have hlt' : ¬ (n : Int) < n := by omega
      have HR := hid (HF.out HA.out)
      go_wp2_with fail
      go_ret
      exact ⟨ret_bool HR.out.symm, rfl⟩
--
set_option maxRecDepth 20000 in
theorem l05Squeeze_any (o : List Nat) (m : Nat) (v : Value) (w : World) (hv : Ints w v (zs o)) (h8 : o.length ≤ 8) (ho : ∀ i, o.getD i 0 ≤ 8) (hm : m < 256) :
    Calls Tryz.prog 268 #[v, .int .i64 m] w fun e w' => e = .returned (.int .i64 (sqz o m o.length : Nat)) ∧ w = w' := by
  have hv0 := hv
  obtain ⟨p, cap, rfl, _, hmx, _, _⟩ := hv
  unfold maxLen at hmx
  rw [zs_length o] at *
  have HC := hid (fun i (hi : i < o.length) => hv0.zs_cell i hi)
  clear hv0
  have HB := hid (fun i => l01BitB_any m (o.getD i 0) w hm (ho i))
  have HO := hid (fun (i : Nat) (hi : i ≤ 8) => l01One_any (i : Int) w (by omega) (by omega))
  have HS : Hid (∀ k, sqz o m (k + 1) = sqz o m k ||| (if m.testBit (o.getD k 0) then 2 ^ k else 0)) := hid fun _ => rfl
  have HL := hid (sqz_lt o m)
  have H0 : Hid (sqz o m 0 = 0) := hid rfl
  obtain ⟨Z, hZ⟩ : ∃ Z : Nat → Nat, ∀ i, Z i = sqz o m i := ⟨_, fun _ => rfl⟩
  obtain ⟨G, hG⟩ : ∃ G : Nat → Nat, ∀ i, G i = o.getD i 0 := ⟨fun i => o.getD i 0, fun _ => rfl⟩
  simp only [← hG] at HC HB HS
  simp only [← hZ] at HS HL H0 ⊢
  clear hG hZ ho
  generalize o.length = n at *
  go_enter Tryz.func268, Tryz.ntmps268
  go_wp2_with fail
  go_loopw [5, 6] (fun s5 s6 wr => ∃ i : Nat, i ≤ n ∧ s5 = .int .i64 (Z i : Nat) ∧ s6 = .int .i64 i ∧ w = wr) (fun _ s6 _ => n - (intOf s6).toNat)
  case atStart => exact ⟨0, by omega, by rw [H0.out]; rfl, rfl, rfl⟩
  case round =>
    obtain ⟨i, hi, rfl, rfl, rfl⟩ := hrel
    by_cases hlt : i < n
    · have hlt' : (i : Int) < n := by omega
      obtain ⟨b1, o1, rfl, h1⟩ := HC.out i hlt
      have HBI := hid (HB.out i)
      have HOI := HO.out i (by omega)
      have hone : (2 : Int) ^ (i : Int).toNat = ((2 ^ i : Nat) : Int) := by rw [Int.toNat_natCast]; push_cast; rfl
      rw [hone] at HOI
      have HOI2 := hid HOI; clear HOI hone
      have hs := HS.out i
      have hlz := HL.out i
      have h2i : 2 ^ i ≤ 2 ^ 8 := Nat.pow_le_pow_right (by omega) (by omega)
      have hor := orN (Z i) (2 ^ i) (by omega) (by omega)
      clear hlz h2i
      generalize 2 ^ i = P at *
      generalize G i = y at *
      cases hb : m.testBit y
      · rw [hb] at HBI
        have HZ2 : Hid (Z (i + 1) = Z i) := hid (by rw [hs, hb]; simp)
        clear hb hs
        generalize hz : Z i = z at *
        have HZI := hid hz; clear hz
        go_wp2_with fail
        refine HBI.out.mono ?_; rintro e w' ⟨rfl, rfl⟩
        go_wp2_with fail
        go_roundw
        case rel => exact ⟨i + 1, by omega, by rw [HZ2.out], by go_num, trivial⟩
        case measure => simp [intOf]; omega
      · rw [hb] at HBI
        have HZ2 : Hid (Z (i + 1) = Z i ||| P) := hid (by rw [hs, hb]; simp)
        clear hb hs
        generalize hz : Z i = z at *
        have HZI := hid hz; clear hz
        go_wp2_with fail
        refine HBI.out.mono ?_; rintro e w' ⟨rfl, rfl⟩
        go_wp2_with fail
        refine HOI2.out.mono ?_; rintro e w' ⟨rfl, rfl⟩
        go_wp2_with fail
        go_roundw
        case rel => exact ⟨i + 1, by omega, by rw [HZ2.out], by go_num, trivial⟩
        case measure => simp [intOf]; omega
    · have e : n = i := by omega
      subst e
      have hlt' : ¬ (n : Int) < n := by omega
      go_wp2_with fail
      go_ret
      exact ⟨rfl, rfl⟩
--
set_option maxRecDepth 20000 in
set_option maxHeartbeats 1000000 in
theorem l05Renumber_any (a o : List Nat) (va vo : Value) (w : World) (hva : Ints w va (zs a)) (hvo : Ints w vo (zs o)) (hn8 : o.length ≤ 8) (hal : a.length = o.length) (hlo : ∀ x ∈ o, x < o.length) (hab : Bnd o.length a) :
    Calls Tryz.prog 192 #[va, vo] w (RetI w (zs (renP a o))) := by
  have h256 := two8 hn8
  have ho8 : ∀ i, o.getD i 0 ≤ 8 := fun i => by
    by_cases hi : i < o.length
    · rw [getD_get hi]; have := hlo _ (List.getElem_mem hi); omega
    · rw [List.getD_eq_getElem?_getD, List.getElem?_eq_none (by omega)]; simp
  have HLO : Hid (∀ i, i < o.length → o.getD i 0 < o.length) := hid fun i hi => by rw [getD_get hi]; exact hlo _ (List.getElem_mem hi)
  have HSQ := hid (fun i w2 (k : Keeps w w2) => l05Squeeze_any o (a.getD i 0) vo w2 (hvo.keeps k) hn8 ho8 (Nat.lt_of_lt_of_le (hab i) h256))
  have hva0 := hva
  have hvo0 := hvo
  obtain ⟨p, cap, rfl, _, hmx, _, _⟩ := hva
  obtain ⟨q, cap2, rfl, _, hmx2, _, _⟩ := hvo
  unfold maxLen at hmx hmx2
  rw [zs_length a] at *
  rw [zs_length o] at *
  have hvc := hid (fun i (hi : i < o.length) wr (k : Keeps w wr) => (hvo0.keeps k).zs_cell i hi)
  have hva2 := hid (fun i (hi : i < a.length) wr (k : Keeps w wr) => (hva0.keeps k).zs_cell i hi)
  clear hva0 hvo0
  rw [hal] at *
  obtain ⟨F, hF⟩ : ∃ F : Nat → Nat, ∀ i, F i = sqz o (a.getD i 0) o.length := ⟨_, fun _ => rfl⟩
  have HR : Hid (∀ k, k < o.length → (renP a o).take (k + 1) = (renP a o).take k ++ [F (o.getD k 0)]) := hid fun k hk => by
    have hk2 : k < (renP a o).length := by rw [renP_len]; exact hk
    rw [List.take_succ_eq_append_getElem hk2]
    congr 1
    simp only [renP, List.getElem_map]
    rw [hF, getD_get hk]
  have HRE : Hid ((renP a o).take o.length = renP a o) := hid (List.take_of_length_le (by rw [renP_len]; omega))
  have HRL : Hid (∀ k, ((renP a o).take k).length ≤ k) := hid fun k => by rw [List.length_take]; omega
  have HR0 : Hid ((renP a o).take 0 = []) := hid rfl
  generalize renP a o = R at *
  obtain ⟨G, hG⟩ : ∃ G : Nat → Nat, ∀ i, G i = o.getD i 0 := ⟨fun i => o.getD i 0, fun _ => rfl⟩
  obtain ⟨A, hA⟩ : ∃ A : Nat → Nat, ∀ i, A i = a.getD i 0 := ⟨fun i => a.getD i 0, fun _ => rfl⟩
  simp only [← hF] at HSQ
  simp only [← hA] at hva2 HSQ
  simp only [← hG] at hvc HR HLO
  clear hF hG hA hlo hab ho8 hal
  generalize o.length = n at *
  go_enter Tryz.func192, Tryz.ntmps192
  go_wp2_with fail
  go_loopw [5, 6] (fun s5 s6 wr => ∃ i : Nat, i ≤ n ∧ s6 = .int .i64 i ∧ OwnI wr w.heap.size s5 (zs (R.take i)) ∧ Keeps w wr) (fun _ s6 _ => n - (intOf s6).toNat)
  case atStart => exact ⟨0, by omega, rfl, by rw [HR0.out]; exact OwnI.empty w, (Keeps.refl w).alloc _⟩
  case round =>
    obtain ⟨i, hi, rfl, hown, kw⟩ := hrel
    by_cases hlt : i < n
    · have hlt' : (i : Int) < n := by omega
      obtain ⟨b1, o1, e1, h1⟩ := hvc.out i hlt wr kw
      have hx := HLO.out i hlt
      have hx' : (G i : Int) < n := by omega
      obtain ⟨b2, o2, e2, h2⟩ := hva2.out (G i) hx wr kw
      have HS2 := hid (HSQ.out (G i) wr kw)
      have HRI := hid (HR.out i hlt)
      have hrl := HRL.out i
      have hzl := zs_length (R.take i)
      subst e1 e2
      generalize G i = x at *
      generalize A x = ax at *
      generalize F x = fx at *
      have hsz := kw.size
      have kA := (Keeps.refl wr).alloc (.cells #[.int .i64 (fx : Int)] 2)
      have KW := hid kw; clear kw
      go_wp2_with fail
      refine HS2.out.mono ?_; rintro e w' ⟨rfl, rfl⟩
      go_wp2_with (at_builtin; refine appI rfl _ _ rfl w.heap.size _ (zs (R.take i)) rfl (hown.keeps kA) _ [(fx : Int)] rfl (Ints.lit1 wr fx) (by simp; omega) (by rw [hzl]; simp; omega) ?_; intro v1 w1 hv1 hg1 hr1)
      go_roundw
      case rel => exact ⟨i + 1, by omega, by go_num, by rw [HRI.out, zs_snoc]; exact hv1, (KW.out.trans kA).grown hg1 hr1⟩
      case measure => simp [intOf]; omega
    · have e : n = i := by omega
      subst e
      have hlt' : ¬ (n : Int) < n := by omega
      rw [HRE.out] at hown
      go_wp2_with fail
      go_ret
      exact ⟨_, rfl, hown, kw⟩
end Go.Proofs.YtponaoefpicfpaaGreatDoor
/- The reference: all orders, the least relation. -/
namespace Go.Proofs.YtponaoefpicfpaaGreatDoor
open Go.RowKit
/-! ### rounds that extend lists -/
/-- a list with each number below v that a test admits -/
def extV (P : List Nat → Nat → Bool) (o : List Nat) : Nat → List (List Nat)
  | 0 => []
  | v + 1 => extV P o v ++ (if P o v then [o ++ [v]] else [])
theorem extV_eq (P : List Nat → Nat → Bool) (o : List Nat) : ∀ v, extV P o v = ((List.range v).filter (P o)).map fun i => o ++ [i]
  | 0 => rfl
  | v + 1 => by
    rw [extV, extV_eq P o v, List.range_succ, List.filter_append, List.map_append]
    congr 1
    cases h : P o v <;> simp [h]
theorem extV_len (P : List Nat → Nat → Bool) (o : List Nat) : ∀ v, (extV P o v).length ≤ v
  | 0 => by simp [extV]
  | v + 1 => by
    have := extV_len P o v
    rw [extV, List.length_append]
    split <;> simp <;> omega
def midV (P : List Nat → Nat → Bool) (L : List (List Nat)) (n i : Nat) : List (List Nat) := (L.take i).flatMap fun o => extV P o n
theorem midV_zero (P : List Nat → Nat → Bool) (L : List (List Nat)) (n : Nat) : midV P L n 0 = [] := rfl
theorem midV_succ (P : List Nat → Nat → Bool) (L : List (List Nat)) (n i : Nat) (h : i < L.length) : midV P L n (i + 1) = midV P L n i ++ extV P L[i] n := by
  unfold midV
  rw [List.take_succ_eq_append_getElem h, List.flatMap_append]
  simp
theorem midV_end (P : List Nat → Nat → Bool) (L : List (List Nat)) (n : Nat) : midV P L n L.length = L.flatMap fun o => extV P o n := by unfold midV; rw [List.take_length]
theorem midV_len (P : List Nat → Nat → Bool) (L : List (List Nat)) (n : Nat) : ∀ i, i ≤ L.length → (midV P L n i).length ≤ i * n
  | 0, _ => by simp [midV]
  | i + 1, h => by
    rw [midV_succ P L n i (by omega), List.length_append]
    have := midV_len P L n i (by omega)
    have := extV_len P (L[i]'(by omega)) n
    rw [Nat.add_mul]; omega
theorem roundP_ext (n k : Nat) : roundP n (k + 1) = (roundP n k).flatMap fun o => extV (fun o v => !o.contains v) o n := by
  rw [roundP]
  congr 1
  funext o
  rw [extV_eq]
set_option maxRecDepth 100000 in
theorem round_tab : ∀ n : Fin 5, ∀ k : Fin 5, (roundP n k).length ≤ 24 := by decide +kernel
theorem round_mem (n : Nat) : ∀ k, ∀ o ∈ roundP n k, o.length = k
  | 0, o, h => by simp [roundP] at h; rw [h]; rfl
  | k + 1, o, h => by
    rw [roundP] at h
    obtain ⟨a, ha, h2⟩ := List.mem_flatMap.1 h
    obtain ⟨i, _, rfl⟩ := List.mem_map.1 h2
    rw [List.length_append, round_mem n k a ha]; rfl
--
theorem OwnLI.one {w : World} {B : Nat} {u : Value} {x : List Nat} (hu : OwnI w B u (zs x)) (hB : B ≤ w.heap.size) : OwnLI (w.alloc (.cells #[u] 25)) B (.slice (some ⟨w.heap.size, 0, none⟩) 1 1) [x] :=
  ⟨[u], ⟨by simp, .inr ⟨w.heap.size, 1, #[u], rfl, hB, heap_alloc_new w _, Nat.le_refl _, by simp [maxLen], rfl, by simp⟩⟩, RowsI.one (hu.keeps ((Keeps.refl w).alloc _))⟩
--
set_option maxRecDepth 20000 in
set_option maxHeartbeats 4000000 in
theorem l05Orders_any (n : Nat) (h4 : n ≤ 4) (w : World) : Calls Tryz.prog 191 #[.int .i64 n] w (RetLI w (roundP n n)) := by
  have HRX := hid (roundP_ext n)
  have HTB : Hid (∀ k, k ≤ n → (roundP n k).length ≤ 24) := hid fun k hk => round_tab ⟨n, by omega⟩ ⟨k, by omega⟩
  have HLEN := hid (round_mem n)
  have HR0 : Hid (roundP n 0 = [[]]) := hid rfl
  go_enter Tryz.func191, Tryz.ntmps191
  go_wp2_with fail
  go_loopw [3, 4] (fun s3 s4 wr => ∃ k : Nat, k ≤ n ∧ s4 = .int .i64 k ∧ OwnLI wr w.heap.size s3 (roundP n k) ∧ Keeps w wr) (fun _ s4 _ => n - (intOf s4).toNat)
  case atStart =>
    refine ⟨0, by omega, rfl, ?_, ((Keeps.refl w).alloc _).alloc _⟩
    rw [HR0.out]
    have h := OwnLI.one (x := []) (OwnI.empty w) (by simp)
    have hs : (w.alloc (.cells #[] 2)).heap.size = w.heap.size + 1 := by simp
    rw [hs] at h
    exact h
  case round =>
    obtain ⟨k, hk, rfl, hown, kw⟩ := hrel
    by_cases hlt : k < n
    · have hlt' : (k : Int) < n := by omega
      obtain ⟨p3, q3, rfl, _, hmx3⟩ := hown.shape
      have hRl := HTB.out k hk
      have HLL : Hid (∀ i (h : i < (roundP n k).length), (roundP n k)[i].length ≤ 100) := hid fun i h => by have := HLEN.out k _ (List.getElem_mem h); omega
      have HRXK := hid (HRX.out k)
      generalize roundP n k = L at *
      generalize hwo : wr = wo at *
      clear hwo
      have HOWN := hid hown; clear hown
      have HKW := hid kw
      have k0 := (Keeps.refl wo).alloc (.cells #[] 25)
      have HE0 := hid (OwnLI.empty wo)
      go_wp2_with fail
      go_loopw [5, 6] (fun s5 s6 wx => ∃ i : Nat, i ≤ L.length ∧ s6 = .int .i64 i ∧ OwnLI wx wo.heap.size s5 (midV (fun o v => !o.contains v) L n i) ∧ Keeps wo wx) (fun _ s6 _ => L.length - (intOf s6).toNat)
      case atStart => exact ⟨0, by omega, rfl, by rw [midV_zero]; exact HE0.out, k0⟩
      case round =>
        obtain ⟨i, hi, rfl, hown, kx⟩ := hrel
        clear HE0 k0
        by_cases hil : i < L.length
        · have hil' : (i : Int) < L.length := by omega
          have hml := midV_len (fun o v => !o.contains v) L n i hi
          have HMS := hid (midV_succ (fun o v => !o.contains v) L n i hil)
          have hin : i * n ≤ 24 * 4 := Nat.mul_le_mul (by omega) h4
          have HMN := hid hown; clear hown
          generalize hmv : midV (fun o v => !o.contains v) L n i = M at *
          have HMV := hid hmv; clear hmv
          generalize hwi : wr = wi at *
          clear hwi
          go_wp2_with fail
          go_loopw [5, 7] (fun s5 s7 wx => ∃ v : Nat, v ≤ n ∧ s7 = .int .i64 v ∧ OwnLI wx wo.heap.size s5 (M ++ extV (fun o v => !o.contains v) L[i] v) ∧ Keeps wo wx) (fun _ s7 _ => n - (intOf s7).toNat)
          case atStart => exact ⟨0, by omega, rfl, by simpa [extV] using HMN.out, kx⟩
          case round =>
            obtain ⟨v, hv, rfl, hown, kx⟩ := hrel
            clear HMN
            by_cases hvn : v < n
            · have hvn' : (v : Int) < n := by omega
              have hli := HOWN.out.keeps kx
              obtain ⟨b1, o1, u, rfl, hcu, hou⟩ := hli.get i hil
              obtain ⟨pu, qu, e, -, -, -⟩ := At.of_own hou
              rw [zs_length] at e
              subst e
              have hel := extV_len (fun o v => !o.contains v) L[i] v
              have HES : Hid (extV (fun o v => !o.contains v) L[i] (v + 1) = extV (fun o v => !o.contains v) L[i] v ++ (if !L[i].contains v then [L[i] ++ [v]] else [])) := hid rfl
              obtain ⟨p5, q5, e5, _, _⟩ := hown.shape
              rw [List.length_append] at e5
              subst e5
              have HHA := hid (l01HasN_any L[i] v _ wr (hou.ints (by rw [zs_length]; have := HLL.out i hil; omega)))
              have HON := hid (l01Own_any (zs L[i]) _ wr (hou.ints (by rw [zs_length]; have := HLL.out i hil; omega)))
              have hll := HLL.out i hil
              have hown5 := hid hown; clear hown hou
              have HKX := hid kx; clear kx
              have hsz0 := HKX.out.size
              generalize hLi : L[i] = x at *
              have HLi := hid hLi; clear hLi
              have hlb : (M ++ extV (fun o v => !o.contains v) x v).length ≤ 2147483647 := by rw [List.length_append]; omega
              have HLB := hid hlb; clear hlb
              generalize extV (fun o v => !o.contains v) x v = E at *
              cases hc : x.contains v
              · rw [hc] at HHA
                have HE2 : Hid (extV (fun o v => !o.contains v) x (v + 1) = E ++ [x ++ [v]]) := hid (by rw [HES.out, hc]; simp)
                clear hc HES
                go_wp2_with fail
                refine HHA.out.mono ?_; rintro e w' ⟨rfl, rfl⟩
                go_wp2_with fail
                refine HON.out.mono ?_; rintro e w2 ⟨v39, rfl, hv39, k2⟩
                have ka := (Keeps.refl w2).alloc (.cells #[.int .i64 (v : Int)] 2)
                have hs2 := (k2.trans ka).size
                have hzl := zs_length x
                have KX2 := hid (k2.trans ka)
                obtain ⟨p39, q39, e39, -, -, -⟩ := At.of_own hv39
                rw [zs_length] at e39
                subst e39
                have hxl : (zs (x ++ [v])).length = x.length + 1 := by rw [zs_length]; simp
                have HAPP : Hid (∀ (v4 : Value) (w4 : World), OwnI w4 wr.heap.size v4 (zs x ++ [(v : Int)]) → (w2.alloc (.cells #[.int .i64 (v : Int)] 2)).grownBy w4 (Value.slice p39 x.length q39).ownBlock → (∀ k, (Value.slice p39 x.length q39).ownBlock = some k → wr.heap.size ≤ k) →
                    ∃ p4 q4, v4 = Value.slice p4 (x.length + 1) q4 ∧ Keeps wr (w4.alloc (.cells #[.slice p4 (x.length + 1) q4] 25)) ∧ OwnI (w4.alloc (.cells #[.slice p4 (x.length + 1) q4] 25)) wo.heap.size (.slice p4 (x.length + 1) q4) (zs (x ++ [v]))) := hid fun v4 w4 hv4 hg4 hr4 => by
                  rw [← zs_snoc] at hv4
                  have k4 := KX2.out.grown hg4 hr4
                  obtain ⟨p4, q4, e4, -, -, -⟩ := At.of_own hv4
                  rw [hxl] at e4
                  subst e4
                  exact ⟨p4, q4, rfl, k4.alloc _, (hv4.mono hsz0).keeps ((Keeps.refl w4).alloc _)⟩
                clear hxl
                go_wp2_with (first | (at_builtin; refine appI rfl _ _ rfl wr.heap.size _ (zs x) rfl (hv39.keeps ka) _ [(v : Int)] rfl (Ints.lit1 w2 v) hs2 (by rw [hzl]; simp; omega) ?_; intro v4 w4 hv4 hg4 hr4; obtain ⟨p4, q4, rfl, k5, hv5⟩ := HAPP.out v4 w4 hv4 hg4 hr4) | (at_builtin; refine appLI rfl _ _ rfl wo.heap.size _ (M ++ E) rfl wr hown5.out k5 _ (x ++ [v]) hv5 (HKX.out.trans k5).size _ 1 rfl (At.lit1 _ _ _) HLB.out ?_; intro v6 w6 hv6 hg6 hr6))
                go_roundw
                case rel => exact ⟨v + 1, by omega, by go_num, by rw [HE2.out, ← List.append_assoc]; exact hv6, (HKX.out.trans k5).grown hg6 hr6⟩
                case measure => simp [intOf]; omega
              · rw [hc] at HHA
                have HE2 : Hid (extV (fun o v => !o.contains v) x (v + 1) = E) := hid (by rw [HES.out, hc]; simp)
                clear hc HES
                go_wp2_with fail
                refine HHA.out.mono ?_; rintro e w' ⟨rfl, rfl⟩
                go_wp2_with fail
                go_roundw
                case rel => exact ⟨v + 1, by omega, by go_num, by rw [HE2.out]; exact hown5.out, HKX.out⟩
                case measure => simp [intOf]; omega
            · have e : v = n := by omega
              subst e
              have hvn' : ¬ (v : Int) < v := by omega
              rw [← HMS.out] at hown
              go_wp2_with fail
              go_roundw
              case rel => exact ⟨i + 1, by omega, by go_num, hown, kx⟩
              case measure => simp [intOf]; omega
        · have e : i = L.length := by omega
          have hil' : ¬ (i : Int) < L.length := by omega
          rw [e, midV_end, ← HRXK.out] at hown
          go_wp2_with fail
          go_roundw
          case rel => exact ⟨k + 1, by omega, by go_num, hown.mono HKW.out.size, HKW.out.trans kx⟩
          case measure => simp [intOf]; omega
    · have e : k = n := by omega
      subst e
      have hlt' : ¬ (k : Int) < k := by omega
      go_wp2_with fail
      go_ret
      exact ⟨_, rfl, hown, kw⟩
end Go.Proofs.YtponaoefpicfpaaGreatDoor
