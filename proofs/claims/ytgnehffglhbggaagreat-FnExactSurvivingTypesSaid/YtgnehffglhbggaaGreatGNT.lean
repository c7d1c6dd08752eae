/- Rows of needs that grow; the box of a search's types. -/
import Derived.Test.YtgnehffglhbggaaGreatGNP
import Derived.Test.YtgnehffglhbggaaGreatGMY
import Derived.Test.YtgnehffglhbggaaGreatGNH1
import Derived.Test.YtgnehffglhbggaaGreatGVB
import Derived.Test.YtgnehffglhbggaaGreatGSU
import Derived.Test.YtgnehffglhbggaaGreatGMW
namespace Go.Proofs.YtgnehffglhbggaaGreat
open Go.RowKit
def RowsB (w : World) (B : Nat) (vs : List Value) (xs : List (List Bool)) : Prop := vs.length = xs.length ∧ ∀ i (h1 : i < vs.length) (h2 : i < xs.length), OwnB w B vs[i] xs[i]
theorem RowsB.nil (w : World) (B : Nat) : RowsB w B [] [] := ⟨rfl, fun i h => by simp at h⟩
theorem RowsB.snoc {w : World} {B : Nat} {v : Value} {vs : List Value} {x : List Bool} {xs : List (List Bool)} (h : OwnB w B v x) (hs : RowsB w B vs xs) : RowsB w B (vs ++ [v]) (xs ++ [x]) :=
  ⟨by simp [hs.1], fun i h1 h2 => by
    have hl := hs.1
    by_cases hi : i < vs.length
    · rw [List.getElem_append_left hi, List.getElem_append_left (by omega)]; exact hs.2 i hi (by omega)
    · simp at h1
      obtain rfl : i = vs.length := by omega
      rw [List.getElem_append_right (Nat.le_refl _), List.getElem_append_right (by omega)]
      simpa [hl] using h⟩
theorem OwnB.touch {w w' : World} {S : Nat → Prop} {B : Nat} {v : Value} {x : List Bool} (h : OwnB w B v x) (k : Touch w w' S) (hS : ∀ i, v.ownBlock = some i → ¬ S i) : OwnB w' B v x := own_touch h k hS
theorem RowsB.touch {w w' : World} {S : Nat → Prop} {B : Nat} {vs : List Value} {xs : List (List Bool)} (h : RowsB w B vs xs) (k : Touch w w' S) (hS : ∀ i, blk vs i → ¬ S i) : RowsB w' B vs xs :=
  ⟨h.1, fun i h1 h2 => (h.2 i h1 h2).touch k (fun j e => hS j ⟨i, h1, e⟩)⟩
theorem RowsB.keeps {w w' : World} {B : Nat} {vs : List Value} {xs : List (List Bool)} (h : RowsB w B vs xs) (k : Keeps w w') : RowsB w' B vs xs := ⟨h.1, fun i h1 h2 => (h.2 i h1 h2).keeps k⟩
theorem RowsB.lt {w : World} {B : Nat} {vs : List Value} {xs : List (List Bool)} (h : RowsB w B vs xs) {k : Nat} (hk : blk vs k) : B ≤ k ∧ k < w.heap.size := by
  obtain ⟨i, hi, e⟩ := hk
  exact (h.2 i hi (by have := h.1; omega)).len k e
--
def neCells : List Nee → List Value → List Value
  | n :: ns, u :: us => .int .i64 n.ix :: .int .i64 n.kd :: u :: neCells ns us
  | _, _ => []
theorem neCells_len : ∀ (ns : List Nee) (us : List Value), ns.length = us.length → (neCells ns us).length = ns.length * 3
  | [], [], _ => rfl
  | n :: ns, u :: us, h => by
    have := neCells_len ns us (by simpa using h)
    simp only [neCells, List.length_cons, this]; omega
  | [], _ :: _, h => by simp at h
  | _ :: _, [], h => by simp at h
theorem neCells_snoc : ∀ (ns : List Nee) (us : List Value) (n : Nee) (u : Value), ns.length = us.length → neCells (ns ++ [n]) (us ++ [u]) = neCells ns us ++ [.int .i64 n.ix, .int .i64 n.kd, u]
  | [], [], _, _, _ => rfl
  | x :: ns, y :: us, n, u, h => by
    have := neCells_snoc ns us n u (by simpa using h)
    simp only [List.cons_append, neCells, this]
  | [], _ :: _, _, _, h => by simp at h
  | _ :: _, [], _, _, h => by simp at h
theorem neCells_get : ∀ (ns : List Nee) (us : List Value) (i : Nat) (h1 : i < ns.length) (h2 : i < us.length), (neCells ns us)[i * 3]? = some (.int .i64 ns[i].ix) ∧ (neCells ns us)[i * 3 + 1]? = some (.int .i64 ns[i].kd) ∧ (neCells ns us)[i * 3 + 2]? = some us[i]
  | n :: ns, u :: us, 0, _, _ => by simp [neCells]
  | n :: ns, u :: us, i + 1, h1, h2 => by
    have := neCells_get ns us i (by simpa using h1) (by simpa using h2)
    simpa [neCells, Nat.add_mul] using this
theorem infoNe : (Tryz.prog.info? 108).map (fun i => (i.zero, i.size, i.bytes)) = some (some (.agg #[.int .i64 0, .int .i64 0, .slice none 0 0]), 3, 40) := by kernel_rfl
theorem tyNeB : (108 : TypeId) ≠ 4 := by decide
/-- a row of needs of the call's own -/
def OwnNe (w : World) (B : Nat) (v : Value) (ns : List Nee) : Prop :=
  ∃ us, w.ownsRow B 108 3 v ns.length (neCells ns us) ∧ RowsB w B us (ns.map Nee.inn)
theorem OwnNe.nil (w : World) (B : Nat) : OwnNe w B (.slice none 0 0) [] := ⟨[], World.ownsRow_nil w B _ 3, RowsB.nil _ _⟩
theorem OwnNe.keeps {w w' : World} {B : Nat} {v : Value} {ns : List Nee} (h : OwnNe w B v ns) (k : Keeps w w') : OwnNe w' B v ns := by
  obtain ⟨us, h1, h2⟩ := h
  exact ⟨us, own_keeps h1 k, h2.keeps k⟩
/-- another row is written, of another type -/
theorem OwnNe.other {w w' : World} {B B' : Nat} {v u : Value} {ns : List Nee} {T : TypeId} {s m : Nat} {cs : List Value} {S : Nat → Prop} (h : OwnNe w B v ns) (ho : w.ownsRow B' T s u m cs) (t1 : T ≠ 108) (t2 : T ≠ 4) (hS : ∀ i, S i → u.ownBlock = some i) (k : Touch w w' S) : OwnNe w' B v ns := by
  obtain ⟨us, h1, h2⟩ := h
  refine ⟨us, own_touch h1 k (fun i e hi => type_ne ho h1 t1 (hS i hi) e), h2.touch k (fun i hb hi => ?_)⟩
  obtain ⟨j, hj, e⟩ := hb
  exact type_ne ho (h2.2 j hj (by have := h2.1; omega)) t2 (hS i hi) e
theorem OwnNe.shape {w : World} {B : Nat} {v : Value} {ns : List Nee} (h : OwnNe w B v ns) : ∃ p c, v = .slice p ns.length c := by
  obtain ⟨us, h1, _⟩ := h
  obtain ⟨p, c, e, _⟩ := At.of_own h1
  exact ⟨p, c, e⟩
/-- the row off a block that was made later -/
theorem OwnNe.neeO {w w' : World} {B g : Nat} {v : Value} {ns : List Nee} (_h : OwnNe w' B v ns) (hl : ns.length ≤ 8) (hb : ∀ n ∈ ns, n.inn.length ≤ 2147483648) (h0 : OwnNe w B v ns) (k : ∀ us, w.ownsRow B 108 3 v ns.length (neCells ns us) → RowsB w B us (ns.map Nee.inn) → w'.ownsRow B 108 3 v ns.length (neCells ns us) ∧ RowsB w' B us (ns.map Nee.inn)) (hg : w.heap.size ≤ g) : NeeO w' g v ns := by
  obtain ⟨us, a1, a2⟩ := h0
  obtain ⟨h1, h2⟩ := k us a1 a2
  have hul : us.length = ns.length := by rw [h2.1, List.length_map]
  obtain ⟨p, cap, e, hn, hm, hat⟩ := At.of_own h1
  refine ⟨p, cap, e, hn, hm, hl, fun i a => ?_⟩
  obtain ⟨g1, g2, g3⟩ := neCells_get ns us i a (by omega)
  have l2 := neCells_len ns us hul.symm
  obtain ⟨b, off, hp, hc⟩ := hat (i * 3) (by omega)
  obtain ⟨b', off', hp', hc'⟩ := hat (i * 3 + 1) (by omega)
  obtain ⟨b'', off'', hp'', hc''⟩ := hat (i * 3 + 2) (by omega)
  rw [hp] at hp' hp''
  cases hp'
  cases hp''
  rw [List.getElem?_eq_getElem (by omega)] at g1 g2 g3
  rw [Option.some.inj g1] at hc
  rw [Option.some.inj g2] at hc'
  rw [Option.some.inj g3] at hc''
  have hbl : b ≠ g := by
    rw [e, hp] at a1
    have := (World.ownsRow.lt a1 b (by
      rcases a1.2 with ⟨e0, _⟩ | ⟨g9, c9, _, e0, _⟩
      · cases e0
      · cases e0; rfl)).2
    omega
  have hu := a2.2 i (by omega) (by simpa using a)
  have hu' := h2.2 i (by omega) (by simpa using a)
  refine ⟨b, off, us[i]'(by omega), hp, hbl, ?_, hc, by rw [← Nat.add_assoc] at hc'; exact hc', by rw [← Nat.add_assoc] at hc''; exact hc'', ?_⟩
  · intro b2 o2 m2 c2 e2
    rcases hu.2 with ⟨e0, _⟩ | ⟨g9, c9, _, e0, _, hg9, _⟩
    · rw [e2] at e0; cases e0
    · rw [e2] at e0
      cases e0
      have := (Array.getElem?_eq_some_iff.1 hg9).1
      omega
  · have := OwnB.bools hu' (by simpa using hb _ (List.getElem_mem a))
    simpa using this
theorem OwnNe.neeL {w : World} {B : Nat} {v : Value} {ns : List Nee} (h : OwnNe w B v ns) (hl : ns.length ≤ 8) (hb : ∀ n ∈ ns, n.inn.length ≤ 2147483648) : NeeL w v ns :=
  (h.neeO hl hb h (fun _us a b => ⟨a, b⟩) (Nat.le_refl _)).neeL
/-- a need is put behind the row, within a drawn region -/
theorem appNeK {w : World} {o : Oper} {a : Act} {K : Act → World → Prop} {Q : Exit → Act → World → Prop} (s x : Operand)
    (ho : o.op = .call { callee := .builtin .append, args := #[s, x], argTypes := #[76, 76] }) (base : Nat) (v : Value) (ns : List Nee) (hs : a.eval s = v)
    (hown : OwnNe w base v ns) (n : Nee) (u : Value) (hu : OwnB w base u n.inn) (hbase : base ≤ w.heap.size)
    (p : Option Addr) (c : Nat) (hx : a.eval x = .slice p 1 c) (hat : At w p [.int .i64 n.ix, .int .i64 n.kd, u]) (hlen : ns.length ≤ 1000000)
    (h : ∀ v' w', OwnNe w' base v' (ns ++ [n]) → w.grownBy w' v.ownBlock → (∀ k, v.ownBlock = some k → base ≤ k) → K (a.put o.dst v') w') : o.wp Tryz.prog a w K Q := by
  obtain ⟨i0, hi, hz0, hz1, hz2⟩ := info_parts infoNe
  obtain ⟨us, hrow, hr⟩ := hown
  have hone : ∀ z ∈ [Value.int .i64 n.ix, .int .i64 n.kd, u], z.oneCell' = true := by
    intro z hz
    simp at hz
    rcases hz with rfl | rfl | rfl
    · rfl
    · rfl
    · obtain ⟨p, c, e, _⟩ := At.of_own hu
      rw [e]; rfl
  refine wp_append_at s x _ ho _ i0 _ 3 40 Tryz.underlying76 hi hz0 hz1 hz2 rfl (by decide) base v _ _ hs hrow p 1 c [.int .i64 n.ix, .int .i64 n.kd, u] hx (by simp) hat hone (by unfold maxLen; omega) (by omega) hbase ?_
  intro v' w' h1 h2 h3
  refine h v' w' ⟨us ++ [u], ?_, ?_⟩ h2 h3
  · rw [neCells_snoc _ _ _ _ (by rw [hr.1, List.length_map]), List.length_append]
    exact h1
  · rw [List.map_append, List.map_cons, List.map_nil]
    have hoff : ∀ i, v.ownBlock = some i → ¬ blk us i := fun i hv ⟨j, hj, e⟩ => type_ne hrow (hr.2 j hj (by have := hr.1; omega)) tyNeB hv e
    refine RowsB.snoc ?_ (hr.touch (Touch.grown h2) (fun i hb e => hoff i e.symm hb))
    exact hu.touch (Touch.grown h2) (fun i hi e => type_ne hrow hu tyNeB e.symm hi)
theorem stepNe {w : World} {ops : Array Oper} {o : Oper} {a : Act} {K : Act → World → Prop} {Q : Exit → Act → World → Prop} {E : Prop} (hgd : o.guard = none) (s x : Operand)
    (ho : o.op = .call { callee := .builtin .append, args := #[s, x], argTypes := #[76, 76] }) (base : Nat) (v : Value) (ns : List Nee) (hs : a.eval s = v)
    (hown : OwnNe w base v ns) (n : Nee) (u : Value) (hu : OwnB w base u n.inn) (hbase : base ≤ w.heap.size)
    (p : Option Addr) (c : Nat) (hx : a.eval x = .slice p 1 c) (hat : At w p [.int .i64 n.ix, .int .i64 n.kd, u]) (hlen : ns.length ≤ 1000000)
    (h : ∀ v' w', OwnNe w' base v' (ns ++ [n]) → w.grownBy w' v.ownBlock → (∀ k, v.ownBlock = some k → base ≤ k) → K (a.put o.dst v') w') : if Region.wanted o (yielded ops a.tmps) = true then Oper.wp Tryz.prog o a w K Q else E := by
  rw [if_pos (by simp [Region.wanted, hgd])]
  exact appNeK s x ho base v ns hs hown n u hu hbase p c hx hat hlen h
theorem At.lit3v (w : World) (a b u : Value) (E : TypeId) : At (w.alloc (.cells #[a, b, u] E)) (some ⟨w.heap.size, 0, none⟩) [a, b, u] := by
  intro j hj
  match j, hj with
  | 0, _ => exact ⟨_, _, rfl, by simp⟩
  | 1, _ => exact ⟨_, _, rfl, by simp⟩
  | 2, _ => exact ⟨_, _, rfl, by simp⟩
/-! ### the box -/
def BoxT (w : World) (r : Nat) (c0 c1 c2 c3 c4 c5 : Value) : Prop := w.ownsRow r 79 6 (.slice (some ⟨r, 0, none⟩) 1 1) 1 [c0, c1, c2, c3, c4, c5]
section
variable {w w' : World} {r : Nat} {c0 c1 c2 c3 c4 c5 : Value}
theorem BoxT.cell0 (h : BoxT w r c0 c1 c2 c3 c4 c5) : w.cell? ⟨r, 0, none⟩ = some c0 := by rw [World.ownsRow.cellAt h 0 (by omega)]; rfl
theorem BoxT.cell1 (h : BoxT w r c0 c1 c2 c3 c4 c5) : w.cell? ⟨r, 1, none⟩ = some c1 := by rw [World.ownsRow.cellAt h 1 (by omega)]; rfl
theorem BoxT.cell2 (h : BoxT w r c0 c1 c2 c3 c4 c5) : w.cell? ⟨r, 2, none⟩ = some c2 := by rw [World.ownsRow.cellAt h 2 (by omega)]; rfl
theorem BoxT.cell3 (h : BoxT w r c0 c1 c2 c3 c4 c5) : w.cell? ⟨r, 3, none⟩ = some c3 := by rw [World.ownsRow.cellAt h 3 (by omega)]; rfl
theorem BoxT.cell4 (h : BoxT w r c0 c1 c2 c3 c4 c5) : w.cell? ⟨r, 4, none⟩ = some c4 := by rw [World.ownsRow.cellAt h 4 (by omega)]; rfl
theorem BoxT.cell5 (h : BoxT w r c0 c1 c2 c3 c4 c5) : w.cell? ⟨r, 5, none⟩ = some c5 := by rw [World.ownsRow.cellAt h 5 (by omega)]; rfl
theorem BoxT.froz (h : BoxT w r c0 c1 c2 c3 c4 c5) (i : Nat) : w.frozen? ⟨r, i, none⟩ = false := World.ownsRow.frozenAt h i
theorem BoxT.lt (h : BoxT w r c0 c1 c2 c3 c4 c5) : r < w.heap.size := (World.ownsRow.lt h r rfl).2
theorem BoxT.set2 (h : BoxT w r c0 c1 c2 c3 c4 c5) (x : Value) : BoxT (w.setCell ⟨r, 2, none⟩ x) r c0 c1 x c3 c4 c5 := (World.ownsRow.stored h 2 x).1
theorem BoxT.set3 (h : BoxT w r c0 c1 c2 c3 c4 c5) (x : Value) : BoxT (w.setCell ⟨r, 3, none⟩ x) r c0 c1 c2 x c4 c5 := (World.ownsRow.stored h 3 x).1
theorem BoxT.set4 (h : BoxT w r c0 c1 c2 c3 c4 c5) (x : Value) : BoxT (w.setCell ⟨r, 4, none⟩ x) r c0 c1 c2 c3 x c5 := (World.ownsRow.stored h 4 x).1
theorem BoxT.set5 (h : BoxT w r c0 c1 c2 c3 c4 c5) (x : Value) : BoxT (w.setCell ⟨r, 5, none⟩ x) r c0 c1 c2 c3 c4 x := (World.ownsRow.stored h 5 x).1
theorem BoxT.grown (h : BoxT w r c0 c1 c2 c3 c4 c5) (i : Nat) (x : Value) : w.grownBy (w.setCell ⟨r, i, none⟩ x) (some r) := (World.ownsRow.stored h i x).2
theorem BoxT.keeps (h : BoxT w r c0 c1 c2 c3 c4 c5) (k : Keeps w w') : BoxT w' r c0 c1 c2 c3 c4 c5 := own_keeps h k
theorem BoxT.other {B s m : Nat} {T : TypeId} {u : Value} {cs : List Value} {S : Nat → Prop} (h : BoxT w r c0 c1 c2 c3 c4 c5) (ho : w.ownsRow B T s u m cs) (t : T ≠ 79) (hS : ∀ i, S i → u.ownBlock = some i) (k : Touch w w' S) : BoxT w' r c0 c1 c2 c3 c4 c5 :=
  own_touch h k (fun i e hi => type_ne ho h t (hS i hi) e)
theorem BoxT.made (w : World) (c0 c1 c2 c3 c4 c5 : Value) : BoxT (w.alloc (.cells #[c0, c1, c2, c3, c4, c5] 79)) w.heap.size c0 c1 c2 c3 c4 c5 := by
  have h := World.ownsRow_lit (base := w.heap.size) (e := 79) (size := 6) w #[c0, c1, c2, c3, c4, c5] 1 (Nat.le_refl _) (by simp [maxLen]) (by simp)
  simpa [BoxT] using h
/-- a row of another type is not the box's -/
theorem BoxT.off {B s m : Nat} {T : TypeId} {u : Value} {cs : List Value} (h : BoxT w r c0 c1 c2 c3 c4 c5) (ho : w.ownsRow B T s u m cs) (t : 79 ≠ T) : ∀ i, u.ownBlock = some i → ¬ i = r := fun i e hi => by
  subst hi
  exact type_ne h ho t rfl e
end
/-- elementary parts with their texts stay where only the box is written -/
theorem OwnE.touch {w w' : World} {B : Nat} {v : Value} {ss : List ByteArray} {xs : List (List Nd)} {S : Nat → Prop} (h : OwnE w B v ss xs) (k : Touch w w' S) (hS : ∀ i, S i → w.heap.size ≤ i ∨ ∃ r T s c0, w.ownsRow r T s (.slice (some ⟨i, 0, none⟩) 1 1) 1 c0 ∧ T ≠ 98 ∧ T ≠ 89) : OwnE w' B v ss xs := by
  obtain ⟨us, h1, h2, h3⟩ := h
  refine ⟨us, own_touch h1 k (fun i e hi => ?_), h2.touch k (fun i hb hi => ?_), h3⟩
  · have hl := (World.ownsRow.lt h1 i e).2
    rcases hS i hi with h0 | ⟨r, T, s, c0, ho, t1, _⟩
    · omega
    · exact type_ne ho h1 t1 rfl e
  · have hl := (h2.lt hb).2
    rcases hS i hi with h0 | ⟨r, T, s, c0, ho, _, t2⟩
    · omega
    · obtain ⟨j, hj, e⟩ := hb
      exact type_ne ho (h2.2 j hj (by have := h2.1; omega)) t2 rfl e
end Go.Proofs.YtgnehffglhbggaaGreat
/- Names of logics, both sides. -/
namespace Go.Proofs.YtgnehffglhbggaaGreat
open Go.RowKit
def names8 : List ByteArray := [lgS 0, lgS 1, lgS 2, lgS 3, lgS 4, lgS 5, lgS 6, lgS 7]
open Classical in
noncomputable def isLg (s : ByteArray) : Bool := decide (s ∈ names8)
theorem isLg_of {s : ByteArray} (h : isLg s = true) : ∃ L, L < 8 ∧ s = lgS L := by
  unfold isLg at h
  have h := @of_decide_eq_true _ (Classical.propDecidable _) h
  simp only [names8, List.mem_cons, List.not_mem_nil, or_false] at h
  rcases h with h | h | h | h | h | h | h | h
  · exact ⟨0, by omega, h⟩
  · exact ⟨1, by omega, h⟩
  · exact ⟨2, by omega, h⟩
  · exact ⟨3, by omega, h⟩
  · exact ⟨4, by omega, h⟩
  · exact ⟨5, by omega, h⟩
  · exact ⟨6, by omega, h⟩
  · exact ⟨7, by omega, h⟩
theorem isLg_lgS (L : Nat) (h : L < 8) : isLg (lgS L) = true := by
  unfold isLg
  apply @decide_eq_true _ (Classical.propDecidable _)
  have h8 : L = 0 ∨ L = 1 ∨ L = 2 ∨ L = 3 ∨ L = 4 ∨ L = 5 ∨ L = 6 ∨ L = 7 := by omega
  rcases h8 with rfl | rfl | rfl | rfl | rfl | rfl | rfl | rfl <;> simp [names8]
--
set_option maxHeartbeats 1000000 in
theorem indexT_any (ss : List ByteArray) (x : ByteArray) (v : Value) (w : World) (hv : Strs w v ss) :
    Calls Tryz.prog 128 #[v, .string x] w fun e w' => e = .returned (.int .i64 (idxOf (fun y => x.toList == y.toList) ss 0)) ∧ w = w' := by
  have hv0 := hv
  obtain ⟨p, cap, rfl, hle, hmx, hlen⟩ := hv.shape
  unfold maxLen at hmx
  have HV := hid hv0; clear hv hv0
  have HD := hid (fun k (h : k < ss.length) => idxOf_drop (fun y : ByteArray => x.toList == y.toList) ss k h)
  have HE := hid (idxOf_end (fun y : ByteArray => x.toList == y.toList) ss ss.length (Nat.le_refl _))
  generalize hpr : (fun y : ByteArray => x.toList == y.toList) = pr at *
  have HPR : Hid (∀ y, (x.toList == y.toList) = pr y) := hid (fun y => by rw [← hpr])
  clear hpr
  go_enter Tryz.func128, Tryz.ntmps128
  go_wp2_with fail
  go_loopw [4, 8] (fun o i' wr => ∃ k : Nat, k ≤ ss.length ∧ i' = .int .i64 k ∧ o = .int .i64 0 ∧ idxOf pr ss 0 = idxOf pr (ss.drop k) k ∧ w = wr) (fun _ i' _ => ss.length - (intOf i').toNat)
  case atStart => exact ⟨0, by omega, rfl, rfl, by simp, rfl⟩
  case round =>
    obtain ⟨k, hk, rfl, rfl, hs, rfl⟩ := hrel
    have Hs := hid hs; clear hs
    by_cases hlt : k < ss.length
    · have hlt' : (k : Int) < ss.length := by omega
      obtain ⟨b1, o1, rfl, h1⟩ := HV.out.get k hlt
      have HDk := hid (HD.out k hlt)
      have HQ := hid (HPR.out ss[k])
      generalize ss[k] = y at *
      cases he : pr y
      · have he2 : (x.toList == y.toList) = false := by rw [HQ.out, he]
        have HN : Hid (idxOf pr (ss.drop k) k = idxOf pr (ss.drop (k + 1)) (k + 1)) := hid (by have := HDk.out; rw [he2] at this; exact this)
        clear he
        go_wp2_with fail
        go_roundw
        case rel => exact ⟨k + 1, by omega, by go_num, rfl, by rw [Hs.out, HN.out], by trivial⟩
        case measure => simp [intOf]; omega
      · have he2 : (x.toList == y.toList) = true := by rw [HQ.out, he]
        have HN : Hid (idxOf pr (ss.drop k) k = (k : Int)) := hid (by have := HDk.out; rw [he2] at this; exact this)
        clear he
        go_wp2_with fail
        go_ret
        exact ⟨ret_int (by rw [Hs.out, HN.out]), rfl⟩
    · obtain rfl : k = ss.length := by omega
      have hlt' : ¬ ((ss.length : Nat) : Int) < ss.length := by omega
      go_wp2
      go_ret
      exact ⟨ret_int (by rw [Hs.out, HE.out]), rfl⟩
open Classical in
theorem containsT_any (ss : List ByteArray) (x : ByteArray) (v : Value) (w : World) (hv : Strs w v ss) :
    Calls Tryz.prog 86 #[v, .string x] w fun e w' => e = .returned (.bool (decide (x ∈ ss))) ∧ w = w' := by
  have HI := hid (indexT_any ss x v w hv)
  have hd : decide (x ∈ ss) = decide (idxOf (fun y : ByteArray => x.toList == y.toList) ss 0 ≥ 0) := by
    rw [idxOf_any, Bool.eq_iff_iff, decide_eq_true_eq, List.any_eq_true]
    constructor
    · intro h; exact ⟨x, h, by simp⟩
    · rintro ⟨y, hy, e⟩
      rw [beq_bts, decide_eq_true_eq] at e
      rw [bts_inj e]; exact hy
  rw [hd]
  generalize idxOf (fun y : ByteArray => x.toList == y.toList) ss 0 = j at *
  clear hv hd
  go_enter Tryz.func86, Tryz.ntmps86
  go_wp2_with fail
  refine HI.out.mono ?_; rintro e w2 ⟨rfl, rfl⟩
  go_wp2_with fail
  go_ret
  exact ⟨ret_bool rfl, rfl⟩
--
theorem searchLogics_any (w : World) : Calls Tryz.prog 51 #[] w fun e w' => ∃ v, e = .returned v ∧ OwnS w' w.heap.size v names8 ∧ Keeps w w' := by
  have HO : Hid (OwnS (w.alloc (.cells #[.string ⟨#[75]⟩, .string ⟨#[68]⟩, .string ⟨#[84]⟩, .string ⟨#[75, 52]⟩, .string ⟨#[83, 52]⟩, .string ⟨#[71, 76]⟩, .string ⟨#[83, 53]⟩, .string ⟨#[75, 66]⟩] 9)) w.heap.size (.slice (some ⟨w.heap.size, 0, none⟩) 8 8) names8) := hid (by
    have h := World.ownsRow_lit (base := w.heap.size) (e := 9) (size := 1) w #[.string ⟨#[75]⟩, .string ⟨#[68]⟩, .string ⟨#[84]⟩, .string ⟨#[75, 52]⟩, .string ⟨#[83, 52]⟩, .string ⟨#[71, 76]⟩, .string ⟨#[83, 53]⟩, .string ⟨#[75, 66]⟩] 8 (Nat.le_refl _) (by simp [maxLen]) (by simp)
    exact h)
  go_enter Tryz.func51, Tryz.ntmps51
  go_wp2
  go_ret
  exact ⟨_, rfl, HO.out, (Keeps.refl w).alloc _⟩
--
theorem isSearchLogic_any (s : ByteArray) (w : World) : Calls Tryz.prog 58 #[.string s] w fun e w' => e = .returned (.bool (isLg s)) ∧ Keeps w w' := by
  have HS := hid (searchLogics_any w)
  have HC := hid (fun v wz (h : Strs wz v names8) => containsT_any names8 s v wz h)
  have HL : Hid (isLg s = @decide (s ∈ names8) (Classical.propDecidable _)) := hid (by unfold isLg; rfl)
  go_enter Tryz.func58, Tryz.ntmps58
  go_wp2_with fail
  refine HS.out.mono ?_; rintro e w2 ⟨v2, rfl, hv2, k2⟩
  have HCC := hid (HC.out v2 w2 (hv2.strs (by simp [names8])))
  go_wp2_with fail
  refine HCC.out.mono ?_; rintro e w3 ⟨rfl, rfl⟩
  go_wp2_with fail
  go_ret
  exact ⟨ret_bool (by rw [HL.out]), k2⟩
--
theorem beq_str (x y : ByteArray) : (x.toList == y.toList) = decide (bts x = bts y) := beq_bts x y
open Classical in
set_option maxHeartbeats 1000000 in
theorem l01Says_any (ss : List ByteArray) (x : ByteArray) (v : Value) (w : World) (hv : Strs w v ss) :
    Calls Tryz.prog 121 #[v, .string x] w fun e w' => e = .returned (.bool (decide (x ∈ ss))) ∧ w = w' := by
  have hv0 := hv
  obtain ⟨p, cap, rfl, hle, hmx, hlen⟩ := hv.shape
  unfold maxLen at hmx
  have HV := hid hv0; clear hv hv0
  have HY := hid (fun i (h : i < ss.length) (e : (ss[i].toList == x.toList) = true) => show decide (x ∈ ss) = true from decide_eq_true (by
    rw [beq_bts, decide_eq_true_eq] at e
    rw [← bts_inj e]
    exact List.getElem_mem h))
  have HN := hid (fun (h : ∀ j (hj : j < ss.length), (ss[j].toList == x.toList) = false) => show decide (x ∈ ss) = false from decide_eq_false (fun hm => by
    obtain ⟨j, hj, e⟩ := List.getElem_of_mem hm
    have := h j hj
    rw [e, beq_bts] at this
    simp at this))
  generalize decide (x ∈ ss) = b at *
  go_enter Tryz.func121, Tryz.ntmps121
  go_wp2_with fail
  go_loopw [4, 5] (fun o i' wr => ∃ i : Nat, i ≤ ss.length ∧ i' = .int .i64 i ∧ o = .bool false ∧ (∀ j (hj : j < ss.length), j < i → (ss[j].toList == x.toList) = false) ∧ w = wr) (fun _ i' _ => ss.length - (intOf i').toNat)
  case atStart => exact ⟨0, by omega, rfl, rfl, fun j hj h => by omega, rfl⟩
  case round =>
    obtain ⟨i, hi, rfl, rfl, hall, rfl⟩ := hrel
    have HA := hid hall; clear hall
    by_cases hlt : i < ss.length
    · have hlt' : (i : Int) < ss.length := by omega
      obtain ⟨b1, o1, rfl, h1⟩ := HV.out.get i hlt
      have HYi := hid (HY.out i hlt)
      have HNi : Hid ((ss[i].toList == x.toList) = false → ∀ j (hj : j < ss.length), j < i + 1 → (ss[j].toList == x.toList) = false) := hid (fun h j hj hji => by
        by_cases e : j = i
        · subst e; exact h
        · exact HA.out j hj (by omega))
      generalize ss[i] = y at *
      cases he : y.toList == x.toList
      · rw [he] at HNi
        go_wp2_with fail
        go_roundw
        case rel => exact ⟨i + 1, by omega, by go_num, rfl, HNi.out (by trivial), by trivial⟩
        case measure => simp [intOf]; omega
      · rw [he] at HYi
        go_wp2_with fail
        go_ret
        exact ⟨ret_bool (by rw [HYi.out (by trivial)]), rfl⟩
    · have hlt' : ¬ (i : Int) < ss.length := by omega
      have HB := hid (HN.out (fun j hj => HA.out j hj (by omega)))
      obtain rfl : i = ss.length := by omega
      go_wp2_with fail
      go_ret
      exact ⟨ret_bool (by rw [HB.out]), rfl⟩
def names7 : List ByteArray := [lgS 0, lgS 1, lgS 2, lgS 3, lgS 4, lgS 5, lgS 6]
--
open Classical in
theorem isSequentLogic_any (s : ByteArray) (w : World) : Calls Tryz.prog 83 #[.string s] w fun e w' => e = .returned (.bool (decide (s ∈ names7))) ∧ Keeps w w' := by
  have HS : Hid (Strs (w.alloc (.cells #[.string ⟨#[75]⟩, .string ⟨#[68]⟩, .string ⟨#[84]⟩, .string ⟨#[75, 52]⟩, .string ⟨#[83, 52]⟩, .string ⟨#[71, 76]⟩, .string ⟨#[83, 53]⟩] 9)) (.slice (some ⟨w.heap.size, 0, none⟩) 7 7) names7) := hid (Strs.lit (w := w) names7 (by simp [names7]))
  have HC := hid (l01Says_any names7 s _ _ HS.out)
  have kA := (Keeps.refl w).alloc (.cells #[.string ⟨#[75]⟩, .string ⟨#[68]⟩, .string ⟨#[84]⟩, .string ⟨#[75, 52]⟩, .string ⟨#[83, 52]⟩, .string ⟨#[71, 76]⟩, .string ⟨#[83, 53]⟩] 9)
  go_enter Tryz.func83, Tryz.ntmps83
  go_wp2_with fail
  refine HC.out.mono ?_; rintro e w3 ⟨rfl, rfl⟩
  go_wp2_with fail
  go_ret
  exact ⟨rfl, kA⟩
--
open Classical in
theorem isLg_eq (s : ByteArray) : isLg s = ((s.toList == [75, 66]) || decide (s ∈ names7)) := by
  have e1 : (s.toList == [75, 66]) = decide (s = lgS 7) := by
    have h := beq_bts s (lgS 7)
    rw [show (lgS 7).toList = [75, 66] by simp [lgS, go_sem]] at h
    rw [h, Bool.eq_iff_iff, decide_eq_true_eq, decide_eq_true_eq]
    exact ⟨bts_inj, fun e => by rw [e]⟩
  rw [e1]
  unfold isLg
  rw [Bool.eq_iff_iff, Bool.or_eq_true, decide_eq_true_eq, decide_eq_true_eq, decide_eq_true_eq]
  simp only [names8, names7, List.mem_cons, List.not_mem_nil, or_false]
  constructor
  · rintro (h | h | h | h | h | h | h | h) <;> simp [h]
  · rintro (h | h | h | h | h | h | h | h) <;> simp [h]
theorem l12Is_any (s : ByteArray) (w : World) : Calls Tryz.prog 54 #[.string s] w fun e w' => e = .returned (.bool (isLg s)) ∧ Keeps w w' := by
  have HS := hid (isSequentLogic_any s w)
  rw [isLg_eq s]
  generalize @decide (s ∈ names7) (Classical.propDecidable _) = b at *
  cases hb : s.toList == [75, 66]
  · go_enter Tryz.func54, Tryz.ntmps54
    go_wp2_with fail
    refine HS.out.mono ?_; rintro e w2 ⟨rfl, k2⟩
    go_wp2_with fail
    go_ret
    exact ⟨rfl, k2⟩
  · go_enter Tryz.func54, Tryz.ntmps54
    go_wp2_with fail
    go_ret
    exact ⟨rfl, Keeps.refl _⟩
end Go.Proofs.YtgnehffglhbggaaGreat
/- What a type makes true, program side. -/
namespace Go.Proofs.YtgnehffglhbggaaGreat
open Go.RowKit
--
set_option maxRecDepth 20000 in
set_option maxHeartbeats 4000000 in
theorem valueIn_any (E : List Fm) (ss : List ByteArray) (h8 : E.length ≤ 8) (m : Nat) (hm : m < 256) (r : Nat) (pv : Value) (t : Fm) :
    ∀ (v : Value) (w : World), (∀ x ∈ subs t, isEl x = true → x ∈ E) → Nds w v t.enc → w.cell? ⟨r, 1, none⟩ = some pv → ElL w pv ss (E.map Fm.enc) →
    Calls Tryz.prog 72 #[.pointer (some ⟨r, 0, none⟩), v, .int .i64 m] w fun e w' => e = .returned (.bool (valB E m t)) ∧ Keeps w w' := by
  induction t with
  | var i => intro v w hs hv hc hp; exact valueIn_el E ss h8 m hm (.var i) (.inl rfl) (hs _ (subs_self _) rfl) v w r pv hv hc hp
  | box a _ => intro v w hs hv hc hp; exact valueIn_el E ss h8 m hm (.box a) (.inr (.inl rfl)) (hs _ (subs_self _) rfl) v w r pv hv hc hp
  | dia a _ => intro v w hs hv hc hp; exact valueIn_el E ss h8 m hm (.dia a) (.inr (.inr rfl)) (hs _ (subs_self _) rfl) v w r pv hv hc hp
  | fls =>
    intro v w hs hv hc1 hp
    obtain ⟨b, off, n, cap, rfl, h0, h1, h2, h3, hc, -⟩ := hv.root
    have kA := (Keeps.refl w).alloc (.cells #[.slice (some ⟨b, off, none⟩) n cap] 46)
    have hcA := kA.cell hc
    rw [show Fm.fls.kind = 1 from rfl] at hcA
    unfold maxLen at h2
    clear hs hp hv hc1 hc
    go_enter Tryz.func72, Tryz.ntmps72
    go_wp2_with fail
    go_ret
    exact ⟨rfl, kA⟩
  | and x y ihx ihy =>
    intro v w hs hv hc1 hp
    have HX := hid (fun vz wz (kz : Keeps w wz) (hz : Nds wz vz x.enc) => ihx vz wz (fun a ha => hs a (by simp [subs, ha])) hz (kz.cell hc1) (hp.keeps kz))
    have HY := hid (fun vz wz (kz : Keeps w wz) (hz : Nds wz vz y.enc) => ihy vz wz (fun a ha => hs a (by simp [subs, ha])) hz (kz.cell hc1) (hp.keeps kz))
    have hv0 := hv
    obtain ⟨b, off, n, cap, rfl, h0, h1, h2, h3, hc, -⟩ := hv.root
    have kA := (Keeps.refl w).alloc (.cells #[.slice (some ⟨b, off, none⟩) n cap] 46)
    have c0 : (w.alloc (.cells #[.slice (some ⟨b, off, none⟩) n cap] 46)).cell? ⟨w.heap.size, 0, none⟩ = some (.slice (some ⟨b, off, none⟩) n cap) := by simp
    have hcA := kA.cell hc
    rw [show (Fm.and x y).kind = 2 from rfl] at hcA
    have hvA := hv0.keeps kA
    unfold maxLen at h2
    clear hs hp hv hc1 hc hv0 ihx ihy
    go_enter Tryz.func72, Tryz.ntmps72
    go_wp2_with fail
    refine (first_any _ _ x y.enc _ _ hvA rfl).mono ?_; rintro e w' ⟨v1, rfl, hv1, rfl⟩
    go_wp2_with fail
    refine (HX.out v1 _ kA hv1).mono ?_; rintro e w2 ⟨rfl, k2⟩
    have c2 := k2.cell c0
    cases hbx : valB E m x
    · go_wp2_with fail
      go_ret
      exact ⟨ret_bool (by simp [valB, hbx]), kA.trans k2⟩
    · go_wp2_with fail
      refine (second_any _ _ x y _ _ (hvA.keeps k2) rfl).mono ?_; rintro e w' ⟨v3, rfl, hv3, rfl⟩
      go_wp2_with fail
      refine (HY.out v3 _ (kA.trans k2) hv3).mono ?_; rintro e w4 ⟨rfl, k4⟩
      go_wp2_with fail
      go_ret
      exact ⟨ret_bool (by simp [valB, hbx]), (kA.trans k2).trans k4⟩
  | or x y ihx ihy =>
    intro v w hs hv hc1 hp
    have HX := hid (fun vz wz (kz : Keeps w wz) (hz : Nds wz vz x.enc) => ihx vz wz (fun a ha => hs a (by simp [subs, ha])) hz (kz.cell hc1) (hp.keeps kz))
    have HY := hid (fun vz wz (kz : Keeps w wz) (hz : Nds wz vz y.enc) => ihy vz wz (fun a ha => hs a (by simp [subs, ha])) hz (kz.cell hc1) (hp.keeps kz))
    have hv0 := hv
    obtain ⟨b, off, n, cap, rfl, h0, h1, h2, h3, hc, -⟩ := hv.root
    have kA := (Keeps.refl w).alloc (.cells #[.slice (some ⟨b, off, none⟩) n cap] 46)
    have c0 : (w.alloc (.cells #[.slice (some ⟨b, off, none⟩) n cap] 46)).cell? ⟨w.heap.size, 0, none⟩ = some (.slice (some ⟨b, off, none⟩) n cap) := by simp
    have hcA := kA.cell hc
    rw [show (Fm.or x y).kind = 3 from rfl] at hcA
    have hvA := hv0.keeps kA
    unfold maxLen at h2
    clear hs hp hv hc1 hc hv0 ihx ihy
    go_enter Tryz.func72, Tryz.ntmps72
    go_wp2_with fail
    refine (first_any _ _ x y.enc _ _ hvA rfl).mono ?_; rintro e w' ⟨v1, rfl, hv1, rfl⟩
    go_wp2_with fail
    refine (HX.out v1 _ kA hv1).mono ?_; rintro e w2 ⟨rfl, k2⟩
    have c2 := k2.cell c0
    cases hbx : valB E m x
    · go_wp2_with fail
      refine (second_any _ _ x y _ _ (hvA.keeps k2) rfl).mono ?_; rintro e w' ⟨v3, rfl, hv3, rfl⟩
      go_wp2_with fail
      refine (HY.out v3 _ (kA.trans k2) hv3).mono ?_; rintro e w4 ⟨rfl, k4⟩
      go_wp2_with fail
      go_ret
      exact ⟨ret_bool (by simp [valB, hbx]), (kA.trans k2).trans k4⟩
    · go_wp2_with fail
      go_ret
      exact ⟨ret_bool (by simp [valB, hbx]), kA.trans k2⟩
  | imp x y ihx ihy =>
    intro v w hs hv hc1 hp
    have HX := hid (fun vz wz (kz : Keeps w wz) (hz : Nds wz vz x.enc) => ihx vz wz (fun a ha => hs a (by simp [subs, ha])) hz (kz.cell hc1) (hp.keeps kz))
    have HY := hid (fun vz wz (kz : Keeps w wz) (hz : Nds wz vz y.enc) => ihy vz wz (fun a ha => hs a (by simp [subs, ha])) hz (kz.cell hc1) (hp.keeps kz))
    have hv0 := hv
    obtain ⟨b, off, n, cap, rfl, h0, h1, h2, h3, hc, -⟩ := hv.root
    have kA := (Keeps.refl w).alloc (.cells #[.slice (some ⟨b, off, none⟩) n cap] 46)
    have c0 : (w.alloc (.cells #[.slice (some ⟨b, off, none⟩) n cap] 46)).cell? ⟨w.heap.size, 0, none⟩ = some (.slice (some ⟨b, off, none⟩) n cap) := by simp
    have hcA := kA.cell hc
    rw [show (Fm.imp x y).kind = 4 from rfl] at hcA
    have hvA := hv0.keeps kA
    unfold maxLen at h2
    clear hs hp hv hc1 hc hv0 ihx ihy
    go_enter Tryz.func72, Tryz.ntmps72
    go_wp2_with fail
    refine (first_any _ _ x y.enc _ _ hvA rfl).mono ?_; rintro e w' ⟨v1, rfl, hv1, rfl⟩
    go_wp2_with fail
    refine (HX.out v1 _ kA hv1).mono ?_; rintro e w2 ⟨rfl, k2⟩
    have c2 := k2.cell c0
    cases hbx : valB E m x
    · go_wp2_with fail
      go_ret
      exact ⟨ret_bool (by simp [valB, hbx]), kA.trans k2⟩
    · go_wp2_with fail
      refine (second_any _ _ x y _ _ (hvA.keeps k2) rfl).mono ?_; rintro e w' ⟨v3, rfl, hv3, rfl⟩
      go_wp2_with fail
      refine (HY.out v3 _ (kA.trans k2) hv3).mono ?_; rintro e w4 ⟨rfl, k4⟩
      go_wp2_with fail
      go_ret
      exact ⟨ret_bool (by simp [valB, hbx]), (kA.trans k2).trans k4⟩
end Go.Proofs.YtgnehffglhbggaaGreat
/- The types of a search, program side: newTypes. -/
namespace Go.Proofs.YtgnehffglhbggaaGreat
open Go.RowKit
/-- a search's types, made -/
structure NwR (w : World) (r L : Nat) (E : List Fm) (N : Nat) (R : List Bool) (ss : List ByteArray) : Prop where
  ty : TyA w r L N (nees E N) (liveL L E N)
  c4 : ∃ v, w.cell? ⟨r, 4, none⟩ = some v ∧ Bools w v R
  c1 : ∃ v, w.cell? ⟨r, 1, none⟩ = some v ∧ ElL w v ss (E.map Fm.enc)
theorem NwR.keeps {w w' : World} {r L : Nat} {E : List Fm} {N : Nat} {R : List Bool} {ss : List ByteArray} (h : NwR w r L E N R ss) (k : Keeps w w') : NwR w' r L E N R ss := by
  obtain ⟨v4, a4, b4⟩ := h.c4
  obtain ⟨v1, a1, b1⟩ := h.c1
  exact ⟨h.ty.keeps k, ⟨v4, k.cell a4, b4.keeps k⟩, ⟨v1, k.cell a1, b1.keeps k⟩⟩
def refL (E A B : List Fm) (N : Nat) : List Bool := (List.range N).map (refB E A B)
--
set_option maxHeartbeats 1000000 in
theorem newTypes1_any (E : List Fm) (ss : List ByteArray) (h8 : E.length ≤ 8) (m : Nat) (hm : m < 256) (r gp gt : Nat) (pv v : Value) (t : Fm) (w : World) (hs : ∀ x ∈ subs t, isEl x = true → x ∈ E) (hv : Nds w v t.enc)
    (c1 : w.cell? ⟨r, 1, none⟩ = some pv) (hp : ElL w pv ss (E.map Fm.enc)) (cp : w.cell? ⟨gp, 0, none⟩ = some (.pointer (some ⟨r, 0, none⟩))) (ct : w.cell? ⟨gt, 0, none⟩ = some (.int .i64 m)) :
    Calls Tryz.prog 76 #[v, .pointer (some ⟨gp, 0, none⟩), .pointer (some ⟨gt, 0, none⟩)] w fun e w' => e = .returned (.bool (!valB E m t)) ∧ Keeps w w' := by
  have HV := hid (valueIn_any E ss h8 m hm r pv t v w hs hv c1 hp)
  obtain ⟨p, n, c, rfl⟩ := hv.shape
  clear hs hv hp c1
  generalize valB E m t = b at *
  go_enter Tryz.func76, Tryz.ntmps76
  go_wp2_with fail
  refine HV.out.mono ?_; rintro e w2 ⟨rfl, k2⟩
  go_wp2_with fail
  go_ret
  exact ⟨rfl, k2⟩
set_option maxHeartbeats 1000000 in
theorem newTypes2_any (E : List Fm) (ss : List ByteArray) (h8 : E.length ≤ 8) (m : Nat) (hm : m < 256) (r gp gt : Nat) (pv v : Value) (t : Fm) (w : World) (hs : ∀ x ∈ subs t, isEl x = true → x ∈ E) (hv : Nds w v t.enc)
    (c1 : w.cell? ⟨r, 1, none⟩ = some pv) (hp : ElL w pv ss (E.map Fm.enc)) (cp : w.cell? ⟨gp, 0, none⟩ = some (.pointer (some ⟨r, 0, none⟩))) (ct : w.cell? ⟨gt, 0, none⟩ = some (.int .i64 m)) :
    Calls Tryz.prog 77 #[v, .pointer (some ⟨gp, 0, none⟩), .pointer (some ⟨gt, 0, none⟩)] w fun e w' => e = .returned (.bool (valB E m t)) ∧ Keeps w w' := by
  have HV := hid (valueIn_any E ss h8 m hm r pv t v w hs hv c1 hp)
  obtain ⟨p, n, c, rfl⟩ := hv.shape
  clear hs hv hp c1
  generalize valB E m t = b at *
  go_enter Tryz.func77, Tryz.ntmps77
  go_wp2_with fail
  refine HV.out.mono ?_; rintro e w2 ⟨rfl, k2⟩
  go_wp2_with fail
  go_ret
  exact ⟨rfl, k2⟩
theorem enters_newTypes1 : Enters 76 := fun _ _ => by kernel_rfl
theorem enters_newTypes2 : Enters 77 := fun _ _ => by kernel_rfl
/-- a formula read back from its nodes -/
noncomputable def decE (x : List Nd) : Fm := @dite _ (∃ t : Fm, t.enc = x) (Classical.propDecidable _) (fun h => Classical.choose h) (fun _ => .fls)
theorem decE_enc (t : Fm) : decE t.enc = t := by
  have h : ∃ u : Fm, u.enc = t.enc := ⟨t, rfl⟩
  unfold decE
  rw [dif_pos h]
  exact enc_inj (Classical.choose_spec h)
theorem any_dec (A : List Fm) (p : Fm → Bool) : (A.map Fm.enc).any (fun x => p (decE x)) = A.any p := by
  rw [List.any_map]
  exact any_same fun t _ => by simp [decE_enc]
--
theorem newContains1 (E A : List Fm) (ss : List ByteArray) (h8 : E.length ≤ 8) (m : Nat) (hm : m < 256) (r gp gt : Nat) (pv v : Value) (w : World) (hs : ∀ t ∈ A, ∀ x ∈ subs t, isEl x = true → x ∈ E) (hv : NdsL w v (A.map Fm.enc))
    (c1 : w.cell? ⟨r, 1, none⟩ = some pv) (hp : ElL w pv ss (E.map Fm.enc)) (cp : w.cell? ⟨gp, 0, none⟩ = some (.pointer (some ⟨r, 0, none⟩))) (ct : w.cell? ⟨gt, 0, none⟩ = some (.int .i64 m)) :
    Calls Tryz.prog 75 #[v, .func (.func 76) #[] #[.pointer (some ⟨gp, 0, none⟩), .pointer (some ⟨gt, 0, none⟩)]] w fun e w' => e = .returned (.bool (A.any fun t => !valB E m t)) ∧ Keeps w w' := by
  rw [← any_dec A (fun t => !valB E m t)]
  refine containsFuncL (fun x => !valB E m (decE x)) _ _ _ v w hv enters_newTypes1 (fun x u w1 hx k1 hu => ?_)
  obtain ⟨t, ht, rfl⟩ := List.mem_map.1 hx
  rw [decE_enc]
  exact newTypes1_any E ss h8 m hm r gp gt pv u t w1 (hs t ht) hu (k1.cell c1) (hp.keeps k1) (k1.cell cp) (k1.cell ct)
theorem newContains2 (E A : List Fm) (ss : List ByteArray) (h8 : E.length ≤ 8) (m : Nat) (hm : m < 256) (r gp gt : Nat) (pv v : Value) (w : World) (hs : ∀ t ∈ A, ∀ x ∈ subs t, isEl x = true → x ∈ E) (hv : NdsL w v (A.map Fm.enc))
    (c1 : w.cell? ⟨r, 1, none⟩ = some pv) (hp : ElL w pv ss (E.map Fm.enc)) (cp : w.cell? ⟨gp, 0, none⟩ = some (.pointer (some ⟨r, 0, none⟩))) (ct : w.cell? ⟨gt, 0, none⟩ = some (.int .i64 m)) :
    Calls Tryz.prog 75 #[v, .func (.func 77) #[] #[.pointer (some ⟨gp, 0, none⟩), .pointer (some ⟨gt, 0, none⟩)]] w fun e w' => e = .returned (.bool (A.any fun t => valB E m t)) ∧ Keeps w w' := by
  rw [← any_dec A (fun t => valB E m t)]
  refine containsFuncL (fun x => valB E m (decE x)) _ _ _ v w hv enters_newTypes2 (fun x u w1 hx k1 hu => ?_)
  obtain ⟨t, ht, rfl⟩ := List.mem_map.1 hx
  rw [decE_enc]
  exact newTypes2_any E ss h8 m hm r gp gt pv u t w1 (hs t ht) hu (k1.cell c1) (hp.keeps k1) (k1.cell cp) (k1.cell ct)
end Go.Proofs.YtgnehffglhbggaaGreat
