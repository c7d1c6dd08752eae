/- Lists of node lists that grow and are written; the identical substitution on both sides. -/
import Derived.Test.YtjmpiedjhdogeaaM2
import Derived.Test.YtjmpiedjhdogeaaP4
import Derived.Test.YtjmpiedjhdogeaaP5
namespace Go.Proofs.Ytjmpiedjhdogeaa
open Go.RowKit
theorem type_ne {w : World} {B B' : Nat} {T1 T2 : TypeId} {s s' n m : Nat} {v u : Value} {xs ys : List Value} (h1 : w.ownsRow B T1 s v n xs) (h2 : w.ownsRow B' T2 s' u m ys) (hne : T1 ≠ T2) {k : Nat} (hv : v.ownBlock = some k) : u.ownBlock ≠ some k := by
  intro hu
  rcases h1.2 with ⟨rfl, _⟩ | ⟨g, cap, cur, rfl, _, hg, _⟩
  · simp [Value.ownBlock] at hv
  rcases h2.2 with ⟨rfl, _⟩ | ⟨g', cap', cur', rfl, _, hg', _⟩
  · simp [Value.ownBlock] at hu
  simp [Value.ownBlock] at hv hu
  subst hv; subst hu
  rw [hg] at hg'
  injection hg' with e
  injection e with _ e2 _
  exact hne e2
theorem tyne : (25 : TypeId) ≠ 81 := by decide
theorem infoL : (Try.prog.info? 25).map (fun i => (i.zero, i.size, i.bytes)) = some (some (.slice none 0 0), 1, 24) := by kernel_rfl
theorem At.lit1 (w : World) (u : Value) (E : TypeId) : At (w.alloc (.cells #[u] E)) (some ⟨w.heap.size, 0, none⟩) [u] := by
  intro j hj
  simp at hj
  subst hj
  exact ⟨_, _, rfl, by simp⟩
theorem off_rows {w : World} {B B' : Nat} {v : Value} {n : Nat} {hs vs : List Value} {xs : List (List Nd)} (ho : w.ownsRow B 25 1 v n hs) (hr : RowsN w B' vs xs) : Off v vs := fun i hi k hk =>
  type_ne ho (hr.2 i hi (by have := hr.1; omega)) tyne hk
theorem OwnL.nil (w : World) (B : Nat) : OwnL w B (.slice none 0 0) [] := ⟨[], World.ownsRow_nil w B _ 1, RowsN.nil _ _, Apart.nil, Off.nil _⟩
theorem OwnL.empty (w : World) : OwnL (w.alloc (.cells #[] 25)) w.heap.size (.slice (some ⟨w.heap.size, 0, none⟩) 0 0) [] :=
  ⟨[], World.ownsRow_made w #[] 0 (Nat.le_refl _) (by simp [maxLen]) (by simp), RowsN.nil _ _, Apart.nil, Off.nil _⟩
theorem OwnL.snoc {w0 w w' : World} {B : Nat} {v v' u : Value} {xs : List (List Nd)} {x : List Nd} {vs : List Value} (hr : RowsN w0 B vs xs) (ha : Apart vs) (ho : w.ownsRow B 25 1 v xs.length vs) (k : Keeps w0 w) (hu : OwnN w w0.heap.size u x) (hB : B ≤ w0.heap.size)
    (ho' : w'.ownsRow B 25 1 v' (xs.length + 1) (vs ++ [u])) (hg : w.grownBy w' v.ownBlock) : OwnL w' B v' (xs ++ [x]) := by
  have hrw := hr.keeps k
  have hoff := off_rows ho hrw
  have hr' : RowsN w' B vs xs := hrw.touch (Touch.grown hg) (fun i hb e => hoff.not_blk e.symm hb)
  have hu' : OwnN w' B u x := (hu.touch (Touch.grown hg) (fun i hi e => type_ne ho hu tyne e.symm hi)).mono hB
  have hrows := RowsN.snoc hu' hr'
  refine ⟨vs ++ [u], by simpa using ho', hrows, Apart.snoc (fun i hi hb => ?_) ha, off_rows ho' hrows⟩
  have := (hu.len i hi).1
  have := (hr.lt hb).2
  omega
theorem appLK {w : World} {o : Oper} {a : Act} {K : Act → World → Prop} {Q : Exit → Act → World → Prop} (s x : Operand)
    (ho : o.op = .call { callee := .builtin .append, args := #[s, x], argTypes := #[24, 24] }) (base : Nat) (v : Value) (xs : List (List Nd)) (hs : a.eval s = v)
    (w0 : World) (hown : OwnL w0 base v xs) (k : Keeps w0 w) (u : Value) (y : List Nd) (hu : OwnN w w0.heap.size u y) (hbase : base ≤ w0.heap.size)
    (p : Option Addr) (c : Nat) (hx : a.eval x = .slice p 1 c) (hat : At w p [u]) (hlen : xs.length ≤ 2147483648)
    (h : ∀ v' w', OwnL w' base v' (xs ++ [y]) → w.grownBy w' v.ownBlock → (∀ k, v.ownBlock = some k → base ≤ k) → K (a.put o.dst v') w') : o.wp Try.prog a w K Q := by
  obtain ⟨i0, hi, hz0, hz1, hz2⟩ := info_parts infoL
  obtain ⟨vs, hrow, hr, ha, _⟩ := hown
  have hone : ∀ z ∈ [u], z.oneCell' = true := by
    intro z hz
    simp at hz; subst hz
    obtain ⟨p, c, e, _⟩ := At.of_own hu
    rw [e]; rfl
  have hrow' := own_keeps hrow k
  refine wp_append_at s x _ ho _ i0 _ 1 24 Try.underlying24 hi hz0 hz1 hz2 rfl (by decide) base v _ _ hs hrow' p 1 c [u] hx (by simp) hat hone (by unfold maxLen; omega) (by omega) (by have := k.size; omega) ?_
  intro v' w' h1 h2 h3
  exact h v' w' (OwnL.snoc hr ha hrow' k hu hbase h1 h2) h2 h3
theorem appL {w : World} {ops : Array Oper} {rest : List Oper} {o : Oper} {a : Act} {Q : Exit → Act → World → Prop} (hgd : o.guard = none) (s x : Operand)
    (ho : o.op = .call { callee := .builtin .append, args := #[s, x], argTypes := #[24, 24] }) (base : Nat) (v : Value) (xs : List (List Nd)) (hs : a.eval s = v)
    (w0 : World) (hown : OwnL w0 base v xs) (k : Keeps w0 w) (u : Value) (y : List Nd) (hu : OwnN w w0.heap.size u y) (hbase : base ≤ w0.heap.size)
    (p : Option Addr) (c : Nat) (hx : a.eval x = .slice p 1 c) (hat : At w p [u]) (hlen : xs.length ≤ 2147483648)
    (h : ∀ v' w', OwnL w' base v' (xs ++ [y]) → w.grownBy w' v.ownBlock → (∀ k, v.ownBlock = some k → base ≤ k) → wpList Try.prog ops Q rest (a.put o.dst v') w') : wpList Try.prog ops Q (o :: rest) a w :=
  wpList_plain hgd fun _ hK => appLK s x ho base v xs hs w0 hown k u y hu hbase p c hx hat hlen fun v' w' h1 h2 h3 => hK _ _ (h v' w' h1 h2 h3)
theorem OwnL.store {w0 w : World} {B : Nat} {v u : Value} {xs : List (List Nd)} {x : List Nd} (h : OwnL w0 B v xs) (k : Keeps w0 w) (hu : OwnN w w0.heap.size u x) (hB : B ≤ w0.heap.size) (i : Nat) (hi : i < xs.length) :
    ∃ g cap c, v = .slice (some ⟨g, 0, none⟩) xs.length cap ∧ B ≤ g ∧ g < w0.heap.size ∧ w.cell? ⟨g, i, none⟩ = some c ∧ w.frozen? ⟨g, i, none⟩ = false ∧ OwnL (w.setCell ⟨g, i, none⟩ u) B v (xs.set i x) ∧ w.grownBy (w.setCell ⟨g, i, none⟩ u) (some g) := by
  obtain ⟨vs, ho0, hr0, ha, _⟩ := h
  have hl := hr0.1
  obtain ⟨g, cap, e, hBg, hgl⟩ : ∃ g cap, v = .slice (some ⟨g, 0, none⟩) xs.length cap ∧ B ≤ g ∧ g < w0.heap.size := by
    rcases ho0.2 with ⟨_, h0⟩ | ⟨g, cap, cur, e, hb, hg, _⟩
    · omega
    · exact ⟨g, cap, e, hb, (Array.getElem?_eq_some_iff.1 hg).1⟩
  have ho := own_keeps ho0 k
  have hr := hr0.keeps k
  subst e
  have hst := ho.stored i u
  have hoff := off_rows ho hr
  have hlu := hu.len
  refine ⟨g, cap, vs[i]'(by omega), rfl, hBg, hgl, ?_, ho.frozenAt i, ?_, hst.2⟩
  · rw [ho.cellAt i (by omega)]; simp [show i < vs.length by omega]
  have hr' : RowsN (w.setCell ⟨g, i, none⟩ u) B vs xs := hr.touch (Touch.grown hst.2) (fun j hb e => hoff.not_blk (k := j) (by cases e; rfl) hb)
  have hu' : OwnN (w.setCell ⟨g, i, none⟩ u) B u x := (hu.touch (Touch.grown hst.2) (fun j hj e => type_ne ho hu tyne (k := j) (by cases e; rfl) hj)).mono hB
  have hrows : RowsN (w.setCell ⟨g, i, none⟩ u) B (vs.set i u) (xs.set i x) := ⟨by simp [hl], fun j h1 h2 => by
    by_cases e : i = j
    · subst e; simpa using hu'
    · rw [List.getElem_set_ne e, List.getElem_set_ne e]
      exact hr'.2 j (by simpa using h1) (by simpa using h2)⟩
  refine ⟨vs.set i u, by rw [List.length_set]; exact hst.1, hrows, ?_, off_rows hst.1 hrows⟩
  intro j l hj hl' hne q hq
  simp at hj hl'
  by_cases e1 : i = j
  · subst e1
    rw [List.getElem_set_ne hne]
    simp only [List.getElem_set_self] at hq
    intro e
    have := (hlu q hq).1
    have := (hr0.lt ⟨l, hl', e⟩).2
    omega
  · rw [List.getElem_set_ne e1] at hq
    by_cases e2 : i = l
    · subst e2
      simp only [List.getElem_set_self]
      intro e
      have := (hlu q e).1
      have := (hr0.lt ⟨j, hj, hq⟩).2
      omega
    · rw [List.getElem_set_ne e2]
      exact ha j l hj hl' hne q hq
/-- the identical substitution -/
def idL (n : Nat) : List (List Nd) := (List.range n).map fun v => (Fm.var v).enc
theorem idL_succ (n : Nat) : idL (n + 1) = idL n ++ [(Fm.var n).enc] := by simp [idL, List.range_succ]
theorem idL_len (n : Nat) : (idL n).length = n := by simp [idL]
theorem idL_tot (n : Nat) : tot (idL n) = n := by
  induction n with
  | zero => rfl
  | succ n ih => rw [idL_succ, tot_append, ih]; rfl
/-- an owned list of lists comes back -/
def RetL (w : World) (xs : List (List Nd)) (e : Ending) (w' : World) : Prop := ∃ v, e = .returned v ∧ OwnL w' w.heap.size v xs ∧ Keeps w w'
end Go.Proofs.Ytjmpiedjhdogeaa
