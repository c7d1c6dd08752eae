/- Lists of node lists that grow and are written; the identical substitution on both sides. -/
import Derived.Test.YtgnlfceloiilbaaGreatGM2
import Derived.Test.YtgnlfceloiilbaaGreatGP4
import Derived.Test.YtgnlfceloiilbaaGreatGP6
import Derived.Test.YtgnlfceloiilbaaGreatGSR
import Derived.Test.YtgnlfceloiilbaaGreatGVA
namespace Go.Proofs.YtgnlfceloiilbaaGreat
open Go.RowKit
theorem type_ne {w : World} {B B' : Nat} {T1 T2 : TypeId} {s s' n m : Nat} {v u : Value} {xs ys : List Value} (h1 : w.ownsRow B T1 s v n xs) (h2 : w.ownsRow B' T2 s' u m ys) (hne : T1 ≠ T2) {k : Nat} (hv : v.ownBlock = some k) : u.ownBlock ≠ some k := by
  intro hu
  rcases h1.2 with ⟨rfl, _⟩ | ⟨g, cap, cur, rfl, _, hg, _⟩
  · simp [Value.ownBlock] at hv
  rcases h2.2 with ⟨rfl, _⟩ | ⟨g', cap', cur', rfl, _, hg', _⟩
  · simp [Value.ownBlock] at hu
  simp [Value.ownBlock] at hv hu
  subst hv; subst hu
  rw [hg] at hg'
  injection hg' with e
  injection e with _ e2 _
  exact hne e2
theorem tyne : (73 : TypeId) ≠ 145 := by decide
theorem infoL : (Tryz.prog.info? 73).map (fun i => (i.zero, i.size, i.bytes)) = some (some (.slice none 0 0), 1, 24) := by kernel_rfl
theorem At.lit1 (w : World) (u : Value) (E : TypeId) : At (w.alloc (.cells #[u] E)) (some ⟨w.heap.size, 0, none⟩) [u] := by
  intro j hj
  simp at hj
  subst hj
  exact ⟨_, _, rfl, by simp⟩
theorem off_rows {w : World} {B B' : Nat} {v : Value} {n : Nat} {hs vs : List Value} {xs : List (List Nd)} (ho : w.ownsRow B 73 1 v n hs) (hr : RowsN w B' vs xs) : Off v vs := fun i hi k hk =>
  type_ne ho (hr.2 i hi (by have := hr.1; omega)) tyne hk
theorem OwnL.nil (w : World) (B : Nat) : OwnL w B (.slice none 0 0) [] := ⟨[], World.ownsRow_nil w B _ 1, RowsN.nil _ _, Apart.nil, Off.nil _⟩
theorem OwnL.empty (w : World) : OwnL (w.alloc (.cells #[] 73)) w.heap.size (.slice (some ⟨w.heap.size, 0, none⟩) 0 0) [] :=
  ⟨[], World.ownsRow_made w #[] 0 (Nat.le_refl _) (by simp [maxLen]) (by simp), RowsN.nil _ _, Apart.nil, Off.nil _⟩
theorem OwnL.snoc {w0 w w' : World} {B : Nat} {v v' u : Value} {xs : List (List Nd)} {x : List Nd} {vs : List Value} (hr : RowsN w0 B vs xs) (ha : Apart vs) (ho : w.ownsRow B 73 1 v xs.length vs) (k : Keeps w0 w) (hu : OwnN w w0.heap.size u x) (hB : B ≤ w0.heap.size)
    (ho' : w'.ownsRow B 73 1 v' (xs.length + 1) (vs ++ [u])) (hg : w.grownBy w' v.ownBlock) : OwnL w' B v' (xs ++ [x]) := by
  have hrw := hr.keeps k
  have hoff := off_rows ho hrw
  have hr' : RowsN w' B vs xs := hrw.touch (Touch.grown hg) (fun i hb e => hoff.not_blk e.symm hb)
  have hu' : OwnN w' B u x := (hu.touch (Touch.grown hg) (fun i hi e => type_ne ho hu tyne e.symm hi)).mono hB
  have hrows := RowsN.snoc hu' hr'
  refine ⟨vs ++ [u], by simpa using ho', hrows, Apart.snoc (fun i hi hb => ?_) ha, off_rows ho' hrows⟩
  have := (hu.len i hi).1
  have := (hr.lt hb).2
  omega
theorem appLK {w : World} {o : Oper} {a : Act} {K : Act → World → Prop} {Q : Exit → Act → World → Prop} (s x : Operand)
    (ho : o.op = .call { callee := .builtin .append, args := #[s, x], argTypes := #[126, 126] }) (base : Nat) (v : Value) (xs : List (List Nd)) (hs : a.eval s = v)
    (w0 : World) (hown : OwnL w0 base v xs) (k : Keeps w0 w) (u : Value) (y : List Nd) (hu : OwnN w w0.heap.size u y) (hbase : base ≤ w0.heap.size)
    (p : Option Addr) (c : Nat) (hx : a.eval x = .slice p 1 c) (hat : At w p [u]) (hlen : xs.length ≤ 2147483648)
    (h : ∀ v' w', OwnL w' base v' (xs ++ [y]) → w.grownBy w' v.ownBlock → (∀ k, v.ownBlock = some k → base ≤ k) → K (a.put o.dst v') w') : o.wp Tryz.prog a w K Q := by
  obtain ⟨i0, hi, hz0, hz1, hz2⟩ := info_parts infoL
  obtain ⟨vs, hrow, hr, ha, _⟩ := hown
  have hone : ∀ z ∈ [u], z.oneCell' = true := by
    intro z hz
    simp at hz; subst hz
    obtain ⟨p, c, e, _⟩ := At.of_own hu
    rw [e]; rfl
  have hrow' := own_keeps hrow k
  refine wp_append_at s x _ ho _ i0 _ 1 24 Tryz.underlying126 hi hz0 hz1 hz2 rfl (by decide) base v _ _ hs hrow' p 1 c [u] hx (by simp) hat hone (by unfold maxLen; omega) (by omega) (by have := k.size; omega) ?_
  intro v' w' h1 h2 h3
  exact h v' w' (OwnL.snoc hr ha hrow' k hu hbase h1 h2) h2 h3
theorem appL {w : World} {ops : Array Oper} {rest : List Oper} {o : Oper} {a : Act} {Q : Exit → Act → World → Prop} (hgd : o.guard = none) (s x : Operand)
    (ho : o.op = .call { callee := .builtin .append, args := #[s, x], argTypes := #[126, 126] }) (base : Nat) (v : Value) (xs : List (List Nd)) (hs : a.eval s = v)
    (w0 : World) (hown : OwnL w0 base v xs) (k : Keeps w0 w) (u : Value) (y : List Nd) (hu : OwnN w w0.heap.size u y) (hbase : base ≤ w0.heap.size)
    (p : Option Addr) (c : Nat) (hx : a.eval x = .slice p 1 c) (hat : At w p [u]) (hlen : xs.length ≤ 2147483648)
    (h : ∀ v' w', OwnL w' base v' (xs ++ [y]) → w.grownBy w' v.ownBlock → (∀ k, v.ownBlock = some k → base ≤ k) → wpList Tryz.prog ops Q rest (a.put o.dst v') w') : wpList Tryz.prog ops Q (o :: rest) a w :=
  wpList_plain hgd fun _ hK => appLK s x ho base v xs hs w0 hown k u y hu hbase p c hx hat hlen fun v' w' h1 h2 h3 => hK _ _ (h v' w' h1 h2 h3)
theorem OwnL.store {w0 w : World} {B : Nat} {v u : Value} {xs : List (List Nd)} {x : List Nd} (h : OwnL w0 B v xs) (k : Keeps w0 w) (hu : OwnN w w0.heap.size u x) (hB : B ≤ w0.heap.size) (i : Nat) (hi : i < xs.length) :
    ∃ g cap c, v = .slice (some ⟨g, 0, none⟩) xs.length cap ∧ B ≤ g ∧ g < w0.heap.size ∧ w.cell? ⟨g, i, none⟩ = some c ∧ w.frozen? ⟨g, i, none⟩ = false ∧ OwnL (w.setCell ⟨g, i, none⟩ u) B v (xs.set i x) ∧ w.grownBy (w.setCell ⟨g, i, none⟩ u) (some g) := by
  obtain ⟨vs, ho0, hr0, ha, _⟩ := h
  have hl := hr0.1
  obtain ⟨g, cap, e, hBg, hgl⟩ : ∃ g cap, v = .slice (some ⟨g, 0, none⟩) xs.length cap ∧ B ≤ g ∧ g < w0.heap.size := by
    rcases ho0.2 with ⟨_, h0⟩ | ⟨g, cap, cur, e, hb, hg, _⟩
    · omega
    · exact ⟨g, cap, e, hb, (Array.getElem?_eq_some_iff.1 hg).1⟩
  have ho := own_keeps ho0 k
  have hr := hr0.keeps k
  subst e
  have hst := ho.stored i u
  have hoff := off_rows ho hr
  have hlu := hu.len
  refine ⟨g, cap, vs[i]'(by omega), rfl, hBg, hgl, ?_, ho.frozenAt i, ?_, hst.2⟩
  · rw [ho.cellAt i (by omega)]; simp [show i < vs.length by omega]
  have hr' : RowsN (w.setCell ⟨g, i, none⟩ u) B vs xs := hr.touch (Touch.grown hst.2) (fun j hb e => hoff.not_blk (k := j) (by cases e; rfl) hb)
  have hu' : OwnN (w.setCell ⟨g, i, none⟩ u) B u x := (hu.touch (Touch.grown hst.2) (fun j hj e => type_ne ho hu tyne (k := j) (by cases e; rfl) hj)).mono hB
  have hrows : RowsN (w.setCell ⟨g, i, none⟩ u) B (vs.set i u) (xs.set i x) := ⟨by simp [hl], fun j h1 h2 => by
    by_cases e : i = j
    · subst e; simpa using hu'
    · rw [List.getElem_set_ne e, List.getElem_set_ne e]
      exact hr'.2 j (by simpa using h1) (by simpa using h2)⟩
  refine ⟨vs.set i u, by rw [List.length_set]; exact hst.1, hrows, ?_, off_rows hst.1 hrows⟩
  intro j l hj hl' hne q hq
  simp at hj hl'
  by_cases e1 : i = j
  · subst e1
    rw [List.getElem_set_ne hne]
    simp only [List.getElem_set_self] at hq
    intro e
    have := (hlu q hq).1
    have := (hr0.lt ⟨l, hl', e⟩).2
    omega
  · rw [List.getElem_set_ne e1] at hq
    by_cases e2 : i = l
    · subst e2
      simp only [List.getElem_set_self]
      intro e
      have := (hlu q e).1
      have := (hr0.lt ⟨j, hj, hq⟩).2
      omega
    · rw [List.getElem_set_ne e2]
      exact ha j l hj hl' hne q hq
/-- the identical substitution -/
def idL (n : Nat) : List (List Nd) := (List.range n).map fun v => (Fm.var v).enc
theorem idL_succ (n : Nat) : idL (n + 1) = idL n ++ [(Fm.var n).enc] := by simp [idL, List.range_succ]
theorem idL_len (n : Nat) : (idL n).length = n := by simp [idL]
theorem idL_tot (n : Nat) : tot (idL n) = n := by
  induction n with
  | zero => rfl
  | succ n ih => rw [idL_succ, tot_append, ih]; rfl
/-- an owned list of lists comes back -/
def RetL (w : World) (xs : List (List Nd)) (e : Ending) (w' : World) : Prop := ∃ v, e = .returned v ∧ OwnL w' w.heap.size v xs ∧ Keeps w w'
end Go.Proofs.YtgnlfceloiilbaaGreat
/- Lists of node lists whose rows were there before: the call's own header, rows that are shared. -/
namespace Go.Proofs.YtgnlfceloiilbaaGreat
open Go.RowKit
/-- values that read as lists of nodes -/
def RowsS (w : World) (vs : List Value) (xs : List (List Nd)) : Prop := vs.length = xs.length ∧ ∀ i (h1 : i < vs.length) (h2 : i < xs.length), Nds w vs[i] xs[i]
theorem RowsS.keeps {w w' : World} {vs : List Value} {xs : List (List Nd)} (h : RowsS w vs xs) (k : Keeps w w') : RowsS w' vs xs := ⟨h.1, fun i h1 h2 => (h.2 i h1 h2).keeps k⟩
theorem RowsS.nil (w : World) : RowsS w [] [] := ⟨rfl, fun i h => by simp at h⟩
theorem RowsS.one {w : World} {u : Value} {x : List Nd} (h : Nds w u x) : RowsS w [u] [x] := ⟨rfl, fun i h1 h2 => by
  obtain rfl : i = 0 := by simp at h1; omega
  exact h⟩
theorem RowsS.append {w : World} {vs us : List Value} {xs ys : List (List Nd)} (h : RowsS w vs xs) (k : RowsS w us ys) : RowsS w (vs ++ us) (xs ++ ys) :=
  ⟨by simp [h.1, k.1], fun i h1 h2 => by
    have hl := h.1
    by_cases hi : i < vs.length
    · rw [List.getElem_append_left hi, List.getElem_append_left (by omega)]; exact h.2 i hi (by omega)
    · rw [List.getElem_append_right (by omega), List.getElem_append_right (by omega)]
      simp at h1 h2
      have := k.2 (i - vs.length) (by omega) (by omega)
      simpa [hl] using this⟩
theorem RowsS.one' {w : World} {vs : List Value} {xs : List (List Nd)} (h : RowsS w vs xs) : ∀ u ∈ vs, u.oneCell' = true := by
  intro u hu
  obtain ⟨i, hi, rfl⟩ := List.getElem_of_mem hu
  obtain ⟨p, n, c, e⟩ := (h.2 i hi (by have := h.1; omega)).shape
  rw [e]; rfl
theorem NdsL.shapeL {w : World} {v : Value} {xs : List (List Nd)} (h : NdsL w v xs) : ∃ p n c, v = .slice p n c := by
  obtain ⟨p, c, e, _⟩ := h
  exact ⟨p, _, c, e⟩
/-- a list's values -/
theorem NdsL.vals {w : World} {p : Option Addr} {n cap : Nat} {xs : List (List Nd)} (h : NdsL w (.slice p n cap) xs) : ∃ vs, At w p vs ∧ RowsS w vs xs := by
  classical
  obtain ⟨p', cap', e, _, _, _, hel⟩ := h
  cases e
  have hex : ∀ i, i < xs.length → ∃ u, (∃ b off, p = some ⟨b, off, none⟩ ∧ w.cell? ⟨b, off + i, none⟩ = some u) ∧ ∀ h : i < xs.length, Nds w u xs[i] := fun i hi => by
    obtain ⟨b, off, f, hp, hc, hr⟩ := hel i hi
    exact ⟨f 0, ⟨b, off, hp, by simpa using hc 0 (by omega)⟩, fun _ => hr⟩
  refine ⟨(List.range xs.length).map fun i => if h : i < xs.length then Classical.choose (hex i h) else undef, fun j hj => ?_, by simp, fun i h1 h2 => ?_⟩
  · have hj' : j < xs.length := by simpa using hj
    obtain ⟨b, off, hp, hc⟩ := (Classical.choose_spec (hex j hj')).1
    refine ⟨b, off, hp, ?_⟩
    simp only [List.getElem_map, List.getElem_range, dif_pos hj']
    exact hc
  · simp only [List.getElem_map, List.getElem_range, dif_pos h2]
    exact (Classical.choose_spec (hex i h2)).2 h2
theorem ndsL_of {w : World} {p : Option Addr} {cap : Nat} {vs : List Value} {xs : List (List Nd)} (hat : At w p vs) (hr : RowsS w vs xs) (h1 : xs.length ≤ cap) (h2 : cap ≤ maxLen) (h3 : xs.length ≤ 2147483648) : NdsL w (.slice p xs.length cap) xs := by
  refine ⟨p, cap, rfl, h1, h2, h3, fun i hi => ?_⟩
  have hl := hr.1
  obtain ⟨b, off, hp, hc⟩ := hat i (by omega)
  refine ⟨b, off, fun _ => vs[i], hp, fun c hc' => ?_, hr.2 i (by omega) hi⟩
  obtain rfl : c = 0 := by omega
  simpa using hc
/-- the call's own header, over rows of the world w0 -/
def ShL (w0 w : World) (v : Value) (xs : List (List Nd)) : Prop := ∃ vs, w.ownsRow w0.heap.size 73 1 v xs.length vs ∧ RowsS w0 vs xs
theorem ShL.keeps {w0 w w' : World} {v : Value} {xs : List (List Nd)} (h : ShL w0 w v xs) (k : Keeps w w') : ShL w0 w' v xs := by
  obtain ⟨vs, ho, hr⟩ := h
  exact ⟨vs, own_keeps ho k, hr⟩
theorem ShL.ndsL {w0 w : World} {v : Value} {xs : List (List Nd)} (h : ShL w0 w v xs) (k : Keeps w0 w) (hl : xs.length ≤ 2147483648) : NdsL w v xs := by
  obtain ⟨vs, ho, hr⟩ := h
  obtain ⟨p, cap, rfl, h1, h2, hat⟩ := At.of_own ho
  exact ndsL_of hat (hr.keeps k) h1 h2 hl
theorem ShL.shape {w0 w : World} {v : Value} {xs : List (List Nd)} (h : ShL w0 w v xs) : ∃ p cap, v = .slice p xs.length cap := by
  obtain ⟨vs, ho, hr⟩ := h
  obtain ⟨p, cap, e, _⟩ := At.of_own ho
  exact ⟨p, cap, e⟩
theorem ShL.nil (w0 w : World) : ShL w0 w (.slice none 0 0) [] := ⟨[], World.ownsRow_nil w _ _ 1, RowsS.nil _⟩
theorem ShL.empty {w0 : World} (w : World) (h : w0.heap.size ≤ w.heap.size) : ShL w0 (w.alloc (.cells #[] 73)) (.slice (some ⟨w.heap.size, 0, none⟩) 0 0) [] :=
  ⟨[], World.ownsRow_made w #[] 0 h (by simp [maxLen]) (by simp), RowsS.nil _⟩
theorem ShL.emptyN {w0 : World} (w : World) {n : Nat} (hn : n = w.heap.size) (h : w0.heap.size ≤ w.heap.size) : ShL w0 (w.alloc (.cells #[] 73)) (.slice (some ⟨n, 0, none⟩) 0 0) [] := by
  subst hn; exact ShL.empty w h
theorem appShK {w : World} {o : Oper} {a : Act} {K : Act → World → Prop} {Q : Exit → Act → World → Prop} (s x : Operand)
    (ho : o.op = .call { callee := .builtin .append, args := #[s, x], argTypes := #[126, 126] }) (w0 : World) (v : Value) (xs : List (List Nd)) (hs : a.eval s = v)
    (hown : ShL w0 w v xs) (p : Option Addr) (m c : Nat) (us : List Value) (ys : List (List Nd)) (hx : a.eval x = .slice p m c) (hm : m = ys.length) (hat : At w p us) (hus : RowsS w0 us ys) (hbase : w0.heap.size ≤ w.heap.size) (hlen : xs.length + ys.length ≤ 2147483648)
    (h : ∀ v' w', ShL w0 w' v' (xs ++ ys) → w.grownBy w' v.ownBlock → (∀ k, v.ownBlock = some k → w0.heap.size ≤ k) → K (a.put o.dst v') w') : o.wp Tryz.prog a w K Q := by
  subst hm
  obtain ⟨i0, hi, hz0, hz1, hz2⟩ := info_parts infoL
  obtain ⟨vs, hrow, hr⟩ := hown
  refine wp_append_at s x _ ho _ i0 _ 1 24 Tryz.underlying126 hi hz0 hz1 hz2 rfl (by decide) w0.heap.size v _ _ hs hrow p ys.length c us hx (by simp [hus.1]) hat hus.one' (by unfold maxLen; omega) (by omega) hbase ?_
  intro v' w' h1 h2 h3
  exact h v' w' ⟨vs ++ us, by simpa using h1, hr.append hus⟩ h2 h3
theorem appSh {w : World} {ops : Array Oper} {rest : List Oper} {o : Oper} {a : Act} {Q : Exit → Act → World → Prop} (hgd : o.guard = none) (s x : Operand)
    (ho : o.op = .call { callee := .builtin .append, args := #[s, x], argTypes := #[126, 126] }) (w0 : World) (v : Value) (xs : List (List Nd)) (hs : a.eval s = v)
    (hown : ShL w0 w v xs) (p : Option Addr) (m c : Nat) (us : List Value) (ys : List (List Nd)) (hx : a.eval x = .slice p m c) (hm : m = ys.length) (hat : At w p us) (hus : RowsS w0 us ys) (hbase : w0.heap.size ≤ w.heap.size) (hlen : xs.length + ys.length ≤ 2147483648)
    (h : ∀ v' w', ShL w0 w' v' (xs ++ ys) → w.grownBy w' v.ownBlock → (∀ k, v.ownBlock = some k → w0.heap.size ≤ k) → wpList Tryz.prog ops Q rest (a.put o.dst v') w') : wpList Tryz.prog ops Q (o :: rest) a w :=
  wpList_plain hgd fun _ hK => appShK s x ho w0 v xs hs hown p m c us ys hx hm hat hus hbase hlen fun v' w' h1 h2 h3 => hK _ _ (h v' w' h1 h2 h3)
theorem stepSh {w : World} {ops : Array Oper} {o : Oper} {a : Act} {K : Act → World → Prop} {Q : Exit → Act → World → Prop} {E : Prop} (hgd : o.guard = none) (s x : Operand)
    (ho : o.op = .call { callee := .builtin .append, args := #[s, x], argTypes := #[126, 126] }) (w0 : World) (v : Value) (xs : List (List Nd)) (hs : a.eval s = v)
    (hown : ShL w0 w v xs) (p : Option Addr) (m c : Nat) (us : List Value) (ys : List (List Nd)) (hx : a.eval x = .slice p m c) (hm : m = ys.length) (hat : At w p us) (hus : RowsS w0 us ys) (hbase : w0.heap.size ≤ w.heap.size) (hlen : xs.length + ys.length ≤ 2147483648)
    (h : ∀ v' w', ShL w0 w' v' (xs ++ ys) → w.grownBy w' v.ownBlock → (∀ k, v.ownBlock = some k → w0.heap.size ≤ k) → K (a.put o.dst v') w') : if Region.wanted o (yielded ops a.tmps) = true then Oper.wp Tryz.prog o a w K Q else E := by
  rw [if_pos (by simp [Region.wanted, hgd])]
  exact appShK s x ho w0 v xs hs hown p m c us ys hx hm hat hus hbase hlen h
/-- parts of a row's cells -/
theorem At.take {w : World} {p : Option Addr} {vs : List Value} (h : At w p vs) (i : Nat) : At w p (vs.take i) := fun j hj => by
  have hj' : j < vs.length := by simp at hj; omega
  obtain ⟨b, off, hp, hc⟩ := h j hj'
  exact ⟨b, off, hp, by simpa using hc⟩
theorem RowsS.take {w : World} {vs : List Value} {xs : List (List Nd)} (h : RowsS w vs xs) (i : Nat) : RowsS w (vs.take i) (xs.take i) :=
  ⟨by simp [h.1], fun j h1 h2 => by
    simp at h1 h2
    simpa using h.2 j (by omega) (by omega)⟩
theorem RowsS.drop {w : World} {vs : List Value} {xs : List (List Nd)} (h : RowsS w vs xs) (i : Nat) : RowsS w (vs.drop i) (xs.drop i) :=
  ⟨by simp [h.1], fun j h1 h2 => by
    simp at h1 h2
    simpa using h.2 (i + j) (by omega) (by omega)⟩
theorem cell_newN {w : World} {n : Nat} {u : Value} {T : TypeId} (hn : n = w.heap.size) : (w.alloc (.cells #[u] T)).cell? ⟨n, 0, none⟩ = some u := by subst hn; simp
theorem cell_newN2 {w : World} {n : Nat} {u : Value} {T : TypeId} {o : Obj} (hn : n = w.heap.size) : ((w.alloc (.cells #[u] T)).alloc o).cell? ⟨n, 0, none⟩ = some u := by
  subst hn
  rw [World.cell?_alloc_lt (h := by simp)]
  simp
theorem grown_cellB {W w1 : World} {g n c b : Nat} {u : Value} (h : W.grownBy w1 (Value.slice (some ⟨g, 0, none⟩) n c).ownBlock) (hb : b ≠ g) (hc : W.cell? ⟨b, 0, none⟩ = some u) : w1.cell? ⟨b, 0, none⟩ = some u := by
  rw [((Touch.grown h).cell (World.block_lt_of_cell? _ _ hc) (fun e => hb (by simpa [Value.ownBlock] using e))).1]
  exact hc
theorem At.of1 {w : World} {b : Nat} {u : Value} (h : w.cell? ⟨b, 0, none⟩ = some u) : At w (some ⟨b, 0, none⟩) [u] := fun j hj => by
  obtain rfl : j = 0 := by simp at hj; omega
  exact ⟨b, 0, rfl, h⟩
end Go.Proofs.YtgnlfceloiilbaaGreat
/- Lists of formulas in the reference's decider: equality, membership, additions, what follows at once. -/
namespace Go.Proofs.YtgnlfceloiilbaaGreat
open Go.RowKit
/-- a list of formulas -/
def FsL (w : World) (v : Value) (G : List Fm) : Prop := NdsL w v (G.map Fm.enc)
/-- a list with more members, each once -/
def withL {α : Type} [DecidableEq α] (xs : List α) : List α → List α
  | [] => xs
  | y :: ys => if y ∈ xs then withL xs ys else withL (xs ++ [y]) ys
theorem withL_snoc {α : Type} [DecidableEq α] (ys : List α) : ∀ (xs : List α) (y : α), withL xs (ys ++ [y]) = if y ∈ withL xs ys then withL xs ys else withL xs ys ++ [y] := by
  induction ys with
  | nil => intro xs y; by_cases h : y ∈ xs <;> simp [withL, h]
  | cons z ys ih => intro xs y; simp only [List.cons_append, withL]; split <;> exact ih _ _
theorem mem_withL {α : Type} [DecidableEq α] (ys : List α) : ∀ (xs : List α) (z : α), z ∈ withL xs ys ↔ z ∈ ys ∨ z ∈ xs := by
  induction ys with
  | nil => intro xs z; simp [withL]
  | cons y ys ih =>
    intro xs z
    simp only [withL]
    split
    · rename_i h
      rw [ih, List.mem_cons]
      constructor
      · rintro (h1 | h1)
        · exact .inl (.inr h1)
        · exact .inr h1
      · rintro ((rfl | h1) | h1)
        · exact .inr h
        · exact .inl h1
        · exact .inr h1
    · rw [ih, List.mem_cons, List.mem_append, List.mem_singleton]
      constructor
      · rintro (h1 | h1 | h1)
        · exact .inl (.inr h1)
        · exact .inr h1
        · exact .inl (.inl h1)
      · rintro ((h1 | h1) | h1)
        · exact .inr (.inr h1)
        · exact .inl h1
        · exact .inr (.inl h1)
theorem withL_len {α : Type} [DecidableEq α] (ys : List α) : ∀ (xs : List α), (withL xs ys).length ≤ xs.length + ys.length := by
  induction ys with
  | nil => intro xs; simp [withL]
  | cons y ys ih =>
    intro xs; simp only [withL]; split
    · have := ih xs; simp only [List.length_cons]; omega
    · have := ih (xs ++ [y]); simp only [List.length_append, List.length_cons, List.length_nil] at *; omega
theorem wts_withL (ys : List Fm) : ∀ xs : List Fm, wts (withL xs ys) ≤ wts xs + wts ys := by
  induction ys with
  | nil => intro xs; simp [withL, wts]
  | cons y ys ih =>
    intro xs; simp only [withL]; split
    · have := ih xs; simp only [wts]; omega
    · have := ih (xs ++ [y]); rw [wts_append] at this; simp only [wts] at *; omega
theorem withL_enc (ys : List Fm) : ∀ xs : List Fm, withL (xs.map Fm.enc) (ys.map Fm.enc) = (withL xs ys).map Fm.enc := by
  induction ys with
  | nil => intro xs; rfl
  | cons y ys ih =>
    intro xs
    simp only [List.map_cons, withL, enc_mem]
    split
    · exact ih xs
    · have := ih (xs ++ [y]); rw [List.map_append] at this; exact this
--
set_option maxRecDepth 20000 in
set_option maxHeartbeats 1000000 in
theorem l02Equal_any (a b : List Nd) (va vb : Value) (w : World) (hva : Nds w va a) (hvb : Nds w vb b) :
    Calls Tryz.prog 340 #[va, vb] w fun e w' => e = .returned (.bool (decide (a = b))) ∧ Keeps w w' := by
  have hva0 := hva
  have hvb0 := hvb
  obtain ⟨pa, ca, rfl, hlea, hmxa, _, hlena⟩ := hva
  obtain ⟨pb, cb, rfl, hleb, hmxb, _, hlenb⟩ := hvb
  unfold maxLen at hmxa hmxb
  by_cases hl : a.length = b.length
  · have hl' : ((a.length : Int) != (b.length : Int)) = false := by simp [hl]
    have HL := hid hl; clear hl
    go_enter Tryz.func340, Tryz.ntmps340
    go_wp2
    go_loopw [4, 5] (fun r i' wr => ∃ k : Nat, k ≤ a.length ∧ a.take k = b.take k ∧ Keeps w wr ∧ i' = .int .i64 k ∧ r = .bool false) (fun _ i _ => a.length - (intOf i).toNat)
    case atStart => exact ⟨0, by omega, rfl, Keeps.refl w, rfl, rfl⟩
    case round =>
      obtain ⟨k, hk, htk, kw, rfl, rfl⟩ := hrel
      have HT := hid htk; clear htk
      clear hl'
      by_cases hlt : k < a.length
      · have hltb : k < b.length := by have := HL.out; omega
        obtain ⟨_, _, e1, _, _, hata, _⟩ := hva0.keeps kw.drew
        obtain ⟨_, _, e2, _, _, hatb, _⟩ := hvb0.keeps kw.drew
        cases e1; cases e2
        obtain ⟨b1, o1, rfl, h1, h2⟩ := hata.nd k hlt
        obtain ⟨b2, o2, rfl, h3, h4⟩ := hatb.nd k hltb
        clear hata hatb hva0 hvb0
        have hlt' : (k : Int) < a.length := by omega
        have hltb' : (k : Int) < b.length := by omega
        by_cases he : a[k] = b[k]
        · have hk2 : a[k].k = b[k].k := by rw [he]
          have hs2 : a[k].s = b[k].s := by rw [he]
          rw [hk2] at h1
          rw [hs2] at h2
          have HE := hid he; clear he hk2 hs2
          go_wp2_with fail
          go_region
          go_wp2
          go_roundw
          case rel => exact ⟨k + 1, by omega, by rw [List.take_succ_eq_append_getElem hlt, List.take_succ_eq_append_getElem hltb, HT.out, HE.out], kw.drew, by go_num, rfl⟩
          case measure => simp [intOf]; omega
        · have hne : decide (a = b) = false := by rw [decide_eq_false_iff_not]; rintro rfl; exact he rfl
          have HN := hid hne; clear hne
          have hks : ¬ (a[k].k = b[k].k ∧ a[k].s = b[k].s) := fun ⟨g1, g2⟩ => he (by cases hx : a[k]; cases hy : b[k]; simp [hx, hy] at g1 g2; simp [g1, g2])
          clear he
          generalize a[k].k = x1 at *
          generalize a[k].s = x2 at *
          generalize b[k].k = y1 at *
          generalize b[k].s = y2 at *
          by_cases hx : x1 = y1
          · have hx2 : ¬ x2 = y2 := fun e => hks ⟨hx, e⟩
            subst hx
            clear hks
            go_wp2_with fail
            go_region
            go_wp2
            go_ret
            exact ⟨ret_bool HN.out.symm, kw.drew⟩
          · clear hks
            go_wp2_with fail
            go_region
            go_wp2
            go_ret
            exact ⟨ret_bool HN.out.symm, kw.drew⟩
      · go_wp2
        go_ret
        refine ⟨ret_bool ?_, kw⟩
        symm; rw [decide_eq_true_eq]
        have h1 := HL.out; have h2 := HT.out
        rw [List.take_of_length_le (by omega), List.take_of_length_le (by omega)] at h2
        exact h2
  · have hl' : ((a.length : Int) != (b.length : Int)) = true := by simp; omega
    have HL := hid hl; clear hl
    go_enter Tryz.func340, Tryz.ntmps340
    go_wp2
    go_ret
    refine ⟨ret_bool ?_, Keeps.refl _⟩
    symm; rw [decide_eq_false_iff_not]
    rintro rfl; exact HL.out rfl
end Go.Proofs.YtgnlfceloiilbaaGreat
