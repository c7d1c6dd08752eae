/- Rules that no candidate breaks: the split rule of a negation, Visser's first rule. -/
import Derived.Test.YtpbbfoliabgkpaaGreatGD10
import Derived.Test.YtpbbfoliabgkpaaGreatGN2
namespace Go.Proofs.YtpbbfoliabgkpaaGreat
open Go.RowKit
theorem sg_imp (σ : List Fm) (a b : Fm) : sg σ (.imp a b) = .imp (sg σ a) (sg σ b) := rfl
theorem sg_or (σ : List Fm) (a b : Fm) : sg σ (.or a b) = .or (sg σ a) (sg σ b) := rfl
theorem brk_false {G : List Fm} {t : Fm} (h : (∀ a ∈ G, Sq [] a) → Sq [] t) : brk G t = false := by
  unfold brk
  cases hb : sqB [] t with
  | true => simp
  | false =>
    have : (G.all fun a => sqB [] a) = false := by
      rw [Bool.eq_false_iff]
      intro hall
      have := h (fun a ha => sqB_iff.1 (List.all_eq_true.1 hall a ha))
      rw [sqB_true this] at hb
      cases hb
    rw [this]; rfl
/-- the split rule of a negation is not broken -/
theorem split_brk (t : Fm) (σ : List Fm) : brk ([Fm.imp (.not t) (.or (.var 4) (.var 5))].map (sg σ)) (sg σ (.or (.imp (.not t) (.var 4)) (.imp (.not t) (.var 5)))) = false := by
  refine brk_false fun h => ?_
  have h1 := h _ (List.mem_map.2 ⟨_, List.mem_singleton.2 rfl, rfl⟩)
  rw [sg_imp, sg_or] at h1
  rw [sg_or, sg_imp, sg_imp]
  exact split_rule (a := sg σ (.not t)) trivial h1
theorem map_one {G : List Fm} {t : Fm} (h : [t.enc] = G.map Fm.enc) : G = [t] := by
  cases G with
  | nil => simp at h
  | cons u G =>
    cases G with
    | nil => simp at h; rw [enc_inj h]
    | cons x G => simp at h
/-- no candidates break the split rule of a negation -/
theorem split_find (b : List Nd) (cs : List (List Nd)) (hcl : cs.length ≤ 1000) (h4 : notE b = 0) (h6 : splE (notR b) = 0) : ∃ r k, k ≠ 0 ∧ r.length ≤ 1000 ∧ tot r ≤ 1000 ∧ ListRL 24 23 (splP (notR b)) (splC (notR b)) cs r k := by
  obtain ⟨r, k, h1, h2, h3, hk⟩ := findRBoth (splP (notR b)) (splC (notR b)) cs (by omega)
  refine ⟨r, k, fun h0 => ?_, h1, h2, h3⟩
  obtain ⟨G, u, σ, e1, e2, _, _, _, hok⟩ := hk h0
  have hf : isFm b = true := by
    unfold notE at h4
    cases h : isFm b with
    | true => rfl
    | false => rw [h] at h4; simp at h4
  obtain ⟨t, hw, rfl, hl⟩ := isFm_tree hf
  have hr : notR t.enc = (Fm.not t).enc := by
    unfold notE at h4
    unfold notR
    rw [hf] at h4 ⊢
    simp only [if_true, madeL] at h4 ⊢
    split at h4
    · rw [if_pos (by assumption)]; rfl
    · simp at h4
  rw [hr] at e1 e2 h6
  unfold splP at e1
  unfold splC at e2
  rw [if_pos h6] at e1 e2
  have p1 : spP (Fm.not t).enc = (Fm.imp (.not t) (.or (.var 4) (.var 5))).enc := rfl
  have c1 : spC (Fm.not t).enc = (Fm.or (.imp (.not t) (.var 4)) (.imp (.not t) (.var 5))).enc := rfl
  rw [p1] at e1
  rw [c1] at e2
  obtain rfl := map_one e1
  obtain rfl := enc_inj e2
  unfold okB at hok
  rw [split_brk, Bool.and_false] at hok
  cases hok
/-- Visser's first rule is not broken -/
theorem visser_brk (σ : List Fm) : brk ([Vr.p1].map (sg σ)) (sg σ Vr.c1) = false := by
  refine brk_false fun h => ?_
  have h1 := h _ (List.mem_map.2 ⟨_, List.mem_singleton.2 rfl, rfl⟩)
  exact visser_rule h1
/-- what BreaksRule answers of Visser's first rule -/
theorem visser_breaks (σ : List Fm) (hs : Sm σ) : ∃ bk six, BothRL 17 16 (visP 1) (visC 1) (σ.map Fm.enc) bk six ∧ (six = 3 ∨ (six = 0 ∧ bk = false)) := by
  have hp : visP 1 = [Vr.p1.enc] := rfl
  have hc : visC 1 = Vr.c1.enc := rfl
  have hp1 : OkF Vr.p1 := ⟨vis_wf.1, rfl⟩
  have hc1 : OkF Vr.c1 := ⟨vis_wf.2.1, rfl⟩
  have hre : ruleErr (visP 1) (visC 1) = 0 := by
    rw [hp, hc]
    unfold ruleErr
    rw [if_neg (by simp)]
    exact fms_err (G := [Vr.p1, Vr.c1]) (fun x hx => by simp at hx; rcases hx with rfl | rfl; exact hp1; exact hc1) (fun x hx => by simp at hx; rcases hx with rfl | rfl <;> decide)
  have h := breaks_ok (visP 1) (visC 1) (σ.map Fm.enc) (by rw [hre]; exact img_ok hs.1 hs.2.1 hs.2.2) [sg σ Vr.p1] (sg σ Vr.c1) (fun x hx => by rw [List.mem_singleton.1 hx]; exact sg_ok hs.2.1 _ hp1) (sg_ok hs.2.1 _ hc1) (by rw [hp]; simp [sub_sg σ hs.1 _ hp1]) (by rw [hc]; exact sub_sg σ hs.1 _ hc1)
  refine ⟨_, _, h, ?_⟩
  by_cases hany : (([sg σ Vr.p1] ++ [sg σ Vr.c1]).any fun a => decide (20 < a.enc.length)) = true
  · rw [if_pos hany]; exact .inl rfl
  · rw [if_neg hany, if_neg hany]
    exact .inr ⟨rfl, visser_brk σ⟩
end Go.Proofs.YtpbbfoliabgkpaaGreat
/- Draws of rules and of substitutions. -/
namespace Go.Proofs.YtpbbfoliabgkpaaGreat
open Go.RowKit
theorem OwnL.storeT {w0 w : World} {B B0 : Nat} {v u : Value} {xs : List (List Nd)} {x : List Nd} (h : OwnL w0 B v xs) (k : Touch w0 w (fun i => i = B0)) (hB0 : B0 < B) (hu : OwnN w w0.heap.size u x) (hB : B ≤ w0.heap.size) (i : Nat) (hi : i < xs.length) :
    ∃ g cap c, v = .slice (some ⟨g, 0, none⟩) xs.length cap ∧ B ≤ g ∧ g < w0.heap.size ∧ w.cell? ⟨g, i, none⟩ = some c ∧ w.frozen? ⟨g, i, none⟩ = false ∧ OwnL (w.setCell ⟨g, i, none⟩ u) B v (xs.set i x) ∧ w.grownBy (w.setCell ⟨g, i, none⟩ u) (some g) := by
  obtain ⟨vs, ho0, hr0, ha, _⟩ := h
  have hl := hr0.1
  obtain ⟨g, cap, e, hBg, hgl⟩ : ∃ g cap, v = .slice (some ⟨g, 0, none⟩) xs.length cap ∧ B ≤ g ∧ g < w0.heap.size := by
    rcases ho0.2 with ⟨_, h0⟩ | ⟨g, cap, cur, e, hb, hg, _⟩
    · omega
    · exact ⟨g, cap, e, hb, (Array.getElem?_eq_some_iff.1 hg).1⟩
  have ho := own_touch ho0 k (fun i e h => by have := (World.ownsRow.lt ho0 i e).1; omega)
  have hr := hr0.touch k (fun i hi e => by have := (hr0.lt hi).1; omega)
  subst e
  have hst := ho.stored i u
  have hoff := off_rows ho hr
  have hlu := hu.len
  refine ⟨g, cap, vs[i]'(by omega), rfl, hBg, hgl, ?_, ho.frozenAt i, ?_, hst.2⟩
  · rw [ho.cellAt i (by omega)]; simp [show i < vs.length by omega]
  have hr' : RowsN (w.setCell ⟨g, i, none⟩ u) B vs xs := hr.touch (Touch.grown hst.2) (fun j hb e => hoff.not_blk (k := j) (by cases e; rfl) hb)
  have hu' : OwnN (w.setCell ⟨g, i, none⟩ u) B u x := (hu.touch (Touch.grown hst.2) (fun j hj e => type_ne ho hu tyne (k := j) (by cases e; rfl) hj)).mono hB
  have hrows : RowsN (w.setCell ⟨g, i, none⟩ u) B (vs.set i u) (xs.set i x) := ⟨by simp [hl], fun j h1 h2 => by
    by_cases e : i = j
    · subst e; simpa using hu'
    · rw [List.getElem_set_ne e, List.getElem_set_ne e]
      exact hr'.2 j (by simpa using h1) (by simpa using h2)⟩
  refine ⟨vs.set i u, by rw [List.length_set]; exact hst.1, hrows, ?_, off_rows hst.1 hrows⟩
  intro j l hj hl' hne q hq
  simp at hj hl'
  by_cases e1 : i = j
  · subst e1
    rw [List.getElem_set_ne hne]
    simp only [List.getElem_set_self] at hq
    intro e
    have := (hlu q hq).1
    have := (hr0.lt ⟨l, hl', e⟩).2
    omega
  · rw [List.getElem_set_ne e1] at hq
    by_cases e2 : i = l
    · subst e2
      simp only [List.getElem_set_self]
      intro e
      have := (hlu q e).1
      have := (hr0.lt ⟨j, hj, hq⟩).2
      omega
    · rw [List.getElem_set_ne e2]
      exact ha j l hj hl' hne q hq
/-- an append within a drawn region, of a row that was made while a source was drawn from -/
theorem stepLT {w : World} {ops : Array Oper} {o : Oper} {a : Act} {K : Act → World → Prop} {Q : Exit → Act → World → Prop} {E : Prop} (hgd : o.guard = none) (s x : Operand)
    (ho : o.op = .call { callee := .builtin .append, args := #[s, x], argTypes := #[35, 35] }) (base : Nat) (v : Value) (xs : List (List Nd)) (hs : a.eval s = v)
    (w0 : World) (B0 : Nat) (hown : OwnL w0 base v xs) (k : Touch w0 w (fun i => i = B0)) (hB0 : B0 < base) (u : Value) (y : List Nd) (hu : OwnN w w0.heap.size u y) (hbase : base ≤ w0.heap.size)
    (p : Option Addr) (c : Nat) (hx : a.eval x = .slice p 1 c) (hat : At w p [u]) (hlen : xs.length ≤ 2147483648)
    (h : ∀ v' w', OwnL w' base v' (xs ++ [y]) → w.grownBy w' v.ownBlock → (∀ k, v.ownBlock = some k → base ≤ k) → K (a.put o.dst v') w') : if Region.wanted o (yielded ops a.tmps) = true then Oper.wp Tryz.prog o a w K Q else E := by
  rw [if_pos (by simp [Region.wanted, hgd])]
  obtain ⟨i0, hi, hz0, hz1, hz2⟩ := info_parts infoL
  obtain ⟨vs, hrow, hr, ha, hf⟩ := hown
  have hone : ∀ z ∈ [u], z.oneCell' = true := by
    intro z hz
    simp at hz; subst hz
    obtain ⟨p, c, e, _⟩ := At.of_own hu
    rw [e]; rfl
  have hrow' := own_touch hrow k (fun i e h => by have := (World.ownsRow.lt hrow i e).1; omega)
  refine wp_append_at s x _ ho _ i0 _ 1 24 Tryz.underlying35 hi hz0 hz1 hz2 rfl (by decide) base v _ _ hs hrow' p 1 c [u] hx (by simp) hat hone (by unfold maxLen; omega) (by omega) (by have := k.size; omega) ?_
  intro v' w' h1 h2 h3
  exact h v' w' (OwnL.snocT hr ha hrow' k hB0 hu hbase h1 h2) h2 h3
/-- a box with a rule's two parts -/
def BoxR (w : World) (R : Nat) (p u : Value) : Prop := w.ownsRow R 37 2 (.slice (some ⟨R, 0, none⟩) 1 1) 1 [p, u]
section
variable {w w' : World} {R B : Nat} {p u v : Value} {xs : List (List Nd)}
theorem BoxR.cell0 (h : BoxR w R p u) : w.cell? ⟨R, 0, none⟩ = some p := by rw [World.ownsRow.cellAt h 0 (by omega)]; rfl
theorem BoxR.cell1 (h : BoxR w R p u) : w.cell? ⟨R, 1, none⟩ = some u := by rw [World.ownsRow.cellAt h 1 (by omega)]; rfl
theorem BoxR.froz0 (h : BoxR w R p u) : w.frozen? ⟨R, 0, none⟩ = false := World.ownsRow.frozenAt h 0
theorem BoxR.froz1 (h : BoxR w R p u) : w.frozen? ⟨R, 1, none⟩ = false := World.ownsRow.frozenAt h 1
theorem BoxR.lt (h : BoxR w R p u) : R < w.heap.size := (World.ownsRow.lt h R rfl).2
theorem BoxR.set0 (h : BoxR w R p u) (x : Value) : BoxR (w.setCell ⟨R, 0, none⟩ x) R x u := (World.ownsRow.stored h 0 x).1
theorem BoxR.set1 (h : BoxR w R p u) (x : Value) : BoxR (w.setCell ⟨R, 1, none⟩ x) R p x := (World.ownsRow.stored h 1 x).1
theorem BoxR.grown0 (h : BoxR w R p u) (x : Value) : w.grownBy (w.setCell ⟨R, 0, none⟩ x) (some R) := (World.ownsRow.stored h 0 x).2
theorem BoxR.grown1 (h : BoxR w R p u) (x : Value) : w.grownBy (w.setCell ⟨R, 1, none⟩ x) (some R) := (World.ownsRow.stored h 1 x).2
theorem BoxR.dr (h : BoxR w R p u) (k : Dr B w w') (hB : B < R) : BoxR w' R p u := own_touch h k.1 (fun i e hi => by simp [Value.ownBlock] at e; omega)
theorem BoxR.drN (h : BoxR w R p u) (k : Dr B w w') (hB : B ≠ R) : BoxR w' R p u := own_touch h k.1 (fun i e hi => by simp [Value.ownBlock] at e; omega)
theorem BoxR.keeps (h : BoxR w R p u) (k : Keeps w w') : BoxR w' R p u := own_keeps h k
theorem tyR1 : (37 : TypeId) ≠ 24 := by decide
theorem tyR2 : (37 : TypeId) ≠ 55 := by decide
theorem BoxR.grownL (h : BoxR w R p u) (hl : OwnL w B v xs) (k : w.grownBy w' v.ownBlock) : BoxR w' R p u := by
  obtain ⟨vs, ho, _⟩ := hl
  exact own_touch h (Touch.grown k) (fun i e hi => type_ne h ho tyR1 e hi.symm)
theorem BoxR.offN {x : List Nd} (h : BoxR w R p u) (hl : OwnN w B v x) : v.ownBlock ≠ some R := type_ne h hl tyR2 rfl
theorem OwnL.boxed (hl : OwnL w B v xs) (h : BoxR w R p u) (k : w.grownBy w' (some R)) : OwnL w' B v xs := by
  obtain ⟨vs, ho, hr, ha, hf⟩ := hl
  have ho' := own_touch ho (Touch.grown k) (fun i e hi => by cases hi; exact type_ne h ho tyR1 rfl e)
  have hr' := hr.touch (Touch.grown k) (fun i hb hi => by
    obtain ⟨j, hj, e⟩ := hb
    cases hi
    exact h.offN (hr.2 j hj (by have := hr.1; omega)) e)
  exact ⟨vs, ho', hr', ha, off_rows ho' hr'⟩
end
/-- a list of lists is drawn, that may be shared -/
def DrawNL (B m t : Nat) (w : World) (e : Ending) (w' : World) : Prop := ∃ v, ∃ l : List (List Nd), e = .returned v ∧ (∃ o, ∃ l0 : List (List Nd), OwnL w' w.heap.size o l0 ∧ ∀ w2, OwnL w2 w.heap.size o l0 → NdsL w2 v l) ∧ l.length ≤ m ∧ tot l ≤ t ∧ Dr B w w'
end Go.Proofs.YtpbbfoliabgkpaaGreat
