/- Plain mathematics: Visser's first rule is admissible; a rule that splits a disjunction behind a Harrop formula is; what a projective formula proves. No program in sight. -/
import Derived.Test.YtpbbfoliabgkpaaGreatGPH
import Derived.Test.YtpbbfoliabgkpaaGreatGV6
import Derived.Test.YtpbbfoliabgkpaaGreatGV5
import Derived.Test.YtpbbfoliabgkpaaGreatGK1
import Derived.Test.YtpbbfoliabgkpaaGreatGL5
namespace Go.Proofs.YtpbbfoliabgkpaaGreat
open Fm
section
variable {a b c d : Fm}
theorem root_imp (hb : ¬ Sq [imp a b] a) : (root (imp a b)).forces none (imp a b) := by
  intro u hu hx
  cases u with
  | none => exact ((cm_spec (imp a b) ⟨a, hb⟩).2 ((glue_some _ _ _ _ a _ _).1 ((root (imp a b)).up a _ _ (root_below (imp a b) ⟨a, hb⟩) hx))).elim
  | some u =>
    obtain ⟨i, u⟩ := u
    have h1 := sq_mem (G := [imp a b]) (c := imp a b) (by simp) (cmM (imp a b) i) (cmW (imp a b) i) (fun y hy => by rw [List.mem_singleton.1 hy]; exact (cm_spec (imp a b) i).1)
    exact (glue_some _ _ _ _ b i u).2 (h1 u hu ((glue_some _ _ _ _ a i u).1 hx))
/-- behind an implication a provable disjunction has a provable part, or the implication's left side is provable -/
theorem visser_or (h : Sq [imp a b] (or c d)) : Sq [imp a b] a ∨ Sq [imp a b] c ∨ Sq [imp a b] d := by
  refine Classical.byContradiction fun hn => ?_
  have ha : ¬ Sq [imp a b] a := fun h => hn (.inl h)
  have hc : ¬ Sq [imp a b] c := fun h => hn (.inr (.inl h))
  have hd : ¬ Sq [imp a b] d := fun h => hn (.inr (.inr h))
  rcases h (root (imp a b)) none (fun y hy => by rw [List.mem_singleton.1 hy]; exact root_imp ha) with hx | hx
  · exact (cm_spec (imp a b) ⟨c, hc⟩).2 ((glue_some _ _ _ _ c _ _).1 ((root (imp a b)).up c _ _ (root_below (imp a b) ⟨c, hc⟩) hx))
  · exact (cm_spec (imp a b) ⟨d, hd⟩).2 ((glue_some _ _ _ _ d _ _).1 ((root (imp a b)).up d _ _ (root_below (imp a b) ⟨d, hd⟩) hx))
theorem sq_orl (h : Sq [] b) : Sq [] (or b c) := fun M w hw => .inl (h M w hw)
theorem sq_orr (h : Sq [] c) : Sq [] (or b c) := fun M w hw => .inr (h M w hw)
/-- Visser's first rule -/
theorem visser_rule (h : Sq [] (imp (imp a b) (or c d))) : Sq [] (or (or (imp (imp a b) a) (imp (imp a b) c)) (imp (imp a b) d)) := by
  rcases visser_or (sq_imp.1 h) with h | h | h
  · exact sq_orl (sq_orl (sq_imp.2 h))
  · exact sq_orl (sq_orr (sq_imp.2 h))
  · exact sq_orr (sq_imp.2 h)
/-- the split rule of a Harrop formula -/
theorem split_rule (ha : HarropF a) (h : Sq [] (imp a (or c d))) : Sq [] (or (imp a c) (imp a d)) := by
  rcases harrop_or ha (sq_imp.1 h) with h | h
  · exact sq_orl (sq_imp.2 h)
  · exact sq_orr (sq_imp.2 h)
end
/-- variables and the absurd alone change by substitutions -/
theorem subF_not (f : Nat → Fm) (a : Fm) : subF f (imp a fls) = imp (subF f a) fls := rfl
end Go.Proofs.YtpbbfoliabgkpaaGreat
/- FindUnifier and FindBreaking: what is asked of a substitution; the program's closures; candidateCode. -/
namespace Go.Proofs.YtpbbfoliabgkpaaGreat
open Go.RowKit
/-- the image of a formula -/
def sg (σ : List Fm) (t : Fm) : Fm := subF (fun i => σ.getD i .fls) t
theorem sub_sg (σ : List Fm) (h6 : σ.length = 6) : ∀ t : Fm, OkF t → sub (σ.map Fm.enc) t.enc = (sg σ t).enc := by
  intro t
  induction t with
  | var i =>
    intro ht
    have hi : i < σ.length := by have : i < 6 := ht.1; omega
    simp [Fm.enc, sub, subN, sg, subF, List.getD_eq_getElem?_getD, hi]
  | fls => intro _; rfl
  | and x y hx hy =>
    intro ht
    have h1 := hx (OkF.and ht).1
    have h2 := hy (OkF.and ht).2
    simp only [sg] at h1 h2
    simp [Fm.enc, sub, subN, sub_append, h1, h2, sg, subF]
  | or x y hx hy =>
    intro ht
    have h1 := hx (OkF.or ht).1
    have h2 := hy (OkF.or ht).2
    simp only [sg] at h1 h2
    simp [Fm.enc, sub, subN, sub_append, h1, h2, sg, subF]
  | imp x y hx hy =>
    intro ht
    have h1 := hx (OkF.imp ht).1
    have h2 := hy (OkF.imp ht).2
    simp only [sg] at h1 h2
    simp [Fm.enc, sub, subN, sub_append, h1, h2, sg, subF]
  | box x _ => intro ht; exact absurd ht.2 (by simp [Fm.plain])
  | dia x _ => intro ht; exact absurd ht.2 (by simp [Fm.plain])
theorem sg_ok {σ : List Fm} (hσ : OkL σ) : ∀ t : Fm, OkF t → OkF (sg σ t) := by
  intro t
  induction t with
  | var i =>
    intro ht
    unfold sg subF
    rw [List.getD_eq_getElem?_getD]
    by_cases hi : i < σ.length
    · simp only [List.getElem?_eq_getElem hi, Option.getD_some]; exact hσ _ (List.getElem_mem hi)
    · simp only [List.getElem?_eq_none (Nat.le_of_not_lt hi), Option.getD_none]; exact okF_fls
  | fls => intro ht; exact ht
  | and x y hx hy =>
    intro ht
    have h1 := hx (OkF.and ht).1
    have h2 := hy (OkF.and ht).2
    exact ⟨⟨h1.1, h2.1⟩, by simp [sg, subF, Fm.plain]; exact ⟨h1.2, h2.2⟩⟩
  | or x y hx hy =>
    intro ht
    have h1 := hx (OkF.or ht).1
    have h2 := hy (OkF.or ht).2
    exact ⟨⟨h1.1, h2.1⟩, by simp [sg, subF, Fm.plain]; exact ⟨h1.2, h2.2⟩⟩
  | imp x y hx hy =>
    intro ht
    have h1 := hx (OkF.imp ht).1
    have h2 := hy (OkF.imp ht).2
    exact ⟨⟨h1.1, h2.1⟩, by simp [sg, subF, Fm.plain]; exact ⟨h1.2, h2.2⟩⟩
  | box x _ => intro ht; exact absurd ht.2 (by simp [Fm.plain])
  | dia x _ => intro ht; exact absurd ht.2 (by simp [Fm.plain])
/-- a substitution unifies a formula, and its image is small -/
noncomputable def okU (t : Fm) (σ : List Fm) : Bool := decide ((sg σ t).enc.length ≤ 20) && sqB [] (sg σ t)
/-- a substitution breaks a rule, and all images are small -/
noncomputable def okB (G : List Fm) (t : Fm) (σ : List Fm) : Bool := ((G ++ [t]).all fun a => decide ((sg σ a).enc.length ≤ 20)) && brk (G.map (sg σ)) (sg σ t)
/-- substitutions of small formulas -/
def Sm (σ : List Fm) : Prop := σ.length = 6 ∧ OkL σ ∧ ∀ x ∈ σ, x.enc.length ≤ 40
theorem Sm.of {σ cs : List Fm} (h6 : σ.length = 6) (hc : OkL cs) (h40 : ∀ c ∈ cs, c.enc.length ≤ 40) (hm : ∀ x ∈ σ, x ∈ idF ∨ x ∈ cs) : Sm σ :=
  ⟨h6, fun x hx => (hm x hx).elim (idF_ok x) (hc x), fun x hx => (hm x hx).elim (fun h => by simp [idF] at h; rcases h with rfl | rfl | rfl | rfl | rfl | rfl <;> simp [Fm.enc]) (h40 x)⟩
theorem Sm.len {σ : List Fm} (h : Sm σ) {t : Fm} (ht : OkF t) : (sg σ t).enc.length ≤ 40 * t.enc.length := by
  rw [← sub_sg σ h.1 t ht]
  refine sub_len (fun x hx => ?_) (by omega) _
  obtain ⟨y, hy, rfl⟩ := List.mem_map.1 hx
  exact h.2.2 y hy
--
set_option maxRecDepth 20000 in
set_option maxHeartbeats 1000000 in
theorem findU_1_any (t : Fm) (ht : OkF t) (hl : t.enc.length ≤ 40) (σ : List Fm) (hs : Sm σ) (va v : Value) (b : Nat) (w : World) (hb : w.cell? ⟨b, 0, none⟩ = some va) (hva : Nds w va t.enc) (hv : NdsL w v (σ.map Fm.enc)) :
    Calls Tryz.prog 121 #[v, .pointer (some ⟨b, 0, none⟩)] w fun e w' => e = .returned (.bool (okU t σ)) ∧ Keeps w w' := by
  have hsl := hs.len ht
  have hnd : t.enc.all okNd = true := List.all_eq_true.2 (okNd_enc ht.1)
  have hX := substitute_any (σ.map Fm.enc) t.enc va v w hva hv hnd (by simp [hs.1]) (by rw [sub_sg σ hs.1 t ht]; omega)
  rw [sub_sg σ hs.1 t ht] at hX
  have hok := sg_ok hs.2.1 t ht
  unfold okU
  generalize sg σ t = u at *
  have HX := hid hX; clear hX
  obtain ⟨p, n, cap, rfl⟩ := hva.shape
  obtain ⟨p1, n1, c1, rfl⟩ := NdsL.shapeL hv
  have hsm : (!([u.enc].any fun x => decide (20 < x.length))) = decide (u.enc.length ≤ 20) := by rw [Bool.eq_iff_iff]; simp
  have HS := hid (fun v w2 (hv : Nds w2 v u.enc) => haveSmall_any [u.enc] _ (w2.alloc (.cells #[v] 24)) (NdsL.lit1 hv))
  rw [hsm] at HS
  clear hsm hv hva hs hnd
  by_cases hbig : u.enc.length ≤ 20
  · rw [decide_eq_true hbig] at HS ⊢
    rw [Bool.true_and]
    have HT := hid (fun v w2 (hv : Nds w2 v u.enc) => isTheorem_any u hok hbig v w2 hv)
    go_enter Tryz.func121, Tryz.ntmps121
    go_wp2_with fail
    refine HX.out.mono ?_; rintro e w2 ⟨v2, rfl, hv2, k2⟩
    have hn2 := hv2.nds (by omega)
    obtain ⟨p4, n4, c4, rfl⟩ := hn2.shape
    have kl := (Keeps.refl w2).alloc (.cells #[.slice p4 n4 c4] 24)
    go_wp2_with fail
    refine (HS.out _ w2 hn2).mono ?_; rintro e w3 ⟨rfl, k3⟩
    go_wp2_with fail
    refine (HT.out _ w3 (hn2.keeps (kl.trans k3))).mono ?_; rintro e w4 ⟨rfl, k4⟩
    go_wp2_with fail
    go_ret
    exact ⟨rfl, (k2.trans (kl.trans k3)).trans k4⟩
  · rw [decide_eq_false hbig] at HS ⊢
    rw [Bool.false_and]
    go_enter Tryz.func121, Tryz.ntmps121
    go_wp2_with fail
    refine HX.out.mono ?_; rintro e w2 ⟨v2, rfl, hv2, k2⟩
    have hn2 := hv2.nds (by omega)
    obtain ⟨p4, n4, c4, rfl⟩ := hn2.shape
    have kl := (Keeps.refl w2).alloc (.cells #[.slice p4 n4 c4] 24)
    go_wp2_with fail
    refine (HS.out _ w2 hn2).mono ?_; rintro e w3 ⟨rfl, k3⟩
    go_wp2_with fail
    go_ret
    exact ⟨rfl, k2.trans (kl.trans k3)⟩
theorem enters_findU : Enters 121 := fun _ _ => by kernel_rfl
--
set_option maxRecDepth 20000 in
set_option maxHeartbeats 2000000 in
theorem findB_1_any (G : List Fm) (t : Fm) (hG : OkL (G ++ [t])) (hl : ∀ a ∈ G ++ [t], a.enc.length ≤ 40) (h6 : G.length ≤ 6) (σ : List Fm) (hs : Sm σ) (va vb v : Value) (b : Nat) (w : World)
    (hb : w.cell? ⟨b, 0, none⟩ = some va) (hb2 : w.cell? ⟨b, 1, none⟩ = some vb) (hva : FsL w va G) (hvb : Nds w vb t.enc) (hv : NdsL w v (σ.map Fm.enc)) :
    Calls Tryz.prog 102 #[v, .pointer (some ⟨b, 0, none⟩)] w fun e w' => e = .returned (.bool (okB G t σ)) ∧ Keeps w w' := by
  have hsl : ∀ a ∈ G ++ [t], (sg σ a).enc.length ≤ 1600 := fun a ha => by have := hs.len (hG a ha); have := hl a ha; omega
  have hGs : (G.map Fm.enc).map (sub (σ.map Fm.enc)) = (G.map (sg σ)).map Fm.enc := by
    rw [List.map_map, List.map_map]
    exact List.map_congr_left fun a ha => sub_sg σ hs.1 a (hG a (by simp [ha]))
  have hts := sub_sg σ hs.1 t (hG t (by simp))
  have hX := imageOf_any (G.map Fm.enc) t.enc (σ.map Fm.enc) va vb v w hva hvb hv (fun a ha => by
    have ha2 : a ∈ (G ++ [t]).map Fm.enc := by simpa using ha
    obtain ⟨x, hx, rfl⟩ := List.mem_map.1 ha2
    exact List.all_eq_true.2 (okNd_enc (hG x hx).1)) (by simp [hs.1]) (fun a ha => by
    have ha2 : a ∈ (G ++ [t]).map Fm.enc := by simpa using ha
    obtain ⟨x, hx, rfl⟩ := List.mem_map.1 ha2
    rw [sub_sg σ hs.1 x (hG x hx)]
    have := hsl x hx; omega) (by simp; omega)
  rw [hGs, hts] at hX
  have HX := hid hX
  have hok : OkL (G.map (sg σ)) := fun x hx => by
    obtain ⟨y, hy, rfl⟩ := List.mem_map.1 hx
    exact sg_ok hs.2.1 y (hG y (by simp [hy]))
  have hokt := sg_ok hs.2.1 t (hG t (by simp))
  have hlen : (G.map (sg σ)).length ≤ 6 := by simpa using h6
  have hsl2 : ∀ a ∈ G.map (sg σ) ++ [sg σ t], a.enc.length ≤ 1600 := fun a ha => by
    have ha2 : a ∈ (G ++ [t]).map (sg σ) := by simpa using ha
    obtain ⟨x, hx, rfl⟩ := List.mem_map.1 ha2
    exact hsl x hx
  have hokb : okB G t σ = (((G.map (sg σ) ++ [sg σ t]).all fun a => decide (a.enc.length ≤ 20)) && brk (G.map (sg σ)) (sg σ t)) := by
    unfold okB
    congr 1
    rw [show G.map (sg σ) ++ [sg σ t] = (G ++ [t]).map (sg σ) by simp, List.all_map]; rfl
  rw [hokb]
  obtain ⟨p, n, cap, rfl⟩ := NdsL.shapeL hva
  obtain ⟨pb, nb, capb, rfl⟩ := hvb.shape
  obtain ⟨p1, n1, c1, rfl⟩ := NdsL.shapeL hv
  clear hX hokb hts hGs hsl hva hvb hv hs hl hG h6
  generalize G.map (sg σ) = H at *
  generalize sg σ t = u at *
  have htG : tot (H.map Fm.enc) ≤ 1600 * (H.map Fm.enc).length := tot_most _ 1600 (fun x hx => by obtain ⟨a, ha, rfl⟩ := List.mem_map.1 hx; exact hsl2 a (List.mem_append.2 (.inl ha)))
  have htG2 : tot (H.map Fm.enc) ≤ 2147483648 ∧ (H.map Fm.enc).length ≤ 2147483648 := by simp at htG ⊢; omega
  have htl := hsl2 u (by simp)
  have HF := hid (fun v x w2 (h1 : NdsL w2 v (H.map Fm.enc)) (h2 : Nds w2 x u.enc) => formulas_any (H.map Fm.enc) u.enc v x w2 h1 h2 (by simp; omega))
  have hS := fun v w2 (h : NdsL w2 v ((H ++ [u]).map Fm.enc)) => haveSmall_any _ v w2 h
  have hany : (!(((H ++ [u]).map Fm.enc).any fun x => decide (20 < x.length))) = ((H ++ [u]).all fun a => decide (a.enc.length ≤ 20)) := by
    rw [Bool.eq_iff_iff]
    simp
  rw [hany] at hS
  have hmap : (H ++ [u]).map Fm.enc = H.map Fm.enc ++ [u.enc] := by simp
  rw [hmap] at hS
  clear hany hmap
  cases hbig : ((H ++ [u]).all fun a => decide (a.enc.length ≤ 20)) with
  | false =>
    rw [hbig] at hS
    have HS := hid hS
    rw [Bool.false_and]
    clear hbig hS
    go_enter Tryz.func102, Tryz.ntmps102
    go_wp2_with fail
    refine HX.out.mono ?_; rintro e w4 ⟨v4, u4, rfl, hR, k4⟩
    have hL4 := hR.ndsL htG2.2 htG2.1
    have hu4 := hR.nds (by omega)
    obtain ⟨p4, n4, q4, rfl⟩ := NdsL.shapeL hL4
    obtain ⟨p5, n5, q5, rfl⟩ := hu4.shape
    have kl := (Keeps.refl w4).alloc (.cells #[.slice p4 n4 q4, .slice p5 n5 q5] 37)
    have HF4 := hid (HF.out _ _ _ (hL4.keeps kl) (hu4.keeps kl))
    clear hR hL4 hu4
    go_wp2_with fail
    refine HF4.out.mono ?_; rintro e w5 ⟨v5, rfl, hv5, k5⟩
    go_wp2_with fail
    refine (HS.out _ w5 hv5).mono ?_; rintro e w6 ⟨rfl, k6⟩
    go_wp2_with fail
    go_ret
    exact ⟨rfl, (k4.trans (kl.trans k5)).trans k6⟩
  | true =>
    have hl20 : ∀ a ∈ H ++ [u], a.enc.length ≤ 20 := fun a ha => by
      have := List.all_eq_true.1 hbig a ha
      simpa using this
    have HBr := hid (fun v x w2 (h1 : FsL w2 v H) (h2 : Nds w2 x u.enc) => isBroken_any H u hok hokt hl20 v x w2 h1 h2)
    rw [hbig] at hS
    have HS := hid hS
    rw [Bool.true_and]
    clear hbig hS
    go_enter Tryz.func102, Tryz.ntmps102
    go_wp2_with fail
    refine HX.out.mono ?_; rintro e w4 ⟨v4, u4, rfl, hR, k4⟩
    have hL4 := hR.ndsL htG2.2 htG2.1
    have hu4 := hR.nds (by omega)
    obtain ⟨p4, n4, q4, rfl⟩ := NdsL.shapeL hL4
    obtain ⟨p5, n5, q5, rfl⟩ := hu4.shape
    have kl := (Keeps.refl w4).alloc (.cells #[.slice p4 n4 q4, .slice p5 n5 q5] 37)
    have ra : (w4.alloc (.cells #[.slice p4 n4 q4, .slice p5 n5 q5] 37)).cell? ⟨w4.heap.size, 0, none⟩ = some (.slice p4 n4 q4) := by simp
    have rb : (w4.alloc (.cells #[.slice p4 n4 q4, .slice p5 n5 q5] 37)).cell? ⟨w4.heap.size, 1, none⟩ = some (.slice p5 n5 q5) := by simp
    have HF4 := hid (HF.out _ _ _ (hL4.keeps kl) (hu4.keeps kl))
    have HBr4 := hid (fun w2 (k : Keeps w4 w2) => HBr.out _ _ w2 (hL4.keeps k) (hu4.keeps k))
    clear hR hL4 hu4
    go_wp2_with fail
    refine HF4.out.mono ?_; rintro e w5 ⟨v5, rfl, hv5, k5⟩
    go_wp2_with fail
    refine (HS.out _ w5 hv5).mono ?_; rintro e w6 ⟨rfl, k6⟩
    obtain ⟨s1, s2⟩ := cells_keeps (k5.trans k6) (And.intro ra rb)
    go_wp2_with fail
    refine (HBr4.out w6 (kl.trans (k5.trans k6))).mono ?_; rintro e w7 ⟨rfl, k7⟩
    go_wp2_with fail
    go_ret
    exact ⟨rfl, (k4.trans (kl.trans (k5.trans k6))).trans k7⟩
theorem enters_findB : Enters 102 := fun _ _ => by kernel_rfl
/-- the error of candidates -/
def candE (m n : Nat) (s : Bool) : Int := if 8 < m then 2 else if 600 < m ^ n ∨ s = false then 3 else 0
--
set_option maxRecDepth 20000 in
set_option maxHeartbeats 1000000 in
theorem candidateCode_any (vs : List Int) (cs : List (List Nd)) (s : Bool) (v u : Value) (w : World) (hu : NdsL w u cs) (hv : Ints w v vs) (h6 : vs.length ≤ 6) :
    Calls Tryz.prog 100 #[u, v, .bool s] w fun e w' => e = .returned (.int .i64 (candE cs.length vs.length s)) ∧ w = w' := by
  obtain ⟨p, cap, rfl, hle, hmx, hx1, hx2⟩ := hv
  obtain ⟨q, dap, rfl, hle2, hmx2, hx3, hx4⟩ := hu
  unfold maxLen at hmx hmx2
  clear hx1 hx2 hx3 hx4
  generalize hm : cs.length = m at *
  generalize hn : vs.length = n at *
  by_cases h8 : 8 < m
  · have h8' : (8 : Int) < m := by omega
    have he : candE m n s = 2 := by unfold candE; rw [if_pos h8]
    rw [he]
    go_enter Tryz.func100, Tryz.ntmps100
    go_wp2
    go_ret
    exact ⟨rfl, rfl⟩
  · have h8' : ¬ (8 : Int) < m := by omega
    have he : candE m n s = if 600 < m ^ n ∨ s = false then 3 else 0 := by unfold candE; rw [if_neg h8]
    have hpow : ∀ k, k ≤ 6 → m ^ k ≤ 262144 := fun k hk => by
      have h1 : m ^ k ≤ 8 ^ k := Nat.pow_le_pow_left (by omega) k
      have h2 : 8 ^ k ≤ 8 ^ 6 := Nat.pow_le_pow_right (by omega) hk
      omega
    have HP := hid hpow; clear hpow
    have hm8 : m ≤ 8 := by omega
    rw [he]
    clear he
    generalize hN : m ^ n = N
    have HN := hid hN; clear hN
    have hp : ∀ k, m ^ (k + 1) = m ^ k * m := fun k => Nat.pow_succ ..
    have HPS := hid hp; clear hp
    by_cases hbig : 600 < N
    · rw [if_pos (.inl hbig)]
      have hbig' : (600 : Int) < N := by omega
      go_enter Tryz.func100, Tryz.ntmps100
      go_wp2
      go_loop [7, 13] (fun c i' => ∃ k : Nat, k ≤ n ∧ i' = .int .i64 k ∧ c = .int .i64 (m ^ k : Nat)) (fun _ i => n - (intOf i).toNat)
      case atStart => exact ⟨0, by omega, rfl, by simp⟩
      case round =>
        obtain ⟨k, hk, rfl, rfl⟩ := hrel
        by_cases hlt : k < n
        · have hlt' : (k : Int) < n := by omega
          have hb := HP.out k (by omega)
          have hb' := HP.out (k + 1) (by omega)
          have hs := hid (HPS.out k)
          rw [hs.out] at hb'
          generalize m ^ k = x at *
          have hcm : (x : Int) * (m : Int) = ((x * m : Nat) : Int) := by push_cast; rfl
          have hb0 : 0 ≤ (x : Int) * (m : Int) := by rw [hcm]; omega
          have hb1 : (x : Int) * (m : Int) ≤ 262144 := by rw [hcm]; omega
          have HCM := hid hcm; clear hcm hb'
          go_wp2
          go_round
          case rel => exact ⟨k + 1, by omega, by go_num, by rw [hs.out, ← HCM.out]⟩
          case measure => simp [intOf]; omega
        · obtain rfl : k = n := by omega
          have hlt' : ¬ (k : Int) < k := by omega
          rw [HN.out]
          go_wp2
          go_ret
          exact ⟨rfl, rfl⟩
    · have hbig' : ¬ (600 : Int) < N := by omega
      have hif : (if 600 < N ∨ s = false then (3 : Int) else 0) = if s then 0 else 3 := by cases s <;> simp [hbig]
      rw [hif]
      cases s
      all_goals
        simp only [Bool.false_eq_true, if_true, if_false]
        go_enter Tryz.func100, Tryz.ntmps100
        go_wp2
        go_loop [7, 13] (fun c i' => ∃ k : Nat, k ≤ n ∧ i' = .int .i64 k ∧ c = .int .i64 (m ^ k : Nat)) (fun _ i => n - (intOf i).toNat)
        case atStart => exact ⟨0, by omega, rfl, by simp⟩
        case round =>
          obtain ⟨k, hk, rfl, rfl⟩ := hrel
          by_cases hlt : k < n
          · have hlt' : (k : Int) < n := by omega
            have hb := HP.out k (by omega)
            have hb' := HP.out (k + 1) (by omega)
            have hs := hid (HPS.out k)
            rw [hs.out] at hb'
            generalize m ^ k = x at *
            have hcm : (x : Int) * (m : Int) = ((x * m : Nat) : Int) := by push_cast; rfl
            have hb0 : 0 ≤ (x : Int) * (m : Int) := by rw [hcm]; omega
            have hb1 : (x : Int) * (m : Int) ≤ 262144 := by rw [hcm]; omega
            have HCM := hid hcm; clear hcm hb'
            go_wp2
            go_round
            case rel => exact ⟨k + 1, by omega, by go_num, by rw [hs.out, ← HCM.out]⟩
            case measure => simp [intOf]; omega
          · obtain rfl : k = n := by omega
            have hlt' : ¬ (k : Int) < k := by omega
            rw [HN.out]
            go_wp2
            go_ret
            exact ⟨rfl, rfl⟩
end Go.Proofs.YtpbbfoliabgkpaaGreat
/- LiftSubstitution on both sides, and its law. -/
namespace Go.Proofs.YtpbbfoliabgkpaaGreat
open Go.RowKit
theorem plainErr_ok {a : List Nd} (h : plainErr a = 0) : a.all okNd = true ∧ a.length ≤ 40 := by
  unfold plainErr at h
  split at h
  · rename_i hf
    simp [isFm, isTree] at hf
    exact ⟨by simpa using hf.2.1, hf.1⟩
  · cases h
theorem any_set {l : List (List Nd)} {i : Nat} {y : List Nd} (hi : i < l.length) (hy : 40 < y.length) : bigL (l.set i y) = true := by
  unfold bigL
  exact List.any_eq_true.2 ⟨y, List.mem_set hi y, by simpa using hy⟩
theorem liftF_mem (a : List Nd) (mask : Nat) (ms : List Int) : ∀ x ∈ liftF a mask ms, x.length ≤ a.length + 2 := by
  unfold liftF
  have : ∀ (l : List (List Nd)), (∀ x ∈ l, x.length ≤ a.length + 2) → ∀ x ∈ ms.foldl (fun l v => l.set v.toNat (liftI a mask v)) l, x.length ≤ a.length + 2 := by
    induction ms with
    | nil => intro l h; exact h
    | cons m ms ih =>
      intro l h
      rw [List.foldl_cons]
      refine ih _ (fun x hx => ?_)
      rcases List.mem_or_eq_of_mem_set hx with h1 | rfl
      · exact h x h1
      · rw [liftI_len]; exact Nat.le_refl _
  refine this _ (fun x hx => ?_)
  simp [idL] at hx
  obtain ⟨v, _, rfl⟩ := hx
  simp [Fm.enc]
theorem liftL_big (a : List Nd) (mask : Nat) : bigL (liftL a mask) = (decide (0 < (mem (vm a)).length) && decide (40 < a.length + 2)) := by
  have hmr := mem_range (vm a)
  unfold liftL
  generalize mem (vm a) = M at *
  by_cases hl : 40 < a.length + 2
  · rcases List.eq_nil_or_concat M with rfl | ⟨M', m, rfl⟩
    · simp [liftF]; decide
    · obtain ⟨k, hk, e⟩ := hmr m (by simp)
      rw [List.concat_eq_append, liftF_snoc]
      rw [any_set (by rw [liftF_len]; omega) (by rw [liftI_len]; exact hl)]
      simp; omega
  · have : bigL (liftF a mask M) = false := by
      rw [Bool.eq_false_iff]; intro h
      unfold bigL at h
      obtain ⟨x, hx, h2⟩ := List.any_eq_true.1 h
      have := liftF_mem a mask M x hx
      simp at h2; omega
    rw [this]; simp [hl]
theorem tot_bound (l : List (List Nd)) (n : Nat) (h : ∀ x ∈ l, x.length ≤ n) : tot l ≤ n * l.length := by
  induction l with
  | nil => simp [tot]
  | cons x l ih =>
    have h1 := h x (List.mem_cons_self ..)
    have h2 := ih (fun y hy => h y (List.mem_cons_of_mem _ hy))
    simp only [tot, List.length_cons]
    rw [Nat.mul_succ]; omega
theorem not_big {l : List (List Nd)} (h : bigL l = false) : ∀ x ∈ l, x.length ≤ 40 := by
  intro x hx
  rcases Nat.lt_or_ge 40 x.length with h1 | h1
  · have : bigL l = true := List.any_eq_true.2 ⟨x, hx, by simpa using h1⟩
    rw [h] at this; cases this
  · exact h1
theorem limitedAll_small (l : List (List Nd)) (v : Value) (w : World) (hv : NdsL w v l) (hb : bigL l = false) :
    Calls Tryz.prog 95 #[v] w fun e w' => e = .returned (.tuple #[v, .int .i64 0]) ∧ Keeps w w' := by
  have h := limitedAll_any l v w hv
  rw [hb] at h
  exact h
theorem limitedAll_big (l : List (List Nd)) (v : Value) (w : World) (hv : NdsL w v l) (hb : bigL l = true) :
    Calls Tryz.prog 95 #[v] w fun e w' => e = .returned (.tuple #[.slice none 0 0, .int .i64 3]) ∧ Keeps w w' := by
  have h := limitedAll_any l v w hv
  rw [hb] at h
  exact h
def BothLift (a : List Nd) (mask : Int) (r : List (List Nd)) (c : Int) : Prop :=
  (∀ v w, Nds w v a → Calls Tryz.prog 30 #[v, .int .i64 mask] w fun e w' => ∃ u, e = .returned (.tuple #[u, .int .i64 c]) ∧ NdsL w' u r ∧ Keeps w w') ∧
  (∀ v w, Nds w v a → Calls Tryz.prog 29 #[v, .int .i64 mask] w fun e w' => ∃ u, e = .returned (.tuple #[u, .int .i64 c]) ∧ OwnL w' w.heap.size u r ∧ Keeps w w')
theorem ndsL_nil (w : World) : NdsL w (.slice none 0 0) [] := (OwnL.nil w 0).ndsL (by simp) (by simp [tot])
--
set_option maxRecDepth 20000 in
set_option maxHeartbeats 4000000 in
theorem bothLift (a : List Nd) (mask : Int) : ∃ r c, BothLift a mask r c ∧ r.length ≤ 6 ∧ tot r ≤ 1000 := by
  have hne := fun (v : Value) (w : World) (hv : Nds w v a) => plainCode_any [a] _ _ (NdsL.lit1 hv)
  have hns := fun (v : Value) (w : World) (hv : Nds w v a) => l31Plain_any [a] _ _ (NdsL.lit1 hv)
  rw [plainErrs_one] at hne hns
  have HN := hid hne; clear hne
  have HS := hid hns; clear hns
  by_cases h : plainErr a = 0
  · obtain ⟨hok, hla⟩ := plainErr_ok h
    have h' : (plainErr a != 0) = false := by simp [h]
    rw [h] at HN HS
    clear h h'
    by_cases hm : inR mask 0 63 = true
    · obtain ⟨m, rfl, hm64⟩ : ∃ m : Nat, mask = m ∧ m < 64 := ⟨mask.toNat, by simp [inR] at hm; omega, by simp [inR] at hm; omega⟩
      have hbig := liftL_big a m
      have hmem := liftF_mem a m (mem (vm a))
      have hlen := liftF_len a m (mem (vm a))
      change ∀ x ∈ liftL a m, _ at hmem
      change (liftL a m).length = 6 at hlen
      have htot := tot_bound _ _ hmem
      rw [hlen] at htot
      have hl2 := low_len (vm a) 6
      change (mem (vm a)).length ≤ 6 at hl2
      have HLI := hid (fun v w hv => lifted_any a m v w hv hok (by omega) hm64)
      have HLS := hid (fun v w hv => l31Lift_any a m v w hv hok (by omega) hm64)
      have HV := hid (fun v w hv => l02Variables_any a v w hv hok)
      have HF := hid (fun w => l01Full_any 6 w (by omega) (by omega))
      have HI := hid (fun w => l01In_any (m : Int) 0 63 w)
      have HM := hid (fun w => isMask6_any (m : Int) w)
      rw [hm] at HI HM
      have HOK := hid hok; clear hok
      refine ⟨if bigL (liftL a m) then [] else liftL a m, if bigL (liftL a m) then 3 else 0, ⟨fun v w hv => ?_, fun v w hv => ?_⟩, ?_, ?_⟩
      · have hv0 := hv
        obtain ⟨p, cap, rfl, _, _, _, _⟩ := hv
        have k1 := (Keeps.refl w).alloc (.cells #[.slice p a.length cap] 24)
        by_cases hM : 0 < (mem (vm a)).length
        · by_cases hL : 40 < a.length + 2
          · have hbv : bigL (liftL a m) = true := by rw [hbig, decide_eq_true hM, decide_eq_true hL]; rfl
            rw [hbv]
            have d1 : decide (((mem (vm a)).length : Int) > 0) = true := by simp; omega
            have d2 : decide ((a.length : Int) + 2 > 40) = true := by simp; omega
            clear hbv hbig
            go_enter Tryz.func30, Tryz.ntmps30
            go_wp2_with fail
            refine (HS.out _ _ hv0).mono ?_; rintro e w' ⟨rfl, rfl⟩
            go_wp2_with fail
            refine (HF.out _).mono ?_; rintro e w' ⟨rfl, rfl⟩
            go_wp2_with fail
            refine (HI.out _).mono ?_; rintro e w' ⟨rfl, rfl⟩
            go_wp2_with fail
            refine (HV.out _ _ (hv0.keeps k1)).mono ?_; rintro e w2 ⟨u2, rfl, hu2, k2⟩
            obtain ⟨pu, cu, rfl, _, _, _, _⟩ := hu2.ints (by omega)
            go_wp2_with fail
            go_ret2
            exact ⟨_, rfl, ndsL_nil _, k1.trans k2⟩
          · have hbv : bigL (liftL a m) = false := by rw [hbig, decide_eq_false hL]; simp
            rw [hbv]
            have d1 : decide (((mem (vm a)).length : Int) > 0) = true := by simp; omega
            have d2 : decide ((a.length : Int) + 2 > 40) = false := by simp; omega
            clear hbv hbig
            go_enter Tryz.func30, Tryz.ntmps30
            go_wp2_with fail
            refine (HS.out _ _ hv0).mono ?_; rintro e w' ⟨rfl, rfl⟩
            go_wp2_with fail
            refine (HF.out _).mono ?_; rintro e w' ⟨rfl, rfl⟩
            go_wp2_with fail
            refine (HI.out _).mono ?_; rintro e w' ⟨rfl, rfl⟩
            go_wp2_with fail
            refine (HV.out _ _ (hv0.keeps k1)).mono ?_; rintro e w2 ⟨u2, rfl, hu2, k2⟩
            obtain ⟨pu, cu, rfl, _, _, _, _⟩ := hu2.ints (by omega)
            go_wp2_with fail
            refine (HLS.out _ _ (hv0.keeps (k1.trans k2))).mono ?_; rintro e w3 ⟨u3, rfl, hu3, k3⟩
            go_wp2_with fail
            go_ret2
            exact ⟨_, rfl, hu3.ndsL (by rw [hlen]; omega) (by omega), (k1.trans k2).trans k3⟩
        · have hbv : bigL (liftL a m) = false := by rw [hbig, decide_eq_false hM]; simp
          rw [hbv]
          have d1 : decide (((mem (vm a)).length : Int) > 0) = false := decide_eq_false (by omega)
          clear hbv hbig
          go_enter Tryz.func30, Tryz.ntmps30
          go_wp2_with fail
          refine (HS.out _ _ hv0).mono ?_; rintro e w' ⟨rfl, rfl⟩
          go_wp2_with fail
          refine (HF.out _).mono ?_; rintro e w' ⟨rfl, rfl⟩
          go_wp2_with fail
          refine (HI.out _).mono ?_; rintro e w' ⟨rfl, rfl⟩
          go_wp2_with fail
          refine (HV.out _ _ (hv0.keeps k1)).mono ?_; rintro e w2 ⟨u2, rfl, hu2, k2⟩
          obtain ⟨pu, cu, rfl, _, _, _, _⟩ := hu2.ints (by omega)
          go_wp2_with fail
          refine (HLS.out _ _ (hv0.keeps (k1.trans k2))).mono ?_; rintro e w3 ⟨u3, rfl, hu3, k3⟩
          go_wp2_with fail
          go_ret2
          exact ⟨_, rfl, hu3.ndsL (by rw [hlen]; omega) (by omega), (k1.trans k2).trans k3⟩
      · have hv0 := hv
        obtain ⟨p, cap, rfl, _, _, _, _⟩ := hv
        have k1 := (Keeps.refl w).alloc (.cells #[.slice p a.length cap] 24)
        clear hbig
        cases hb : bigL (liftL a m)
        · have HB0 := hid hb; clear hb
          simp only [Bool.false_eq_true, if_false]
          go_enter Tryz.func29, Tryz.ntmps29
          go_wp2_with fail
          refine (HN.out _ _ hv0).mono ?_; rintro e w2 ⟨rfl, k2⟩
          go_wp2_with fail
          refine (HM.out _).mono ?_; rintro e w' ⟨rfl, rfl⟩
          go_wp2_with fail
          refine (HLI.out _ _ (hv0.keeps (k1.trans k2))).mono ?_; rintro e w3 ⟨u3, rfl, hu3, k3⟩
          obtain ⟨g3, c3, e3, _, _⟩ := hu3.shape (by rw [hlen]; omega)
          rw [hlen] at e3
          subst e3
          have kk := (k1.trans k2)
          have hnl := hu3.ndsL (by rw [hlen]; omega) (by omega)
          have HB := hid (limitedAll_small _ _ _ hnl HB0.out)
          clear hnl
          go_wp2_with fail
          refine HB.out.mono ?_; rintro e w4 ⟨rfl, k4⟩
          go_wp2_with fail
          go_ret2
          exact ⟨_, rfl, (hu3.keeps k4).mono kk.size, (kk.trans k3).trans k4⟩
        · have HB0 := hid hb; clear hb
          simp only [if_true]
          go_enter Tryz.func29, Tryz.ntmps29
          go_wp2_with fail
          refine (HN.out _ _ hv0).mono ?_; rintro e w2 ⟨rfl, k2⟩
          go_wp2_with fail
          refine (HM.out _).mono ?_; rintro e w' ⟨rfl, rfl⟩
          go_wp2_with fail
          refine (HLI.out _ _ (hv0.keeps (k1.trans k2))).mono ?_; rintro e w3 ⟨u3, rfl, hu3, k3⟩
          obtain ⟨g3, c3, e3, _, _⟩ := hu3.shape (by rw [hlen]; omega)
          rw [hlen] at e3
          subst e3
          have kk := (k1.trans k2)
          have hnl := hu3.ndsL (by rw [hlen]; omega) (by omega)
          have HB := hid (limitedAll_big _ _ _ hnl HB0.out)
          clear hnl
          go_wp2_with fail
          refine HB.out.mono ?_; rintro e w4 ⟨rfl, k4⟩
          go_wp2_with fail
          go_ret2
          exact ⟨_, rfl, OwnL.nil _ _, (kk.trans k3).trans k4⟩
      · split
        · simp
        · rw [hlen]; omega
      · cases hb : bigL (liftL a m)
        · simp only [Bool.false_eq_true, if_false]
          have := tot_bound _ 40 (not_big hb)
          rw [hlen] at this; omega
        · simp [tot]
    · have hmf : inR mask 0 63 = false := by simpa using hm
      have HF := hid (fun w => l01Full_any 6 w (by omega) (by omega))
      have HI := hid (fun w => l01In_any mask 0 63 w)
      have HM := hid (fun w => isMask6_any mask w)
      rw [hmf] at HI HM
      clear hm hmf
      refine ⟨[], 2, ⟨fun v w hv => ?_, fun v w hv => ?_⟩, by simp, by simp [tot]⟩
      · have hv0 := hv
        obtain ⟨p, cap, rfl, _, _, _, _⟩ := hv
        have k1 := (Keeps.refl w).alloc (.cells #[.slice p a.length cap] 24)
        go_enter Tryz.func30, Tryz.ntmps30
        go_wp2_with fail
        refine (HS.out _ _ hv0).mono ?_; rintro e w' ⟨rfl, rfl⟩
        go_wp2_with fail
        refine (HF.out _).mono ?_; rintro e w' ⟨rfl, rfl⟩
        go_wp2_with fail
        refine (HI.out _).mono ?_; rintro e w' ⟨rfl, rfl⟩
        go_wp2_with fail
        go_ret2
        exact ⟨_, rfl, ndsL_nil _, k1⟩
      · have hv0 := hv
        obtain ⟨p, cap, rfl, _, _, _, _⟩ := hv
        have k1 := (Keeps.refl w).alloc (.cells #[.slice p a.length cap] 24)
        go_enter Tryz.func29, Tryz.ntmps29
        go_wp2_with fail
        refine (HN.out _ _ hv0).mono ?_; rintro e w2 ⟨rfl, k2⟩
        go_wp2_with fail
        refine (HM.out _).mono ?_; rintro e w' ⟨rfl, rfl⟩
        go_wp2_with fail
        go_ret2
        exact ⟨_, rfl, OwnL.nil _ _, k1.trans k2⟩
  · have h' : (plainErr a != 0) = true := by simp [h]
    generalize plainErr a = c at *
    have H := hid h; clear h
    refine ⟨[], c, ⟨fun v w hv => ?_, fun v w hv => ?_⟩, by simp, by simp [tot]⟩
    · have hv0 := hv
      obtain ⟨p, cap, rfl, _, _, _, _⟩ := hv
      have k1 := (Keeps.refl w).alloc (.cells #[.slice p a.length cap] 24)
      go_enter Tryz.func30, Tryz.ntmps30
      go_wp2_with fail
      refine (HS.out _ _ hv0).mono ?_; rintro e w' ⟨rfl, rfl⟩
      go_wp2_with fail
      go_ret2
      exact ⟨_, rfl, ndsL_nil _, k1⟩
    · have hv0 := hv
      obtain ⟨p, cap, rfl, _, _, _, _⟩ := hv
      have k1 := (Keeps.refl w).alloc (.cells #[.slice p a.length cap] 24)
      go_enter Tryz.func29, Tryz.ntmps29
      go_wp2_with fail
      refine (HN.out _ _ hv0).mono ?_; rintro e w2 ⟨rfl, k2⟩
      go_wp2_with fail
      go_ret2
      exact ⟨_, rfl, OwnL.nil _ _, k1.trans k2⟩
end Go.Proofs.YtpbbfoliabgkpaaGreat
