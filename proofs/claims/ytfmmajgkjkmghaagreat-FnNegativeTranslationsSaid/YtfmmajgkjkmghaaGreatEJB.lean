import Derived.Test.YtfmmajgkjkmghaaGreatEHD
import Derived.Test.YtfmmajgkjkmghaaGreatEM2
import Derived.Test.YtfmmajgkjkmghaaGreatEBase
/- The reference: is a formula valid on an order? -/
namespace Go.Proofs.YtfmmajgkjkmghaaGreat
open Go.RowKit
def varL (t : Fm) : List Nat := lowB (vm t.enc) 6
theorem varL_mem (t : Fm) : mem (vm t.enc) = zs (varL t) := rfl
theorem varL_lt {t : Fm} {x : Nat} (h : x ∈ varL t) : x < 6 := by
 unfold varL lowB at h
 simpa using (List.mem_filter.1 h).1
theorem varL_nodup (t : Fm) : (varL t).Nodup := by
 unfold varL lowB
 exact List.nodup_range.filter _
def okV (b : List Nat) (t : Fm) (N : Nat) : Bool := frcP b (numL (upL b) (varL t) N) t == 2 ^ b.length - 1
def vldR (b : List Nat) (t : Fm) : Bool := (List.range ((upL b).length ^ (varL t).length)).all (okV b t)
end Go.Proofs.YtfmmajgkjkmghaaGreat
namespace Go.Proofs.YtfmmajgkjkmghaaGreat
open Fm
structure KM where
 W : Type
 le : W → W → Prop
 refl : ∀ w, le w w
 trans : ∀ a b c, le a b → le b c → le a c
 V : W → Nat → Prop
 mono : ∀ a b p, le a b → V a p → V b p
namespace KM
def forces (M : KM) : M.W → Fm → Prop
 | w, .var v => M.V w v
 | _, .fls => False
 | w, .and a b => forces M w a ∧ forces M w b
 | w, .or a b => forces M w a ∨ forces M w b
 | w, .imp a b => ∀ u, M.le w u → forces M u a → forces M u b
 | _, .box _ => False
 | _, .dia _ => False
theorem up (M : KM) (a : Fm) : ∀ w u, M.le w u → M.forces w a → M.forces u a := by
 induction a with
 | var v => intro w u h hw; exact M.mono _ _ _ h hw
 | fls => intro w u _ hw; exact hw
 | and a b iha ihb => intro w u h hw; exact ⟨iha _ _ h hw.1, ihb _ _ h hw.2⟩
 | or a b iha ihb => intro w u h hw; exact hw.imp (iha _ _ h) (ihb _ _ h)
 | imp a b _ _ => intro w u h hw x hx; exact hw x (M.trans _ _ _ h hx)
 | box a _ => intro w u _ hw; exact hw
 | dia a _ => intro w u _ hw; exact hw
end KM
def Sq (G : List Fm) (c : Fm) : Prop := ∀ (M : KM) (w : M.W), (∀ a ∈ G, M.forces w a) → M.forces w c
theorem not_sq {G : List Fm} {c : Fm} (h : ¬ Sq G c) : ∃ (M : KM) (w : M.W), (∀ a ∈ G, M.forces w a) ∧ ¬ M.forces w c := by
 unfold Sq at h
 simp only [Classical.not_forall] at h
 obtain ⟨M, w, hg, hc⟩ := h
 exact ⟨M, w, hg, hc⟩
def glue {ι : Type} (M : ι → KM) (r : ∀ i, (M i).W) (A : Nat → Prop) (hA : ∀ i p, A p → (M i).V (r i) p) : KM where
 W := Option (Σ i, (M i).W)
 le := fun x y => match x, y with
  | none, none => True
  | none, some ⟨i, u⟩ => (M i).le (r i) u
  | some _, none => False
  | some ⟨i, u⟩, some ⟨j, v⟩ => ∃ h : i = j, (M j).le (h ▸ u) v
 refl := fun x => by
  cases x with
  | none => trivial
  | some x => obtain ⟨i, u⟩ := x; exact ⟨rfl, (M i).refl u⟩
 trans := fun x y z h k => by
  cases x with
  | none =>
   cases y with
   | none => exact k
   | some y =>
    cases z with
    | none => exact k.elim
    | some z =>
     obtain ⟨i, u⟩ := y; obtain ⟨j, v⟩ := z
     obtain ⟨rfl, k⟩ := k
     exact (M i).trans _ _ _ h k
  | some x =>
   cases y with
   | none => exact h.elim
   | some y =>
    cases z with
    | none => exact k.elim
    | some z =>
     obtain ⟨i, u⟩ := x; obtain ⟨j, v⟩ := y; obtain ⟨l, t⟩ := z
     obtain ⟨rfl, h⟩ := h; obtain ⟨rfl, k⟩ := k
     exact ⟨rfl, (M i).trans _ _ _ h k⟩
 V := fun x p => match x with
  | none => A p
  | some ⟨i, u⟩ => (M i).V u p
 mono := fun x y p h k => by
  cases x with
  | none =>
   cases y with
   | none => exact k
   | some y => obtain ⟨i, u⟩ := y; exact (M i).mono _ _ _ h (hA i p k)
  | some x =>
   cases y with
   | none => exact h.elim
   | some y =>
    obtain ⟨i, u⟩ := x; obtain ⟨j, v⟩ := y
    obtain ⟨rfl, h⟩ := h
    exact (M i).mono _ _ _ h k
theorem glue_some {ι : Type} (M : ι → KM) (r : ∀ i, (M i).W) (A : Nat → Prop) (hA : ∀ i p, A p → (M i).V (r i) p) (a : Fm) :
  ∀ i (u : (M i).W), (glue M r A hA).forces (some ⟨i, u⟩) a ↔ (M i).forces u a := by
 induction a with
 | var v => intro i u; exact Iff.rfl
 | fls => intro i u; exact Iff.rfl
 | and a b iha ihb => intro i u; exact and_congr (iha i u) (ihb i u)
 | or a b iha ihb => intro i u; exact or_congr (iha i u) (ihb i u)
 | imp a b iha ihb =>
  intro i u
  constructor
  ·intro h v hv ha
   exact (ihb i v).1 (h (some ⟨i, v⟩) ⟨rfl, hv⟩ ((iha i v).2 ha))
  ·intro h y hy ha
   cases y with
   | none => exact hy.elim
   | some y =>
    obtain ⟨j, v⟩ := y
    obtain ⟨rfl, hy⟩ := hy
    exact (ihb i v).2 (h v hy ((iha i v).1 ha))
 | box a _ => intro i u; exact Iff.rfl
 | dia a _ => intro i u; exact Iff.rfl
theorem sq_congr {G H : List Fm} {c : Fm} (h : ∀ (M : KM) (w : M.W), (∀ a ∈ G, M.forces w a) ↔ (∀ a ∈ H, M.forces w a)) : Sq G c ↔ Sq H c :=
 ⟨fun k M w hw => k M w ((h M w).2 hw), fun k M w hw => k M w ((h M w).1 hw)⟩
theorem sq_mem {G : List Fm} {c : Fm} (h : c ∈ G) : Sq G c := fun _ _ hw => hw c h
theorem sq_fls {G : List Fm} {c : Fm} (h : fls ∈ G) : Sq G c := fun _ _ hw => (hw fls h).elim
theorem sq_and {G : List Fm} {a b : Fm} : Sq G (and a b) ↔ Sq G a ∧ Sq G b :=
 ⟨fun h => ⟨fun M w hw => (h M w hw).1, fun M w hw => (h M w hw).2⟩, fun h M w hw => ⟨h.1 M w hw, h.2 M w hw⟩⟩
theorem sq_imp {G : List Fm} {a b : Fm} : Sq G (imp a b) ↔ Sq (a :: G) b := by
 constructor
 ·intro h M w hw
  exact h M w (fun x hx => hw x (List.mem_cons_of_mem _ hx)) w (M.refl w) (hw a (List.mem_cons_self ..))
 ·intro h M w hw u hu ha
  refine h M u (fun x hx => ?_)
  rcases List.mem_cons.1 hx with rfl | hx
  ·exact ha
  ·exact M.up _ _ _ hu (hw x hx)
theorem sq_left {G H : List Fm} {c x : Fm} {ys : List Fm} (hG : ∀ a, a ∈ G ↔ a = x ∨ a ∈ H) (h : ∀ (M : KM) (w : M.W), (∀ a ∈ H, M.forces w a) → (M.forces w x ↔ ∀ y ∈ ys, M.forces w y)) : Sq G c ↔ Sq (ys ++ H) c := by
 refine sq_congr fun M w => ⟨fun hw y hy => ?_, fun hw a ha => ?_⟩
 ·rcases List.mem_append.1 hy with hy | hy
  ·exact (h M w (fun a ha => hw a ((hG a).2 (.inr ha)))).1 (hw x ((hG x).2 (.inl rfl))) y hy
  ·exact hw y ((hG y).2 (.inr hy))
 ·rcases (hG a).1 ha with rfl | ha
  ·exact (h M w (fun a ha => hw a (List.mem_append.2 (.inr ha)))).2 fun y hy => hw y (List.mem_append.2 (.inl hy))
  ·exact hw a (List.mem_append.2 (.inr ha))
theorem sq_or_left {G H : List Fm} {c x y : Fm} (hG : ∀ a, a ∈ G ↔ a = or x y ∨ a ∈ H) : Sq G c ↔ Sq (x :: H) c ∧ Sq (y :: H) c := by
 constructor
 ·intro h
  refine ⟨fun M w hw => h M w fun a ha => ?_, fun M w hw => h M w fun a ha => ?_⟩
  ·rcases (hG a).1 ha with rfl | ha
   ·exact .inl (hw x (List.mem_cons_self ..))
   ·exact hw a (List.mem_cons_of_mem _ ha)
  ·rcases (hG a).1 ha with rfl | ha
   ·exact .inr (hw y (List.mem_cons_self ..))
   ·exact hw a (List.mem_cons_of_mem _ ha)
 ·intro h M w hw
  have hH : ∀ a ∈ H, M.forces w a := fun a ha => hw a ((hG a).2 (.inr ha))
  rcases hw (or x y) ((hG _).2 (.inl rfl)) with hx | hy
  ·exact h.1 M w fun a ha => by
    rcases List.mem_cons.1 ha with rfl | ha
    ·exact hx
    ·exact hH a ha
  ·exact h.2 M w fun a ha => by
    rcases List.mem_cons.1 ha with rfl | ha
    ·exact hy
    ·exact hH a ha
theorem forces_impimp (M : KM) (w : M.W) {x y b : Fm} (h : M.forces w (imp y b)) (hx : M.forces w x) : M.forces w (imp (imp x y) b) := by
 intro u hu hxy
 exact h u hu (hxy u (M.refl u) (M.up _ _ _ hu hx))
structure Final (G : List Fm) : Prop where
 nof : fls ∉ G
 forms : ∀ a ∈ G, (∃ p, a = var p) ∨ (∃ p b, a = imp (var p) b ∧ var p ∉ G) ∨ (∃ b, a = imp fls b) ∨ (∃ x y b, a = imp (imp x y) b)
def Way (G : List Fm) (c x y b : Fm) : Prop := Sq (x :: imp y b :: G) y ∧ Sq (b :: G) c
theorem way_sound {G : List Fm} {c x y b : Fm} (hm : imp (imp x y) b ∈ G) (h : Way G c x y b) : Sq G c := by
 intro M w hw
 have hxy : M.forces w (imp x y) := by
  intro u hu hx
  refine h.1 M u fun a ha => ?_
  rcases List.mem_cons.1 ha with rfl | ha
  ·exact hx
  ·rcases List.mem_cons.1 ha with rfl | ha
   ·intro v hv hy
    exact hw _ hm v (M.trans _ _ _ hu hv) fun t ht _ => M.up _ _ _ ht hy
   ·exact M.up _ _ _ hu (hw a ha)
 have hb : M.forces w b := hw _ hm w (M.refl w) hxy
 exact h.2 M w fun a ha => by
  rcases List.mem_cons.1 ha with rfl | ha
  ·exact hb
  ·exact hw a ha
theorem final_complete {G : List Fm} {c : Fm} (hF : Final G) (hc : (∃ p, c = var p ∧ var p ∉ G) ∨ c = fls ∨ (∃ d e, c = Fm.or d e)) (h : Sq G c) :
  (∃ d e, c = Fm.or d e ∧ (Sq G d ∨ Sq G e)) ∨ (∃ x y b, imp (imp x y) b ∈ G ∧ Way G c x y b) := by
 classical
 by_cases hor : ∃ d e, c = Fm.or d e ∧ (Sq G d ∨ Sq G e)
 ·exact .inl hor
 refine .inr (Classical.byContradiction fun hno => ?_)
 -- a countermodel for each implication of an implication: its left premise fails, or the right one does and we are done
 by_cases hright : ∃ x y b, imp (imp x y) b ∈ G ∧ Sq (x :: imp y b :: G) y ∧ ¬ Sq (b :: G) c
 ·obtain ⟨x, y, b, hm, _, hn⟩ := hright
  obtain ⟨M, w, hw, hcw⟩ := not_sq hn
  exact hcw (h M w fun a ha => hw a (List.mem_cons_of_mem _ ha))
 have hleft : ∀ x y b, imp (imp x y) b ∈ G → ¬ Sq (x :: imp y b :: G) y := by
  intro x y b hm hs
  by_cases hr : Sq (b :: G) c
  ·exact hno ⟨x, y, b, hm, hs, hr⟩
  ·exact hright ⟨x, y, b, hm, hs, hr⟩
 -- the index: the implications of G, and the two sides of c
 let ι := { t : Fm × Fm × Fm // imp (imp t.1 t.2.1) t.2.2 ∈ G } ⊕ { d : Fm // (∃ e, c = Fm.or d e ∨ c = Fm.or e d) ∧ ¬ Sq G d }
 have hmod : ∀ i : ι, ∃ (M : KM) (w : M.W), (∀ a ∈ G, M.forces w a) ∧ (match i with
   | .inl t => M.forces w t.1.1 ∧ ¬ M.forces w t.1.2.1
   | .inr d => ¬ M.forces w d.1) := by
  intro i
  cases i with
  | inl t =>
   obtain ⟨M, w, hw, hn⟩ := not_sq (hleft _ _ _ t.2)
   exact ⟨M, w, fun a ha => hw a (List.mem_cons_of_mem _ (List.mem_cons_of_mem _ ha)), hw _ (List.mem_cons_self ..), hn⟩
  | inr d =>
   obtain ⟨M, w, hw, hn⟩ := not_sq d.2.2
   exact ⟨M, w, hw, hn⟩
 let M : ι → KM := fun i => Classical.choose (hmod i)
 let r : ∀ i, (M i).W := fun i => Classical.choose (Classical.choose_spec (hmod i))
 have hr : ∀ i, (∀ a ∈ G, (M i).forces (r i) a) ∧ (match i with
   | .inl t => (M i).forces (r i) t.1.1 ∧ ¬ (M i).forces (r i) t.1.2.1
   | .inr d => ¬ (M i).forces (r i) d.1) := fun i => Classical.choose_spec (Classical.choose_spec (hmod i))
 let A : Nat → Prop := fun p => var p ∈ G
 have hA : ∀ i p, A p → (M i).V (r i) p := fun i p hp => (hr i).1 _ hp
 let N := glue M r A hA
 have habove : ∀ i (u : (M i).W), (M i).le (r i) u → ∀ a ∈ G, N.forces (some ⟨i, u⟩) a := fun i u hu a ha =>
  (glue_some M r A hA a i u).2 ((M i).up _ _ _ hu ((hr i).1 a ha))
 have hroot : ∀ a ∈ G, N.forces (none : Option (Σ i, (M i).W)) a := by
  intro a ha
  rcases hF.forms a ha with ⟨p, rfl⟩ | ⟨p, b, rfl, hp⟩ | ⟨b, rfl⟩ | ⟨x, y, b, rfl⟩
  ·exact ha
  ·intro u hu hpu
   cases u with
   | none => exact (hp hpu).elim
   | some u =>
    obtain ⟨i, u⟩ := u
    exact habove i u hu _ ha (some ⟨i, u⟩) (N.refl _) hpu
  ·intro u _ hf; exact hf.elim
  ·intro u hu hxy
   cases u with
   | none =>
    have h1 := (hr (.inl ⟨(x, y, b), ha⟩)).2
    let i0 : ι := .inl ⟨(x, y, b), ha⟩
    have hx := (glue_some M r A hA x i0 (r i0)).2 h1.1
    have hy := hxy (some ⟨i0, r i0⟩) ((M i0).refl _) hx
    exact (h1.2 ((glue_some M r A hA y i0 (r i0)).1 hy)).elim
   | some u =>
    obtain ⟨i, u⟩ := u
    exact habove i u hu _ ha (some ⟨i, u⟩) (N.refl _) hxy
 have hfin := h N none hroot
 rcases hc with ⟨p, rfl, hp⟩ | rfl | ⟨d, e, rfl⟩
 ·exact hp hfin
 ·exact hfin
 ·have hd : ¬ Sq G d := fun hs => hor ⟨d, e, rfl, .inl hs⟩
  have he : ¬ Sq G e := fun hs => hor ⟨d, e, rfl, .inr hs⟩
  rcases hfin with hf | hf
  ·let i0 : ι := .inr ⟨d, ⟨e, .inl rfl⟩, hd⟩
   have := (hr i0).2
   exact this ((glue_some M r A hA d i0 (r i0)).1 (N.up d none (some ⟨i0, r i0⟩) ((M i0).refl _) hf))
  ·let i0 : ι := .inr ⟨e, ⟨d, .inr rfl⟩, he⟩
   have := (hr i0).2
   exact this ((glue_some M r A hA e i0 (r i0)).1 (N.up e none (some ⟨i0, r i0⟩) ((M i0).refl _) hf))
end Go.Proofs.YtfmmajgkjkmghaaGreat
namespace Go.Proofs.YtfmmajgkjkmghaaGreat
open Fm
def inV (V : List Nat) : Fm → Prop
 | .var p => p ∈ V
 | .fls => True
 | .and a b => inV V a ∧ inV V b
 | .or a b => inV V a ∧ inV V b
 | .imp a b => inV V a ∧ inV V b
 | .box _ => True
 | .dia _ => True
theorem bits_of (f : Nat → Prop) : ∀ n, ∃ j, j < 2 ^ n ∧ ∀ k, k < n → (j.testBit k = true ↔ f k)
 | 0 => ⟨0, by simp, fun k h => absurd h (by omega)⟩
 | n + 1 => by
  obtain ⟨j, hj, h⟩ := bits_of f n
  by_cases hf : f n
  ·refine ⟨j + 2 ^ n, by rw [Nat.pow_succ]; omega, fun k hk => ?_⟩
   rw [Nat.add_comm]
   by_cases e : k = n
   ·subst e
    rw [Nat.testBit_two_pow_add_eq, Nat.testBit_lt_two_pow hj]
    simp [hf]
   ·rw [Nat.testBit_two_pow_add_gt (by omega)]
    exact h k (by omega)
  ·refine ⟨j, by rw [Nat.pow_succ]; omega, fun k hk => ?_⟩
   by_cases e : k = n
   ·subst e
    rw [Nat.testBit_lt_two_pow hj]
    simp [hf]
   ·exact h k (by omega)
end Go.Proofs.YtfmmajgkjkmghaaGreat
