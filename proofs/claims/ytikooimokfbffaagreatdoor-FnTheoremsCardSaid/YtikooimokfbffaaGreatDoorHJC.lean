import Derived.Test.YtikooimokfbffaaGreatDoorHBase
import Derived.Test.YtikooimokfbffaaGreatDoorHHE
import Derived.Test.YtikooimokfbffaaGreatDoorHPG
/- Plain mathematics: intuitionistic forcing, and the one step of a decision that is not invertible. No program in sight. -/
namespace Go.Proofs.YtikooimokfbffaaGreatDoor
open Fm
structure KM where
 W : Type
 le : W → W → Prop
 refl : ∀ w, le w w
 trans : ∀ a b c, le a b → le b c → le a c
 V : W → Nat → Prop
 mono : ∀ a b p, le a b → V a p → V b p
namespace KM
def forces (M : KM) : M.W → Fm → Prop
 | w, .var v => M.V w v
 | _, .fls => False
 | w, .and a b => forces M w a ∧ forces M w b
 | w, .or a b => forces M w a ∨ forces M w b
 | w, .imp a b => ∀ u, M.le w u → forces M u a → forces M u b
 | _, .box _ => False
 | _, .dia _ => False
theorem up (M : KM) (a : Fm) : ∀ w u, M.le w u → M.forces w a → M.forces u a := by
 induction a with
 | var v => intro w u h hw; exact M.mono _ _ _ h hw
 | fls => intro w u _ hw; exact hw
 | and a b iha ihb => intro w u h hw; exact ⟨iha _ _ h hw.1, ihb _ _ h hw.2⟩
 | or a b iha ihb => intro w u h hw; exact hw.imp (iha _ _ h) (ihb _ _ h)
 | imp a b _ _ => intro w u h hw x hx; exact hw x (M.trans _ _ _ h hx)
 | box a _ => intro w u _ hw; exact hw
 | dia a _ => intro w u _ hw; exact hw
end KM
def Sq (G : List Fm) (c : Fm) : Prop := ∀ (M : KM) (w : M.W), (∀ a ∈ G, M.forces w a) → M.forces w c
theorem not_sq {G : List Fm} {c : Fm} (h : ¬ Sq G c) : ∃ (M : KM) (w : M.W), (∀ a ∈ G, M.forces w a) ∧ ¬ M.forces w c := by
 unfold Sq at h
 simp only [Classical.not_forall] at h
 obtain ⟨M, w, hg, hc⟩ := h
 exact ⟨M, w, hg, hc⟩
def glue {ι : Type} (M : ι → KM) (r : ∀ i, (M i).W) (A : Nat → Prop) (hA : ∀ i p, A p → (M i).V (r i) p) : KM where
 W := Option (Σ i, (M i).W)
 le := fun x y => match x, y with
  | none, none => True
  | none, some ⟨i, u⟩ => (M i).le (r i) u
  | some _, none => False
  | some ⟨i, u⟩, some ⟨j, v⟩ => ∃ h : i = j, (M j).le (h ▸ u) v
 refl := fun x => by
  cases x with
  | none => trivial
  | some x => obtain ⟨i, u⟩ := x; exact ⟨rfl, (M i).refl u⟩
 trans := fun x y z h k => by
  cases x with
  | none =>
   cases y with
   | none => exact k
   | some y =>
    cases z with
    | none => exact k.elim
    | some z =>
     obtain ⟨i, u⟩ := y; obtain ⟨j, v⟩ := z
     obtain ⟨rfl, k⟩ := k
     exact (M i).trans _ _ _ h k
  | some x =>
   cases y with
   | none => exact h.elim
   | some y =>
    cases z with
    | none => exact k.elim
    | some z =>
     obtain ⟨i, u⟩ := x; obtain ⟨j, v⟩ := y; obtain ⟨l, t⟩ := z
     obtain ⟨rfl, h⟩ := h; obtain ⟨rfl, k⟩ := k
     exact ⟨rfl, (M i).trans _ _ _ h k⟩
 V := fun x p => match x with
  | none => A p
  | some ⟨i, u⟩ => (M i).V u p
 mono := fun x y p h k => by
  cases x with
  | none =>
   cases y with
   | none => exact k
   | some y => obtain ⟨i, u⟩ := y; exact (M i).mono _ _ _ h (hA i p k)
  | some x =>
   cases y with
   | none => exact h.elim
   | some y =>
    obtain ⟨i, u⟩ := x; obtain ⟨j, v⟩ := y
    obtain ⟨rfl, h⟩ := h
    exact (M i).mono _ _ _ h k
theorem glue_some {ι : Type} (M : ι → KM) (r : ∀ i, (M i).W) (A : Nat → Prop) (hA : ∀ i p, A p → (M i).V (r i) p) (a : Fm) :
  ∀ i (u : (M i).W), (glue M r A hA).forces (some ⟨i, u⟩) a ↔ (M i).forces u a := by
 induction a with
 | var v => intro i u; exact Iff.rfl
 | fls => intro i u; exact Iff.rfl
 | and a b iha ihb => intro i u; exact and_congr (iha i u) (ihb i u)
 | or a b iha ihb => intro i u; exact or_congr (iha i u) (ihb i u)
 | imp a b iha ihb =>
  intro i u
  constructor
  ·intro h v hv ha
   exact (ihb i v).1 (h (some ⟨i, v⟩) ⟨rfl, hv⟩ ((iha i v).2 ha))
  ·intro h y hy ha
   cases y with
   | none => exact hy.elim
   | some y =>
    obtain ⟨j, v⟩ := y
    obtain ⟨rfl, hy⟩ := hy
    exact (ihb i v).2 (h v hy ((iha i v).1 ha))
 | box a _ => intro i u; exact Iff.rfl
 | dia a _ => intro i u; exact Iff.rfl
theorem sq_congr {G H : List Fm} {c : Fm} (h : ∀ (M : KM) (w : M.W), (∀ a ∈ G, M.forces w a) ↔ (∀ a ∈ H, M.forces w a)) : Sq G c ↔ Sq H c :=
 ⟨fun k M w hw => k M w ((h M w).2 hw), fun k M w hw => k M w ((h M w).1 hw)⟩
theorem sq_mem {G : List Fm} {c : Fm} (h : c ∈ G) : Sq G c := fun _ _ hw => hw c h
theorem sq_fls {G : List Fm} {c : Fm} (h : fls ∈ G) : Sq G c := fun _ _ hw => (hw fls h).elim
theorem sq_and {G : List Fm} {a b : Fm} : Sq G (and a b) ↔ Sq G a ∧ Sq G b :=
 ⟨fun h => ⟨fun M w hw => (h M w hw).1, fun M w hw => (h M w hw).2⟩, fun h M w hw => ⟨h.1 M w hw, h.2 M w hw⟩⟩
theorem sq_imp {G : List Fm} {a b : Fm} : Sq G (imp a b) ↔ Sq (a :: G) b := by
 constructor
 ·intro h M w hw
  exact h M w (fun x hx => hw x (List.mem_cons_of_mem _ hx)) w (M.refl w) (hw a (List.mem_cons_self ..))
 ·intro h M w hw u hu ha
  refine h M u (fun x hx => ?_)
  rcases List.mem_cons.1 hx with rfl | hx
  ·exact ha
  ·exact M.up _ _ _ hu (hw x hx)
theorem sq_left {G H : List Fm} {c x : Fm} {ys : List Fm} (hG : ∀ a, a ∈ G ↔ a = x ∨ a ∈ H) (h : ∀ (M : KM) (w : M.W), (∀ a ∈ H, M.forces w a) → (M.forces w x ↔ ∀ y ∈ ys, M.forces w y)) : Sq G c ↔ Sq (ys ++ H) c := by
 refine sq_congr fun M w => ⟨fun hw y hy => ?_, fun hw a ha => ?_⟩
 ·rcases List.mem_append.1 hy with hy | hy
  ·exact (h M w (fun a ha => hw a ((hG a).2 (.inr ha)))).1 (hw x ((hG x).2 (.inl rfl))) y hy
  ·exact hw y ((hG y).2 (.inr hy))
 ·rcases (hG a).1 ha with rfl | ha
  ·exact (h M w (fun a ha => hw a (List.mem_append.2 (.inr ha)))).2 fun y hy => hw y (List.mem_append.2 (.inl hy))
  ·exact hw a (List.mem_append.2 (.inr ha))
theorem sq_or_left {G H : List Fm} {c x y : Fm} (hG : ∀ a, a ∈ G ↔ a = or x y ∨ a ∈ H) : Sq G c ↔ Sq (x :: H) c ∧ Sq (y :: H) c := by
 constructor
 ·intro h
  refine ⟨fun M w hw => h M w fun a ha => ?_, fun M w hw => h M w fun a ha => ?_⟩
  ·rcases (hG a).1 ha with rfl | ha
   ·exact .inl (hw x (List.mem_cons_self ..))
   ·exact hw a (List.mem_cons_of_mem _ ha)
  ·rcases (hG a).1 ha with rfl | ha
   ·exact .inr (hw y (List.mem_cons_self ..))
   ·exact hw a (List.mem_cons_of_mem _ ha)
 ·intro h M w hw
  have hH : ∀ a ∈ H, M.forces w a := fun a ha => hw a ((hG a).2 (.inr ha))
  rcases hw (or x y) ((hG _).2 (.inl rfl)) with hx | hy
  ·exact h.1 M w fun a ha => by
    rcases List.mem_cons.1 ha with rfl | ha
    ·exact hx
    ·exact hH a ha
  ·exact h.2 M w fun a ha => by
    rcases List.mem_cons.1 ha with rfl | ha
    ·exact hy
    ·exact hH a ha
theorem forces_impimp (M : KM) (w : M.W) {x y b : Fm} (h : M.forces w (imp y b)) (hx : M.forces w x) : M.forces w (imp (imp x y) b) := by
 intro u hu hxy
 exact h u hu (hxy u (M.refl u) (M.up _ _ _ hu hx))
structure Final (G : List Fm) : Prop where
 nof : fls ∉ G
 forms : ∀ a ∈ G, (∃ p, a = var p) ∨ (∃ p b, a = imp (var p) b ∧ var p ∉ G) ∨ (∃ b, a = imp fls b) ∨ (∃ x y b, a = imp (imp x y) b)
def Way (G : List Fm) (c x y b : Fm) : Prop := Sq (x :: imp y b :: G) y ∧ Sq (b :: G) c
theorem way_sound {G : List Fm} {c x y b : Fm} (hm : imp (imp x y) b ∈ G) (h : Way G c x y b) : Sq G c := by
 intro M w hw
 have hxy : M.forces w (imp x y) := by
  intro u hu hx
  refine h.1 M u fun a ha => ?_
  rcases List.mem_cons.1 ha with rfl | ha
  ·exact hx
  ·rcases List.mem_cons.1 ha with rfl | ha
   ·intro v hv hy
    exact hw _ hm v (M.trans _ _ _ hu hv) fun t ht _ => M.up _ _ _ ht hy
   ·exact M.up _ _ _ hu (hw a ha)
 have hb : M.forces w b := hw _ hm w (M.refl w) hxy
 exact h.2 M w fun a ha => by
  rcases List.mem_cons.1 ha with rfl | ha
  ·exact hb
  ·exact hw a ha
theorem final_complete {G : List Fm} {c : Fm} (hF : Final G) (hc : (∃ p, c = var p ∧ var p ∉ G) ∨ c = fls ∨ (∃ d e, c = Fm.or d e)) (h : Sq G c) :
  (∃ d e, c = Fm.or d e ∧ (Sq G d ∨ Sq G e)) ∨ (∃ x y b, imp (imp x y) b ∈ G ∧ Way G c x y b) := by
 classical
 by_cases hor : ∃ d e, c = Fm.or d e ∧ (Sq G d ∨ Sq G e)
 ·exact .inl hor
 refine .inr (Classical.byContradiction fun hno => ?_)
 -- a countermodel for each implication of an implication: its left premise fails, or the right one does and we are done
 by_cases hright : ∃ x y b, imp (imp x y) b ∈ G ∧ Sq (x :: imp y b :: G) y ∧ ¬ Sq (b :: G) c
 ·obtain ⟨x, y, b, hm, _, hn⟩ := hright
  obtain ⟨M, w, hw, hcw⟩ := not_sq hn
  exact hcw (h M w fun a ha => hw a (List.mem_cons_of_mem _ ha))
 have hleft : ∀ x y b, imp (imp x y) b ∈ G → ¬ Sq (x :: imp y b :: G) y := by
  intro x y b hm hs
  by_cases hr : Sq (b :: G) c
  ·exact hno ⟨x, y, b, hm, hs, hr⟩
  ·exact hright ⟨x, y, b, hm, hs, hr⟩
 -- the index: the implications of G, and the two sides of c
 let ι := { t : Fm × Fm × Fm // imp (imp t.1 t.2.1) t.2.2 ∈ G } ⊕ { d : Fm // (∃ e, c = Fm.or d e ∨ c = Fm.or e d) ∧ ¬ Sq G d }
 have hmod : ∀ i : ι, ∃ (M : KM) (w : M.W), (∀ a ∈ G, M.forces w a) ∧ (match i with
   | .inl t => M.forces w t.1.1 ∧ ¬ M.forces w t.1.2.1
   | .inr d => ¬ M.forces w d.1) := by
  intro i
  cases i with
  | inl t =>
   obtain ⟨M, w, hw, hn⟩ := not_sq (hleft _ _ _ t.2)
   exact ⟨M, w, fun a ha => hw a (List.mem_cons_of_mem _ (List.mem_cons_of_mem _ ha)), hw _ (List.mem_cons_self ..), hn⟩
  | inr d =>
   obtain ⟨M, w, hw, hn⟩ := not_sq d.2.2
   exact ⟨M, w, hw, hn⟩
 let M : ι → KM := fun i => Classical.choose (hmod i)
 let r : ∀ i, (M i).W := fun i => Classical.choose (Classical.choose_spec (hmod i))
 have hr : ∀ i, (∀ a ∈ G, (M i).forces (r i) a) ∧ (match i with
   | .inl t => (M i).forces (r i) t.1.1 ∧ ¬ (M i).forces (r i) t.1.2.1
   | .inr d => ¬ (M i).forces (r i) d.1) := fun i => Classical.choose_spec (Classical.choose_spec (hmod i))
 let A : Nat → Prop := fun p => var p ∈ G
 have hA : ∀ i p, A p → (M i).V (r i) p := fun i p hp => (hr i).1 _ hp
 let N := glue M r A hA
 have habove : ∀ i (u : (M i).W), (M i).le (r i) u → ∀ a ∈ G, N.forces (some ⟨i, u⟩) a := fun i u hu a ha =>
  (glue_some M r A hA a i u).2 ((M i).up _ _ _ hu ((hr i).1 a ha))
 have hroot : ∀ a ∈ G, N.forces (none : Option (Σ i, (M i).W)) a := by
  intro a ha
  rcases hF.forms a ha with ⟨p, rfl⟩ | ⟨p, b, rfl, hp⟩ | ⟨b, rfl⟩ | ⟨x, y, b, rfl⟩
  ·exact ha
  ·intro u hu hpu
   cases u with
   | none => exact (hp hpu).elim
   | some u =>
    obtain ⟨i, u⟩ := u
    exact habove i u hu _ ha (some ⟨i, u⟩) (N.refl _) hpu
  ·intro u _ hf; exact hf.elim
  ·intro u hu hxy
   cases u with
   | none =>
    have h1 := (hr (.inl ⟨(x, y, b), ha⟩)).2
    let i0 : ι := .inl ⟨(x, y, b), ha⟩
    have hx := (glue_some M r A hA x i0 (r i0)).2 h1.1
    have hy := hxy (some ⟨i0, r i0⟩) ((M i0).refl _) hx
    exact (h1.2 ((glue_some M r A hA y i0 (r i0)).1 hy)).elim
   | some u =>
    obtain ⟨i, u⟩ := u
    exact habove i u hu _ ha (some ⟨i, u⟩) (N.refl _) hxy
 have hfin := h N none hroot
 rcases hc with ⟨p, rfl, hp⟩ | rfl | ⟨d, e, rfl⟩
 ·exact hp hfin
 ·exact hfin
 ·have hd : ¬ Sq G d := fun hs => hor ⟨d, e, rfl, .inl hs⟩
  have he : ¬ Sq G e := fun hs => hor ⟨d, e, rfl, .inr hs⟩
  rcases hfin with hf | hf
  ·let i0 : ι := .inr ⟨d, ⟨e, .inl rfl⟩, hd⟩
   have := (hr i0).2
   exact this ((glue_some M r A hA d i0 (r i0)).1 (N.up d none (some ⟨i0, r i0⟩) ((M i0).refl _) hf))
  ·let i0 : ι := .inr ⟨e, ⟨d, .inr rfl⟩, he⟩
   have := (hr i0).2
   exact this ((glue_some M r A hA e i0 (r i0)).1 (N.up e none (some ⟨i0, r i0⟩) ((M i0).refl _) hf))
end Go.Proofs.YtikooimokfbffaaGreatDoor
namespace Go.Proofs.YtikooimokfbffaaGreatDoor
open Fm
def inV (V : List Nat) : Fm → Prop
 | .var p => p ∈ V
 | .fls => True
 | .and a b => inV V a ∧ inV V b
 | .or a b => inV V a ∧ inV V b
 | .imp a b => inV V a ∧ inV V b
 | .box _ => True
 | .dia _ => True
structure BiS (V : List Nat) (M N : KM) (R : M.W → N.W → Prop) : Prop where
 at_ : ∀ u v, R u v → ∀ p ∈ V, (M.V u p ↔ N.V v p)
 on : ∀ u v u', R u v → M.le u u' → ∃ v', N.le v v' ∧ R u' v'
 back : ∀ u v v', R u v → N.le v v' → ∃ u', M.le u u' ∧ R u' v'
theorem BiS.forces {V : List Nat} {M N : KM} {R : M.W → N.W → Prop} (h : BiS V M N R) : ∀ (t : Fm), inV V t → ∀ u v, R u v → (M.forces u t ↔ N.forces v t)
 | .var p, ht, u, v, r => h.at_ u v r p ht
 | .fls, _, _, _, _ => Iff.rfl
 | .and a b, ht, u, v, r => and_congr (h.forces a ht.1 u v r) (h.forces b ht.2 u v r)
 | .or a b, ht, u, v, r => or_congr (h.forces a ht.1 u v r) (h.forces b ht.2 u v r)
 | .imp a b, ht, u, v, r => by
  constructor
  ·intro k v' hv ha
   obtain ⟨u', hu, r'⟩ := h.back u v v' r hv
   exact (h.forces b ht.2 u' v' r').1 (k u' hu ((h.forces a ht.1 u' v' r').2 ha))
  ·intro k u' hu ha
   obtain ⟨v', hv, r'⟩ := h.on u v u' r hu
   exact (h.forces b ht.2 u' v' r').2 (k v' hv ((h.forces a ht.1 u' v' r').1 ha))
 | .box _, _, _, _, _ => Iff.rfl
 | .dia _, _, _, _, _ => Iff.rfl
theorem km_one (V : List Nat) (M N : KM) (x : M.W) (y : N.W) (hx : ∀ u, M.le x u → u = x) (hy : ∀ u, N.le y u → u = y) (hv : ∀ p, M.V x p ↔ N.V y p) (t : Fm) (ht : inV V t) : M.forces x t ↔ N.forces y t := by
 have h : BiS V M N (fun u v => u = x ∧ v = y) := by
  refine ⟨?_, ?_, ?_⟩
  ·rintro u v ⟨rfl, rfl⟩ p _; exact hv p
  ·rintro u v u' ⟨rfl, rfl⟩ h; exact ⟨v, N.refl v, hx _ h, rfl⟩
  ·rintro u v v' ⟨rfl, rfl⟩ h; exact ⟨u, M.refl u, rfl, hy _ h⟩
 exact h.forces t ht x y ⟨rfl, rfl⟩
theorem km_two (V : List Nat) (M N : KM) (x y : M.W) (x' y' : N.W) (hxy : M.le x y) (hx : ∀ u, M.le x u → u = x ∨ u = y) (hy : ∀ u, M.le y u → u = y) (hxy' : N.le x' y') (hx' : ∀ u, N.le x' u → u = x' ∨ u = y') (hy' : ∀ u, N.le y' u → u = y')
  (hv : ∀ p, M.V x p ↔ N.V x' p) (hv' : ∀ p, M.V y p ↔ N.V y' p) (t : Fm) (ht : inV V t) : M.forces x t ↔ N.forces x' t := by
 have h : BiS V M N (fun u v => (u = x ∧ v = x') ∨ (u = y ∧ v = y')) := by
  refine ⟨?_, ?_, ?_⟩
  ·rintro u v (⟨rfl, rfl⟩ | ⟨rfl, rfl⟩) p _
   ·exact hv p
   ·exact hv' p
  ·rintro u v u' (⟨rfl, rfl⟩ | ⟨rfl, rfl⟩) h
   ·rcases hx _ h with rfl | rfl
    ·exact ⟨v, N.refl v, .inl ⟨rfl, rfl⟩⟩
    ·exact ⟨y', hxy', .inr ⟨rfl, rfl⟩⟩
   ·exact ⟨v, N.refl v, .inr ⟨hy _ h, rfl⟩⟩
  ·rintro u v v' (⟨rfl, rfl⟩ | ⟨rfl, rfl⟩) h
   ·rcases hx' _ h with rfl | rfl
    ·exact ⟨u, M.refl u, .inl ⟨rfl, rfl⟩⟩
    ·exact ⟨y, hxy, .inr ⟨rfl, rfl⟩⟩
   ·exact ⟨u, M.refl u, .inr ⟨rfl, hy' _ h⟩⟩
 exact h.forces t ht x x' (.inl ⟨rfl, rfl⟩)
open Classical in
noncomputable def cntV (M : KM) (V : List Nat) (u : M.W) : Nat := (V.filter fun p => decide (M.V u p)).length
theorem cntV_le (M : KM) (V : List Nat) (u : M.W) : cntV M V u ≤ V.length := List.length_filter_le _ _
open Classical in
theorem filter_grow {α : Type} {P Q : α → Prop} : ∀ (l : List α), (∀ x ∈ l, P x → Q x) → (l.filter fun x => decide (P x)).length ≤ (l.filter fun x => decide (Q x)).length ∧
  ((l.filter fun x => decide (P x)).length = (l.filter fun x => decide (Q x)).length → ∀ x ∈ l, Q x → P x)
 | [], _ => ⟨Nat.le_refl _, fun _ x hx => by cases hx⟩
 | a :: l, h => by
  obtain ⟨h1, h2⟩ := filter_grow l (fun x hx => h x (List.mem_cons_of_mem _ hx))
  have ha := h a (List.mem_cons_self ..)
  by_cases hp : P a
  ·have hq := ha hp
   simp only [List.filter_cons, hp, hq, decide_true, if_true, List.length_cons]
   refine ⟨by omega, fun e x hx hQ => ?_⟩
   rcases List.mem_cons.1 hx with rfl | hx
   ·exact hp
   ·exact h2 (by omega) x hx hQ
  ·by_cases hq : Q a
   ·simp only [List.filter_cons, hp, hq, decide_true, decide_false, if_true, List.length_cons]
    refine ⟨by simp; omega, fun e => by simp at e; omega⟩
   ·simp only [List.filter_cons, hp, hq, decide_false]
    refine ⟨by simpa using h1, fun e x hx hQ => ?_⟩
    rcases List.mem_cons.1 hx with rfl | hx
    ·exact absurd hQ hq
    ·exact h2 (by simpa using e) x hx hQ
theorem cntV_mono (M : KM) (V : List Nat) {u v : M.W} (h : M.le u v) : cntV M V u ≤ cntV M V v := by
 unfold cntV
 exact (filter_grow V (fun p _ hp => M.mono _ _ p h hp)).1
theorem cntV_same (M : KM) (V : List Nat) {u v : M.W} (h : M.le u v) (e : cntV M V u = cntV M V v) {p : Nat} (hp : p ∈ V) : M.V u p ↔ M.V v p :=
 ⟨fun k => M.mono _ _ p h k, fun k => (filter_grow V (fun p _ hp => M.mono _ _ p h hp)).2 e p hp k⟩
def NearTo (S : Nat → Prop) (i s : Nat) : Prop := S s ∧ ((i ≤ s ∧ ∀ r, S r → i ≤ r → s ≤ r) ∨ (s < i ∧ ∀ r, S r → r ≤ s))
theorem least_of {S : Nat → Prop} : ∀ n, S n → ∃ s, S s ∧ ∀ r, S r → s ≤ r := by
 intro n
 induction n using Nat.strongRecOn with
 | ind n ih =>
  intro h
  by_cases hx : ∃ m, m < n ∧ S m
  ·obtain ⟨m, hm, hs⟩ := hx
   exact ih m hm hs
  ·exact ⟨n, h, fun r hr => by
    by_cases hl : n ≤ r
    ·exact hl
    ·exact absurd ⟨r, by omega, hr⟩ hx⟩
theorem most_of {S : Nat → Prop} (B : Nat) (hB : ∀ r, S r → r ≤ B) {n : Nat} (hn : S n) : ∃ s, S s ∧ ∀ r, S r → r ≤ s := by
 obtain ⟨d, ⟨s, hs, hd⟩, h2⟩ := least_of (S := fun d => ∃ s, S s ∧ d = B - s) (B - n) ⟨n, hn, rfl⟩
 refine ⟨s, hs, fun r hr => ?_⟩
 have h3 := h2 (B - r) ⟨r, hr, rfl⟩
 have h4 := hB r hr
 have h5 := hB s hs
 omega
theorem near_ex {S : Nat → Prop} (B : Nat) (hB : ∀ r, S r → r ≤ B) {n : Nat} (hn : S n) (i : Nat) : ∃ s, NearTo S i s := by
 by_cases h : ∃ r, S r ∧ i ≤ r
 ·obtain ⟨r, hr, hir⟩ := h
  obtain ⟨s, ⟨hs, his⟩, h2⟩ := least_of (S := fun r => S r ∧ i ≤ r) r ⟨hr, hir⟩
  exact ⟨s, hs, .inl ⟨his, fun r hr hi => h2 r ⟨hr, hi⟩⟩⟩
 ·obtain ⟨s, hs, h2⟩ := most_of B hB hn
  exact ⟨s, hs, .inr ⟨by
   by_cases hl : s < i
   ·exact hl
   ·exact absurd ⟨s, hs, by omega⟩ h, h2⟩⟩
theorem near_self {S : Nat → Prop} {s : Nat} (h : S s) : NearTo S s s := ⟨h, .inl ⟨Nat.le_refl _, fun _ _ h => h⟩⟩
theorem near_one {S : Nat → Prop} {i s r : Nat} (h : NearTo S i s) (k : NearTo S i r) : s = r := by
 obtain ⟨hs, h⟩ := h
 obtain ⟨hr, k⟩ := k
 rcases h with ⟨h1, h2⟩ | ⟨h1, h2⟩ <;> rcases k with ⟨k1, k2⟩ | ⟨k1, k2⟩
 ·have := h2 r hr k1; have := k2 s hs h1; omega
 ·have := k2 s hs; omega
 ·have := h2 r hr; omega
 ·have := h2 r hr; have := k2 s hs; omega
theorem near_mono {S : Nat → Prop} {i j s r : Nat} (hij : i ≤ j) (h : NearTo S i s) (k : NearTo S j r) : s ≤ r := by
 obtain ⟨hs, h⟩ := h
 obtain ⟨hr, k⟩ := k
 rcases h with ⟨h1, h2⟩ | ⟨h1, h2⟩ <;> rcases k with ⟨k1, k2⟩ | ⟨k1, k2⟩
 ·exact h2 r hr (by omega)
 ·exact k2 s hs
 ·have := h2 r hr; omega
 ·exact k2 s hs
theorem km_chain (V : List Nat) (M : KM) (x : M.W) (hlin : ∀ u v, M.le x u → M.le x v → M.le u v ∨ M.le v u) (N : KM) (f : N.W → Nat) (hf : ∀ i j, N.le i j ↔ f i ≤ f j) (hfs : ∀ n, n ≤ V.length → ∃ i, f i = n)
  (hV : ∀ i p, p ∈ V → (N.V i p ↔ ∃ u, M.le x u ∧ NearTo (fun s => ∃ u, M.le x u ∧ cntV M V u = s) (f i) (cntV M V u) ∧ M.V u p)) (t : Fm) (ht : inV V t) : ∃ i, (M.forces x t ↔ N.forces i t) := by
 let S : Nat → Prop := fun s => ∃ u, M.le x u ∧ cntV M V u = s
 have hS : ∀ u, M.le x u → S (cntV M V u) := fun u h => ⟨u, h, rfl⟩
 have hB : ∀ r, S r → r ≤ V.length := by rintro r ⟨u, _, rfl⟩; exact cntV_le M V u
 have hsame : ∀ u v, M.le x u → M.le x v → cntV M V u = cntV M V v → ∀ p ∈ V, (M.V u p ↔ M.V v p) := by
  intro u v hu hv e p hp
  rcases hlin u v hu hv with h | h
  ·exact cntV_same M V h e hp
  ·exact (cntV_same M V h e.symm hp).symm
 have h : BiS V M N (fun u i => M.le x u ∧ NearTo S (f i) (cntV M V u)) := by
  refine ⟨?_, ?_, ?_⟩
  ·rintro u i ⟨hu, hn⟩ p hp
   rw [hV i p hp]
   constructor
   ·exact fun k => ⟨u, hu, hn, k⟩
   ·rintro ⟨v, hv, hn', k⟩
    exact (hsame u v hu hv (near_one hn hn') p hp).2 k
  ·rintro u i u' ⟨hu, hn⟩ hle
   have hu' := M.trans _ _ _ hu hle
   have hc := cntV_mono M V hle
   by_cases hi : f i ≤ cntV M V u'
   ·obtain ⟨j, hj⟩ := hfs (cntV M V u') (cntV_le M V u')
    refine ⟨j, (hf i j).2 (by omega), hu', ?_⟩
    rw [hj]
    exact near_self (hS u' hu')
   ·refine ⟨i, N.refl i, hu', ?_⟩
    have h2 : cntV M V u' = cntV M V u := by
     rcases hn.2 with ⟨h1, _⟩ | ⟨_, h2⟩
     ·omega
     ·have := h2 _ (hS u' hu'); omega
    rw [h2]; exact hn
  ·rintro u i j ⟨hu, hn⟩ hle
   obtain ⟨s, hs⟩ := near_ex V.length hB (hS u hu) (f j)
   have hm := near_mono ((hf i j).1 hle) hn hs
   obtain ⟨v, hv, hvs⟩ := hs.1
   by_cases e : cntV M V u = s
   ·exact ⟨u, M.refl u, hu, by rw [e]; exact hs⟩
   ·rcases hlin u v hu hv with h | h
    ·exact ⟨v, h, hv, by rw [hvs]; exact hs⟩
    ·have := cntV_mono M V h; omega
 obtain ⟨i, hi⟩ := hfs (cntV M V x) (cntV_le M V x)
 refine ⟨i, h.forces t ht x i ⟨M.refl x, ?_⟩⟩
 rw [hi]
 exact near_self (hS x (M.refl x))
theorem bits_of (f : Nat → Prop) : ∀ n, ∃ j, j < 2 ^ n ∧ ∀ k, k < n → (j.testBit k = true ↔ f k)
 | 0 => ⟨0, by simp, fun k h => absurd h (by omega)⟩
 | n + 1 => by
  obtain ⟨j, hj, h⟩ := bits_of f n
  by_cases hf : f n
  ·refine ⟨j + 2 ^ n, by rw [Nat.pow_succ]; omega, fun k hk => ?_⟩
   rw [Nat.add_comm]
   by_cases e : k = n
   ·subst e
    rw [Nat.testBit_two_pow_add_eq, Nat.testBit_lt_two_pow hj]
    simp [hf]
   ·rw [Nat.testBit_two_pow_add_gt (by omega)]
    exact h k (by omega)
  ·refine ⟨j, by rw [Nat.pow_succ]; omega, fun k hk => ?_⟩
   by_cases e : k = n
   ·subst e
    rw [Nat.testBit_lt_two_pow hj]
    simp [hf]
   ·exact h k (by omega)
def TyV (M : KM) (V : List Nat) (u : M.W) (j : Nat) : Prop := ∀ k (h : k < V.length), (j.testBit k = true ↔ M.V u V[k])
theorem tyV_ex (M : KM) (V : List Nat) (u : M.W) : ∃ j, j < 2 ^ V.length ∧ TyV M V u j := by
 obtain ⟨j, hj, h⟩ := bits_of (fun k => ∃ h : k < V.length, M.V u V[k]) V.length
 refine ⟨j, hj, fun k hk => (h k hk).trans ⟨fun ⟨_, h⟩ => h, fun h => ⟨hk, h⟩⟩⟩
theorem tyV_same {M : KM} {V : List Nat} {u v : M.W} {j : Nat} (h : TyV M V u j) (k : TyV M V v j) : ∀ p ∈ V, (M.V u p ↔ M.V v p) := by
 intro p hp
 obtain ⟨i, hi, rfl⟩ := List.getElem_of_mem hp
 exact (h i hi).symm.trans (k i hi)
def MaxM (M : KM) (u : M.W) : Prop := ∀ v, M.le u v → v = u
theorem prong_ex (M : KM) (V : List Nat) (x : M.W) (hm : ∃ u, M.le x u ∧ MaxM M u) : ∃ g : Nat → M.W, ∀ j, M.le x (g j) ∧ MaxM M (g j) ∧ ((∃ u, M.le x u ∧ MaxM M u ∧ TyV M V u j) → TyV M V (g j) j) := by
 have : ∀ j, ∃ u, M.le x u ∧ MaxM M u ∧ ((∃ u, M.le x u ∧ MaxM M u ∧ TyV M V u j) → TyV M V u j) := by
  intro j
  by_cases h : ∃ u, M.le x u ∧ MaxM M u ∧ TyV M V u j
  ·obtain ⟨u, h1, h2, h3⟩ := h
   exact ⟨u, h1, h2, fun _ => h3⟩
  ·obtain ⟨u, h1, h2⟩ := hm
   exact ⟨u, h1, h2, fun k => absurd k h⟩
 exact ⟨fun j => Classical.choose (this j), fun j => Classical.choose_spec (this j)⟩
theorem km_fork (V : List Nat) (M : KM) (x : M.W) (hd : ∀ u, M.le x u → u = x ∨ MaxM M u) (g : Nat → M.W) (hg : ∀ j, M.le x (g j) ∧ MaxM M (g j) ∧ ((∃ u, M.le x u ∧ MaxM M u ∧ TyV M V u j) → TyV M V (g j) j))
  (N : KM) (r : N.W) (pr : Nat → N.W) (hr : ∀ v, N.le r v → v = r ∨ ∃ j, j < 2 ^ V.length ∧ v = pr j) (hrp : ∀ j, j < 2 ^ V.length → N.le r (pr j)) (hp : ∀ j, j < 2 ^ V.length → MaxM N (pr j))
  (hvr : ∀ p ∈ V, (M.V x p ↔ N.V r p)) (hvp : ∀ j, j < 2 ^ V.length → ∀ p ∈ V, (M.V (g j) p ↔ N.V (pr j) p)) (t : Fm) (ht : inV V t) : M.forces x t ↔ N.forces r t := by
 have h : BiS V M N (fun u v => (u = x ∧ v = r) ∨ (M.le x u ∧ MaxM M u ∧ ∃ j, j < 2 ^ V.length ∧ v = pr j ∧ ∀ p ∈ V, (M.V u p ↔ M.V (g j) p))) := by
  refine ⟨?_, ?_, ?_⟩
  ·rintro u v (⟨rfl, rfl⟩ | ⟨_, _, j, hj, rfl, hv⟩) p hp
   ·exact hvr p hp
   ·exact (hv p hp).trans (hvp j hj p hp)
  ·rintro u v u' (⟨rfl, rfl⟩ | ⟨hu, hm, j, hj, rfl, hv⟩) hle
   ·rcases hd u' hle with rfl | hm'
    ·exact ⟨v, N.refl v, .inl ⟨rfl, rfl⟩⟩
    ·obtain ⟨j, hj, hty⟩ := tyV_ex M V u'
     exact ⟨pr j, hrp j hj, .inr ⟨hle, hm', j, hj, rfl, tyV_same hty ((hg j).2.2 ⟨u', hle, hm', hty⟩)⟩⟩
   ·obtain rfl := hm u' hle
    exact ⟨pr j, N.refl _, .inr ⟨hu, hm, j, hj, rfl, hv⟩⟩
  ·rintro u v v' (⟨rfl, rfl⟩ | ⟨hu, hm, j, hj, rfl, hv⟩) hle
   ·rcases hr v' hle with rfl | ⟨j, hj, rfl⟩
    ·exact ⟨u, M.refl u, .inl ⟨rfl, rfl⟩⟩
    ·exact ⟨g j, (hg j).1, .inr ⟨(hg j).1, (hg j).2.1, j, hj, rfl, fun _ _ => Iff.rfl⟩⟩
   ·obtain rfl := hp j hj v' hle
    exact ⟨u, M.refl u, .inr ⟨hu, hm, j, hj, rfl, hv⟩⟩
 exact h.forces t ht x r (.inl ⟨rfl, rfl⟩)
theorem km_weak (M : KM) (x : M.W) (m : M.W) (hx : ∀ u, M.le x u → M.le u m) (p : Nat) : M.forces x (Fm.or (Fm.not (.var p)) (Fm.not (Fm.not (.var p)))) := by
 by_cases h : M.V m p
 ·right
  intro u hu hn
  have := hn m (hx u hu) h
  exact this.elim
 ·left
  intro u hu hv
  exact absurd (M.mono _ _ p (hx u hu) hv) h
end Go.Proofs.YtikooimokfbffaaGreatDoor
namespace Go.Proofs.YtikooimokfbffaaGreatDoor
def kmA (b : List Nat) (hp : Pos b) (A : Nat → Nat → Prop) (hA : ∀ x y p, x < b.length → (b.getD x 0).testBit y = true → A x p → A y p) : KM where
 W := { x : Nat // x < b.length }
 le x y := (b.getD x.1 0).testBit y.1 = true
 refl x := refl_of hp.2.2.1 x.2
 trans a _ _ h1 h2 := trans_of hp.2.1 hp.2.2.2.1 a.2 h1 h2
 V x p := A x.1 p
 mono a c p h1 h2 := hA a.1 c.1 p a.2 h1 h2
theorem boxB_bit (b : List Nat) (m : Nat) : ∀ i x, (boxB b m i).testBit x = (decide (x < i) && inB (b.getD x 0) m)
 | 0, x => by simp [boxB]
 | i + 1, x => by
  have ih := boxB_bit b m i x
  unfold boxB
  by_cases e : x = i
  ·subst e
   split
   ·next h => rw [Nat.testBit_or, ih, Nat.testBit_two_pow, h, decide_eq_true rfl, decide_eq_true (by omega : x < x + 1), Bool.or_true]; rfl
   ·next h => rw [ih, Bool.eq_false_iff.2 h, Bool.and_false, Bool.and_false]
  ·have h1 : decide (x < i + 1) = decide (x < i) := by
    by_cases h : x < i
    ·rw [decide_eq_true h, decide_eq_true (by omega)]
    ·rw [decide_eq_false h, decide_eq_false (by omega)]
   rw [h1, ← ih]
   split
   ·rw [Nat.testBit_or, Nat.testBit_two_pow, decide_eq_false (Ne.symm e), Bool.or_false]
   ·rfl
theorem full_bit (n x : Nat) : (2 ^ n - 1).testBit x = decide (x < n) := Nat.testBit_two_pow_sub_one n x
theorem frc_km (b : List Nat) (hp : Pos b) (A : Nat → Nat → Prop) (hA) (V vs : List Nat) (hvs : Bnd b.length vs) (hv : ∀ p ∈ V, ∀ x, x < b.length → ((vs.getD p 0).testBit x = true ↔ A x p)) :
  ∀ (t : Fm), inV V t → ∀ (x : Nat) (hx : x < b.length), ((kmA b hp A hA).forces ⟨x, hx⟩ t ↔ (frcP b vs t).testBit x = true)
 | .var p, ht, x, hx => (hv p ht x hx).symm
 | .fls, _, x, hx => by simp [KM.forces, frcP]
 | .and s t, ht, x, hx => by
  have h1 := frc_km b hp A hA V vs hvs hv s ht.1 x hx
  have h2 := frc_km b hp A hA V vs hvs hv t ht.2 x hx
  rw [frcP, Nat.testBit_and, Bool.and_eq_true, ← h1, ← h2]; rfl
 | .or s t, ht, x, hx => by
  have h1 := frc_km b hp A hA V vs hvs hv s ht.1 x hx
  have h2 := frc_km b hp A hA V vs hvs hv t ht.2 x hx
  rw [frcP, Nat.testBit_or, Bool.or_eq_true, ← h1, ← h2]; rfl
 | .imp s t, ht, x, hx => by
  rw [frcP, impB, boxB_bit, decide_eq_true hx, Bool.true_and, inB_iff]
  constructor
  ·intro h y hy
   have hyl := bit_lt hp.2.1 hy
   have h1 := frc_km b hp A hA V vs hvs hv s ht.1 y hyl
   have h2 := frc_km b hp A hA V vs hvs hv t ht.2 y hyl
   rw [Nat.testBit_or, Nat.testBit_xor, Nat.testBit_and, full_bit, decide_eq_true hyl, Bool.true_and]
   cases hs : (frcP b vs s).testBit y
   ·rfl
   ·have := h2.1 (h ⟨y, hyl⟩ hy (h1.2 hs))
    rw [this]; rfl
  ·rintro h ⟨y, hyl⟩ hy hs
   have h1 := frc_km b hp A hA V vs hvs hv s ht.1 y hyl
   have h2 := frc_km b hp A hA V vs hvs hv t ht.2 y hyl
   have h3 := h y hy
   rw [Nat.testBit_or, Nat.testBit_xor, Nat.testBit_and, full_bit, decide_eq_true hyl, Bool.true_and, h1.1 hs] at h3
   exact h2.2 (by simpa using h3)
 | .box s, _, x, hx => by simp [KM.forces, frcP]
 | .dia s, _, x, hx => by simp [KM.forces, frcP]
theorem vm_fold_bit : ∀ (a : List Nd) (m i : Nat), (a.foldl (fun m n => if n.k = 0 then m ||| 2 ^ n.s.toNat else m) m).testBit i = true ↔ m.testBit i = true ∨ ∃ n ∈ a, n.k = 0 ∧ n.s.toNat = i
 | [], m, i => by simp
 | n :: a, m, i => by
  rw [List.foldl_cons, vm_fold_bit a _ i]
  by_cases h : n.k = 0
  ·rw [if_pos h, Nat.testBit_or, Bool.or_eq_true, Nat.testBit_two_pow, decide_eq_true_eq]
   constructor
   ·rintro ((h1 | h1) | ⟨n', h1, h2⟩)
    ·exact .inl h1
    ·exact .inr ⟨n, by simp, h, h1⟩
    ·exact .inr ⟨n', by simp [h1], h2⟩
   ·rintro (h1 | ⟨n', h1, h2, h3⟩)
    ·exact .inl (.inl h1)
    ·rcases List.mem_cons.1 h1 with rfl | h1
     ·exact .inl (.inr h3)
     ·exact .inr ⟨n', h1, h2, h3⟩
  ·rw [if_neg h]
   constructor
   ·rintro (h1 | ⟨n', h1, h2⟩)
    ·exact .inl h1
    ·exact .inr ⟨n', by simp [h1], h2⟩
   ·rintro (h1 | ⟨n', h1, h2, h3⟩)
    ·exact .inl h1
    ·rcases List.mem_cons.1 h1 with rfl | h1
     ·exact absurd h2 h
     ·exact .inr ⟨n', h1, h2, h3⟩
theorem vm_bit (a : List Nd) (i : Nat) : (vm a).testBit i = true ↔ ∃ n ∈ a, n.k = 0 ∧ n.s.toNat = i := by
 unfold vm
 rw [vm_fold_bit]
 simp
theorem inV_of (V : List Nat) : ∀ t : Fm, (∀ n ∈ t.enc, n.k = 0 → n.s.toNat ∈ V) → inV V t
 | .var p, h => by
  have h1 := h ⟨0, p⟩ (by simp [Fm.enc]) rfl
  exact h1
 | .fls, _ => trivial
 | .and a b, h => ⟨inV_of V a fun n hn => h n (by simp [Fm.enc, hn]), inV_of V b fun n hn => h n (by simp [Fm.enc, hn])⟩
 | .or a b, h => ⟨inV_of V a fun n hn => h n (by simp [Fm.enc, hn]), inV_of V b fun n hn => h n (by simp [Fm.enc, hn])⟩
 | .imp a b, h => ⟨inV_of V a fun n hn => h n (by simp [Fm.enc, hn]), inV_of V b fun n hn => h n (by simp [Fm.enc, hn])⟩
 | .box _, _ => trivial
 | .dia _, _ => trivial
theorem inV_varL {t : Fm} (hw : t.wf) : inV (varL t) t := by
 refine inV_of _ t fun n hn hk => ?_
 have ho := okNd_enc hw n hn
 unfold okNd at ho
 rw [if_pos hk, decide_eq_true_eq] at ho
 unfold varL lowB
 rw [List.mem_filter]
 exact ⟨by rw [List.mem_range]; omega, (vm_bit _ _).2 ⟨n, hn, hk, rfl⟩⟩
theorem vldL_iff {P : List Nat → Bool} {U : List Nat} : ∀ {V vs0 : List Nat}, (∀ v ∈ V, v < vs0.length) → (vldL P U V vs0 = true ↔ ∀ vs, Off6 V vs vs0 → (∀ j ∈ V, vs.getD j 0 ∈ U) → P vs = true)
 | [], vs0, _ => by
  constructor
  ·intro h vs ho _
   rw [ho.nil]; exact h
  ·intro h
   exact h vs0 (Off6.refl _ _) (fun j hj => by cases hj)
 | v :: V, vs0, hl => by
  have hv : v < vs0.length := hl v (by simp)
  unfold vldL
  rw [List.all_eq_true]
  constructor
  ·intro h vs ho hU
   have h1 := h _ (hU v (by simp))
   rw [vldL_iff (fun j hj => by rw [List.length_set]; exact hl j (by simp [hj]))] at h1
   refine h1 vs ⟨by rw [List.length_set]; exact ho.1, fun j hj => ?_⟩ (fun j hj => hU j (by simp [hj]))
   by_cases e : v = j
   ·subst e
    simp [List.getD_eq_getElem?_getD, hv]
   ·rw [ho.2 j (by simp; exact ⟨Ne.symm e, hj⟩)]
    simp only [List.getD_eq_getElem?_getD, List.getElem?_set_ne e]
  ·intro h u hu
   rw [vldL_iff (fun j hj => by rw [List.length_set]; exact hl j (by simp [hj]))]
   intro vs ho hU
   refine h vs ((ho.mono (fun x hx => by simp [hx])).trans (off_set V vs0 v u).symm) (fun j hj => ?_)
   rcases List.mem_cons.1 hj with rfl | hj
   ·by_cases hm : j ∈ V
    ·exact hU j hm
    ·rw [ho.2 j hm]
     have : (vs0.set j u).getD j 0 = u := by simp [List.getD_eq_getElem?_getD, hv]
     rw [this]; exact hu
   ·exact hU j hj
theorem vldR_iff (b : List Nat) (t : Fm) : vldR b t = true ↔ ∀ vs, Off6 (varL t) vs (List.replicate 6 0) → (∀ j ∈ varL t, vs.getD j 0 ∈ upL b) → frcP b vs t = 2 ^ b.length - 1 := by
 have h1 := vld_eq (P := fun vs => frcP b vs t == 2 ^ b.length - 1) (U := upL b) (V := varL t) (upL_pos b) (varL_nodup t)
 have h2 : vldR b t = true ↔ ∀ N, N < (upL b).length ^ (varL t).length → (frcP b (numL (upL b) (varL t) N) t == 2 ^ b.length - 1) = true := by
  unfold vldR okV
  rw [List.all_eq_true]
  exact ⟨fun h N hN => h N (by simpa using hN), fun h N hN => h N (by simpa using hN)⟩
 rw [h2, ← h1, vldL_iff (fun v hv => by simpa using varL_lt hv)]
 simp only [beq_iff_eq]
theorem isUp_iff {b : List Nat} {m : Nat} (hr : reflB b = true) (hm : m < 2 ^ b.length) : isUp b m = true ↔ ∀ x y, x < b.length → m.testBit x = true → (b.getD x 0).testBit y = true → m.testBit y = true := by
 unfold isUp
 rw [beq_iff_eq]
 constructor
 ·intro h x y hx hmx hy
  rw [← h]
  exact (imgL_bit b m b.length y).2 ⟨x, hx, hmx, hy⟩
 ·intro h
  apply Nat.eq_of_testBit_eq
  intro y
  rw [Bool.eq_iff_iff]
  constructor
  ·intro hy
   obtain ⟨x, hx, hmx, hxy⟩ := (imgL_bit b m b.length y).1 hy
   exact h x y hx hmx hxy
  ·intro hy
   have hyl : y < b.length := by
    by_cases hl : y < b.length
    ·exact hl
    ·rw [Nat.testBit_lt_two_pow (Nat.lt_of_lt_of_le hm (Nat.pow_le_pow_right (by omega) (by omega)))] at hy; cases hy
   exact (imgL_bit b m b.length y).2 ⟨y, hyl, hy, refl_of hr hyl⟩
theorem mem_upL {b : List Nat} (hr : reflB b = true) {m : Nat} : m ∈ upL b ↔ m < 2 ^ b.length ∧ ∀ x y, x < b.length → m.testBit x = true → (b.getD x 0).testBit y = true → m.testBit y = true := by
 unfold upL upK
 rw [List.mem_filter, List.mem_range]
 constructor
 ·rintro ⟨h1, h2⟩; exact ⟨h1, (isUp_iff hr h1).1 h2⟩
 ·rintro ⟨h1, h2⟩; exact ⟨h1, (isUp_iff hr h1).2 h2⟩
theorem zeros_get (n j : Nat) : (List.replicate n 0).getD j 0 = 0 := by rw [List.getD_eq_getElem?_getD, List.getElem?_replicate]; split <;> rfl
theorem vld_km (b : List Nat) (hp : Pos b) (t : Fm) (hw : t.wf) : vldR b t = true ↔ ∀ A hA x hx, (kmA b hp A hA).forces ⟨x, hx⟩ t := by
 rw [vldR_iff]
 constructor
 ·intro h A hA x hx
  have hm : ∀ p, ∃ m, m < 2 ^ b.length ∧ ∀ k, k < b.length → (m.testBit k = true ↔ A k p) := fun p => bits_of (fun x => A x p) b.length
  let M : Nat → Nat := fun p => Classical.choose (hm p)
  have hM : ∀ p, M p < 2 ^ b.length ∧ ∀ k, k < b.length → ((M p).testBit k = true ↔ A k p) := fun p => Classical.choose_spec (hm p)
  let vs : List Nat := (List.range 6).map fun p => if p ∈ varL t then M p else 0
  have hg : ∀ p, p ∈ varL t → vs.getD p 0 = M p := fun p hp => by
   have h6 := varL_lt hp
   simp [vs, List.getD_eq_getElem?_getD, h6, hp]
  have hg0 : ∀ p, p ∉ varL t → vs.getD p 0 = 0 := fun p hp => by
   by_cases h6 : p < 6
   ·simp [vs, List.getD_eq_getElem?_getD, h6, hp]
   ·simp [vs, List.getD_eq_getElem?_getD, h6]
  have hf := h vs ⟨by simp [vs], fun j hj => by rw [hg0 j hj, zeros_get]⟩ (fun j hj => by
   rw [hg j hj, mem_upL hp.2.2.1]
   refine ⟨(hM j).1, fun x y hx hmx hxy => ?_⟩
   have hy := bit_lt hp.2.1 hxy
   exact ((hM j).2 y hy).2 (hA x y j hx hxy (((hM j).2 x hx).1 hmx)))
  rw [frc_km b hp A hA (varL t) vs (fun i => by
   by_cases hi : i ∈ varL t
   ·rw [hg i hi]; exact (hM i).1
   ·rw [hg0 i hi]; exact Nat.two_pow_pos _) (fun p hpv x hx => by rw [hg p hpv]; exact (hM p).2 x hx) t (inV_varL hw) x hx, hf, full_bit, decide_eq_true hx]
 ·intro h vs ho hU
  have hb : Bnd b.length vs := fun i => by
   by_cases hi : i ∈ varL t
   ·exact ((mem_upL hp.2.2.1).1 (hU i hi)).1
   ·rw [ho.2 i hi, zeros_get]; exact Nat.two_pow_pos _
  have hA : ∀ x y p, x < b.length → (b.getD x 0).testBit y = true → (vs.getD p 0).testBit x = true → (vs.getD p 0).testBit y = true := by
   intro x y p hx hxy hv
   by_cases hi : p ∈ varL t
   ·exact ((mem_upL hp.2.2.1).1 (hU p hi)).2 x y hx hv hxy
   ·rw [ho.2 p hi, zeros_get] at hv; simp at hv
  apply Nat.eq_of_testBit_eq
  intro x
  rw [full_bit]
  by_cases hx : x < b.length
  ·rw [decide_eq_true hx]
   exact (frc_km b hp (fun x p => (vs.getD p 0).testBit x = true) hA (varL t) vs hb (fun p _ x _ => Iff.rfl) t (inV_varL hw) x hx).1 (h _ hA x hx)
  ·rw [decide_eq_false hx]
   exact Nat.testBit_lt_two_pow (Nat.lt_of_lt_of_le (frcP_lt hb t) (Nat.pow_le_pow_right (by omega) (by omega)))
theorem sq_vld {t : Fm} (h : Sq [] t) (b : List Nat) (hp : Pos b) (hw : t.wf) : vldR b t = true :=
 (vld_km b hp t hw).2 fun A hA x hx => h (kmA b hp A hA) ⟨x, hx⟩ (fun a ha => by cases ha)
end Go.Proofs.YtikooimokfbffaaGreatDoor
