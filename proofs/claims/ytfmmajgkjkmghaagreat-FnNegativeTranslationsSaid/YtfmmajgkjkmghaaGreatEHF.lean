import Derived.Test.YtfmmajgkjkmghaaGreatEOQ
import Derived.Test.YtfmmajgkjkmghaaGreatEKS
import Derived.Test.YtfmmajgkjkmghaaGreatEKP
import Derived.Test.YtfmmajgkjkmghaaGreatEQI
import Derived.Test.YtfmmajgkjkmghaaGreatEQN
import Derived.Test.YtfmmajgkjkmghaaGreatEK3
import Derived.Test.YtfmmajgkjkmghaaGreatEK8
import Derived.Deep.CutBlock
import Derived.Deep.DeepCutAuto
import Derived.Test.YtfmmajgkjkmghaaGreatEJB
import Derived.Test.YtfmmajgkjkmghaaGreatEK1
import Derived.Test.YtfmmajgkjkmghaaGreatETU
import Derived.RangeFuncNested
import Derived.RangeFuncBound
import Derived.RangeFuncCalls
import Derived.RangeFuncLeaves
import Derived.Shelf.Abstract
import Derived.Shelf.RegionOpen
import Derived.WalkKit
import Derived.OwnWalkIn
import Derived.TacticsInMore
import Derived.LoopIn
/- FnBoxTranslations: a plain formula is forced where its box translation is true in the model of the order, and the skeleton of a model forces it at the clusters where it is true. -/
namespace Go.Proofs.YtfmmajgkjkmghaaGreat
open Go.RowKit
end Go.Proofs.YtfmmajgkjkmghaaGreat
namespace Go.Proofs.YtfmmajgkjkmghaaGreat
open Fm
theorem fc_not (M : KM) (w : M.W) (a : Fm) : M.forces w a.not ↔ ∀ u, M.le w u → ¬ M.forces u a := Iff.rfl
theorem fc_nn (M : KM) (w : M.W) (a : Fm) : M.forces w a.not.not ↔ ∀ u, M.le w u → ∃ v, M.le u v ∧ M.forces v a := by
 rw [fc_not]
 constructor
 ·intro h u hu
  have h1 := h u hu
  rw [fc_not] at h1
  simp only [Classical.not_forall, Classical.not_not] at h1
  obtain ⟨v, h2, h3⟩ := h1
  exact ⟨v, h2, h3⟩
 ·intro h u hu hn
  obtain ⟨v, h1, h2⟩ := h u hu
  exact hn v h1 h2
theorem nn_up (M : KM) (w : M.W) {a : Fm} (h : M.forces w a) : M.forces w a.not.not := (fc_nn M w a).2 fun u hu => ⟨u, M.refl u, M.up a _ _ hu h⟩
theorem nn_congr (M : KM) {a b : Fm} (h : ∀ w, M.forces w a ↔ M.forces w b) (w : M.W) : M.forces w a.not.not ↔ M.forces w b.not.not := by
 rw [fc_nn, fc_nn]
 exact forall_congr' fun u => forall_congr' fun _ => exists_congr fun v => and_congr_right fun _ => h v
theorem nn_four (M : KM) (w : M.W) (a : Fm) : M.forces w a.not.not.not.not ↔ M.forces w a.not.not := by
 constructor
 ·intro h
  rw [fc_nn] at *
  intro u hu
  obtain ⟨v, h1, h2⟩ := h u hu
  obtain ⟨x, h3, h4⟩ := (fc_nn M v a).1 h2 v (M.refl v)
  exact ⟨x, M.trans _ _ _ h1 h3, h4⟩
 ·exact nn_up M w
theorem nn_and (M : KM) (w : M.W) (a b : Fm) : M.forces w (Fm.and a b).not.not ↔ M.forces w a.not.not ∧ M.forces w b.not.not := by
 rw [fc_nn, fc_nn, fc_nn]
 constructor
 ·intro h
  exact ⟨fun u hu => by obtain ⟨v, h1, h2⟩ := h u hu; exact ⟨v, h1, h2.1⟩, fun u hu => by obtain ⟨v, h1, h2⟩ := h u hu; exact ⟨v, h1, h2.2⟩⟩
 ·rintro ⟨h, k⟩ u hu
  obtain ⟨v, h1, h2⟩ := h u hu
  obtain ⟨x, h3, h4⟩ := k v (M.trans _ _ _ hu h1)
  exact ⟨x, M.trans _ _ _ h1 h3, M.up a _ _ h3 h2, h4⟩
theorem nn_imp (M : KM) (w : M.W) (a b : Fm) : M.forces w (Fm.imp a b).not.not ↔ ∀ u, M.le w u → M.forces u a.not.not → M.forces u b.not.not := by
 constructor
 ·intro h u hu ha
  rw [fc_nn] at *
  intro v hv
  obtain ⟨x, h1, h2⟩ := h v (M.trans _ _ _ hu hv)
  obtain ⟨y, h3, h4⟩ := ha x (M.trans _ _ _ hv h1)
  exact ⟨y, M.trans _ _ _ h1 h3, h2 y h3 h4⟩
 ·intro h
  rw [fc_nn]
  intro u hu
  by_cases hx : ∃ v, M.le u v ∧ M.forces v b
  ·obtain ⟨v, h1, h2⟩ := hx
   exact ⟨v, h1, fun x h3 _ => M.up b _ _ h3 h2⟩
  ·by_cases hy : M.forces u a.not.not
   ·obtain ⟨v, h1, h2⟩ := (fc_nn M u b).1 (h u hu hy) u (M.refl u)
    exact absurd ⟨v, h1, h2⟩ hx
   ·rw [fc_nn] at hy
    simp only [Classical.not_forall] at hy
    obtain ⟨v, h1, h2⟩ := hy
    exact ⟨v, h1, fun x h3 h4 => absurd ⟨x, h3, h4⟩ h2⟩
theorem nn_or (M : KM) (w : M.W) (a b : Fm) : M.forces w (Fm.or a b).not.not ↔ ∀ u, M.le w u → ¬ ((∀ v, M.le u v → ¬ M.forces v a) ∧ ∀ v, M.le u v → ¬ M.forces v b) := by
 rw [fc_nn]
 constructor
 ·rintro h u hu ⟨h1, h2⟩
  obtain ⟨v, h3, h4 | h4⟩ := h u hu
  ·exact h1 v h3 h4
  ·exact h2 v h3 h4
 ·intro h u hu
  have h1 := h u hu
  by_cases hx : ∃ v, M.le u v ∧ M.forces v a
  ·obtain ⟨v, h2, h3⟩ := hx
   exact ⟨v, h2, .inl h3⟩
  ·by_cases hy : ∃ v, M.le u v ∧ M.forces v b
   ·obtain ⟨v, h2, h3⟩ := hy
    exact ⟨v, h2, .inr h3⟩
   ·exact absurd ⟨fun v h2 h3 => hx ⟨v, h2, h3⟩, fun v h2 h3 => hy ⟨v, h2, h3⟩⟩ h1
theorem not_nnn (M : KM) (w : M.W) (a : Fm) : M.forces w a.not.not.not ↔ M.forces w a.not := by
 rw [fc_not, fc_not]
 constructor
 ·intro h u hu ha
  exact h u hu (nn_up M u ha)
 ·intro h u hu ha
  obtain ⟨v, h1, h2⟩ := (fc_nn M u a).1 ha u (M.refl u)
  exact h v (M.trans _ _ _ hu h1) h2
theorem nn_fls (M : KM) (w : M.W) : M.forces w Fm.fls ↔ M.forces w Fm.fls.not.not := by
 rw [fc_nn]
 constructor
 ·exact fun h => h.elim
 ·intro h
  obtain ⟨v, _, h2⟩ := h w (M.refl w)
  exact h2.elim
theorem kol_nn (M : KM) : ∀ (t : Fm), t.plain = true → ∀ w, M.forces w (kol t) ↔ M.forces w t.not.not
 | .var v, _, w => Iff.rfl
 | .fls, _, w => nn_fls M w
 | .and a b, h, w => by
  simp only [Fm.plain, Bool.and_eq_true] at h
  rw [kol, nn_and, nn_congr M (kol_nn M a h.1), nn_congr M (kol_nn M b h.2), nn_four, nn_four, nn_and]
 | .or a b, h, w => by
  simp only [Fm.plain, Bool.and_eq_true] at h
  rw [kol, nn_or, nn_or]
  refine forall_congr' fun u => forall_congr' fun _ => not_congr (and_congr ?_ ?_)
  ·have h1 : M.forces u (kol a).not ↔ M.forces u a.not.not.not := by
    rw [fc_not, fc_not]; exact forall_congr' fun v => forall_congr' fun _ => not_congr (kol_nn M a h.1 v)
   exact h1.trans (not_nnn M u a)
  ·have h1 : M.forces u (kol b).not ↔ M.forces u b.not.not.not := by
    rw [fc_not, fc_not]; exact forall_congr' fun v => forall_congr' fun _ => not_congr (kol_nn M b h.2 v)
   exact h1.trans (not_nnn M u b)
 | .imp a b, h, w => by
  simp only [Fm.plain, Bool.and_eq_true] at h
  rw [kol, nn_imp, nn_imp]
  refine forall_congr' fun u => forall_congr' fun _ => ?_
  rw [nn_congr M (kol_nn M a h.1), nn_congr M (kol_nn M b h.2), nn_four, nn_four]
 | .box a, h, w => by simp [Fm.plain] at h
 | .dia a, h, w => by simp [Fm.plain] at h
theorem gen_nn (M : KM) : ∀ (t : Fm), t.plain = true → ∀ w, M.forces w (gen t) ↔ M.forces w t.not.not
 | .var v, _, w => Iff.rfl
 | .fls, _, w => nn_fls M w
 | .and a b, h, w => by
  simp only [Fm.plain, Bool.and_eq_true] at h
  rw [nn_and]
  exact and_congr (gen_nn M a h.1 w) (gen_nn M b h.2 w)
 | .or a b, h, w => by
  simp only [Fm.plain, Bool.and_eq_true] at h
  rw [gen, nn_or, fc_not]
  refine forall_congr' fun u => forall_congr' fun _ => not_congr (and_congr ?_ ?_)
  ·have h1 : M.forces u (gen a).not ↔ M.forces u a.not.not.not := by
    rw [fc_not, fc_not]; exact forall_congr' fun v => forall_congr' fun _ => not_congr (gen_nn M a h.1 v)
   exact h1.trans (not_nnn M u a)
  ·have h1 : M.forces u (gen b).not ↔ M.forces u b.not.not.not := by
    rw [fc_not, fc_not]; exact forall_congr' fun v => forall_congr' fun _ => not_congr (gen_nn M b h.2 v)
   exact h1.trans (not_nnn M u b)
 | .imp a b, h, w => by
  simp only [Fm.plain, Bool.and_eq_true] at h
  rw [nn_imp]
  exact forall_congr' fun u => forall_congr' fun _ => imp_congr (gen_nn M a h.1 u) (gen_nn M b h.2 u)
 | .box a, h, w => by simp [Fm.plain] at h
 | .dia a, h, w => by simp [Fm.plain] at h
theorem decide_vars (M : KM) : ∀ (V : List Nat) (w : M.W), ∃ u, M.le w u ∧ ∀ p ∈ V, M.V u p ∨ ∀ v, M.le u v → ¬ M.V v p
 | [], w => ⟨w, M.refl w, fun p h => by cases h⟩
 | q :: V, w => by
  obtain ⟨u, hu, h⟩ := decide_vars M V w
  by_cases hx : ∃ v, M.le u v ∧ M.V v q
  ·obtain ⟨v, h1, h2⟩ := hx
   refine ⟨v, M.trans _ _ _ hu h1, fun p hp => ?_⟩
   rcases List.mem_cons.1 hp with rfl | hp
   ·exact .inl h2
   ·rcases h p hp with h3 | h3
    ·exact .inl (M.mono _ _ p h1 h3)
    ·exact .inr fun x h4 => h3 x (M.trans _ _ _ h1 h4)
  ·refine ⟨u, hu, fun p hp => ?_⟩
   rcases List.mem_cons.1 hp with rfl | hp
   ·exact .inr fun x h4 h5 => hx ⟨x, h4, h5⟩
   ·exact h p hp
def clP (A : Nat → Prop) : Fm → Prop
 | .var p => A p
 | .fls => False
 | .and a b => clP A a ∧ clP A b
 | .or a b => clP A a ∨ clP A b
 | .imp a b => clP A a → clP A b
 | .box _ => False
 | .dia _ => False
theorem decided (M : KM) (u : M.W) : ∀ t : Fm, (∀ n ∈ t.enc, n.k = 0 → M.V u n.s.toNat ∨ ∀ v, M.le u v → ¬ M.V v n.s.toNat) → ∀ v, M.le u v → (M.forces v t ↔ clP (M.V u) t)
 | .var p, h, v, hv => by
  have h1 := h ⟨0, p⟩ (by simp [Fm.enc]) rfl
  simp only [Int.toNat_natCast] at h1
  constructor
  ·intro hf
   rcases h1 with h2 | h2
   ·exact h2
   ·exact absurd hf (h2 v hv)
  ·exact fun hf => M.mono _ _ p hv hf
 | .fls, _, v, _ => Iff.rfl
 | .and a b, h, v, hv => and_congr (decided M u a (fun n hn => h n (by simp [Fm.enc, hn])) v hv) (decided M u b (fun n hn => h n (by simp [Fm.enc, hn])) v hv)
 | .or a b, h, v, hv => or_congr (decided M u a (fun n hn => h n (by simp [Fm.enc, hn])) v hv) (decided M u b (fun n hn => h n (by simp [Fm.enc, hn])) v hv)
 | .imp a b, h, v, hv => by
  have ha := decided M u a (fun n hn => h n (by simp [Fm.enc, hn]))
  have hb := decided M u b (fun n hn => h n (by simp [Fm.enc, hn]))
  constructor
  ·intro hf hc
   exact (hb v hv).1 (hf v (M.refl v) ((ha v hv).2 hc))
  ·intro hf x hx hxa
   have hux := M.trans _ _ _ hv hx
   exact (hb x hux).2 (hf ((ha x hux).1 hxa))
 | .box _, _, _, _ => Iff.rfl
 | .dia _, _, _, _ => Iff.rfl
theorem glivenko_km (t : Fm) (h : ∀ A : Nat → Prop, clP A t) : Sq [] t.not.not := by
 intro M w _
 rw [fc_nn]
 intro u _
 obtain ⟨v, hv, hd⟩ := decide_vars M (t.enc.map fun n => n.s.toNat) u
 refine ⟨v, hv, (decided M v t (fun n hn _ => hd _ (List.mem_map.2 ⟨n, hn, rfl⟩)) v (M.refl v)).2 (h _)⟩
def oneM (A : Nat → Prop) : KM where
 W := Unit
 le _ _ := True
 refl _ := trivial
 trans _ _ _ _ _ := trivial
 V _ p := A p
 mono _ _ _ _ h := h
theorem one_cl (A : Nat → Prop) : ∀ (t : Fm) (w : (oneM A).W), (oneM A).forces w t ↔ clP A t
 | .var _, _ => Iff.rfl
 | .fls, _ => Iff.rfl
 | .and a b, w => and_congr (one_cl A a w) (one_cl A b w)
 | .or a b, w => or_congr (one_cl A a w) (one_cl A b w)
 | .imp a b, w => ⟨fun h ha => (one_cl A b w).1 (h w trivial ((one_cl A a w).2 ha)), fun h _ _ ha => (one_cl A b _).2 (h ((one_cl A a _).1 ha))⟩
 | .box _, _ => Iff.rfl
 | .dia _, _ => Iff.rfl
theorem glivenko (t : Fm) : Sq [] t.not.not ↔ ∀ A : Nat → Prop, clP A t := by
 refine ⟨fun h A => ?_, glivenko_km t⟩
 have h1 := (one_cl A t.not.not ()).1 (h (oneM A) () (fun a ha => by cases ha))
 exact Classical.byContradiction fun hn => h1 hn
theorem gen_thm {t : Fm} (h : t.plain = true) : Sq [] (gen t) ↔ Sq [] t.not.not :=
 ⟨fun k M w hw => (gen_nn M t h w).1 (k M w hw), fun k M w hw => (gen_nn M t h w).2 (k M w hw)⟩
theorem gen_kind {t : Fm} (h : t.plain = true) : Sq [(gen t).not.not] (gen t) := by
 intro M w hw
 have h1 := hw _ (List.mem_singleton.2 rfl)
 rw [nn_congr M (gen_nn M t h) w, nn_four] at h1
 exact (gen_nn M t h w).2 h1
theorem gen_negative : ∀ (t : Fm) (n : Bool), (gen t).negative n = true
 | .var v, n => by simp [gen, Fm.not, Fm.negative, Fm.isFls]
 | .fls, n => rfl
 | .and a b, n => by simp [gen, Fm.negative, gen_negative a, gen_negative b]
 | .or a b, n => by simp [gen, Fm.not, Fm.negative, gen_negative a, gen_negative b]
 | .imp a b, n => by simp [gen, Fm.negative, gen_negative a, gen_negative b]
 | .box _, n => rfl
 | .dia _, n => rfl
end Go.Proofs.YtfmmajgkjkmghaaGreat
namespace Go.Proofs.YtfmmajgkjkmghaaGreat
open Go.RowKit
def JRes (J Jx : World → Prop) (b : Bool) (W : World) : Prop :=
 match b with
 | true => J W
 | false => Jx W
def bodyQ (p : Bool) (I Ix : World → Prop) (S : Nat → Prop) (W : World) (e : Exit) (W' : World) : Prop :=
 match e with
 | .normal => p = true ∧ I W' ∧ Touch W W' S
 | .ret => p = false ∧ Ix W' ∧ Touch W W' S
 | _ => False
theorem wp_rangeFunc_st {P : Program} {β : Type} {g : Operand} {ps : Array Tmp} {assign body : Code} {Q : Exit → Act → World → Prop} {a : Act} {w : World} {n : Nat}
  {gf : Nat} {lb : Array Value} (hg : a.eval g = .func (.func gf) #[] lb) (eg : ∀ args w, (callFunc gf args).run P w = .ok (.enter gf args) w)
  (arg : β → Value) (hps : ps.size = 1) (Rd : β → World → Prop) (hRd : ∀ x A B l, Rd x A → A.grownBy B (some l) → (∃ o : Obj, A.heap[l]? = some o ∧ o.isCells = false) → Rd x B)
  (Pt : β → Bool) (res : Bool) (S : Nat → Prop) (hS : ∀ k, S k → k < w.heap.size)
  (I Ix : World → Prop) (hI : ∀ A B, I A → Touch A B (fun k => w.heap.size ≤ k) → I B) (hIx : ∀ A B, Ix A → Touch A B (fun k => w.heap.size ≤ k) → Ix B) (h0 : I w) (a₁ : β → Act)
  (hseq : ∀ (J Jx : World → Prop) (W1 : World), W1.heap.size = w.heap.size + 2 → Keeps w W1 → (∀ A B, J A → Touch A B (fun k => w.heap.size + 2 ≤ k) → J B) → (∀ A B, Jx A → Touch A B (fun k => w.heap.size + 2 ≤ k) → Jx B) →
   (∀ x W, J W → Rd x W → YieldAt Fence.wide (n - 1 - 1) P (w.heap.size + 1) #[arg x] W fun e W' => e = .returned (.bool (Pt x)) ∧ JRes J Jx (Pt x) W' ∧ Touch W W' (fun k => S k ∨ k = w.heap.size + 1)) →
   J W1 → CallsIn Fence.wide (n - 1) P gf (#[.func (.yield (w.heap.size + 1)) #[] #[]] ++ lb) W1 fun e W' => (∃ v, e = .returned v) ∧ JRes J Jx res W')
  (hassign : ∀ (l : Nat) (x : β) (W : World) (K : Act → World → Prop), K (a₁ x) W →
   assign.wpIn (Fence.wide.inRound l) (n - 1 - 1) P (Exit.then K (fun _ _ _ => False)) { tmps := (ps.zip #[arg x]).foldl (fun t (p, v) => t.setIfInBounds p v) a.tmps, defers := [] } W)
  (hbody : ∀ (l : Nat) (x : β) (W : World), I W → Rd x W → body.wpIn (Fence.wide.inRound l) (n - 1 - 1) P (fun e _ W' => bodyQ (Pt x) I Ix S W e W') (a₁ x) W)
  (hdone : ∀ W, res = true → I W → W.heap[w.heap.size]? = some (.deferred (some [])) → Q .normal { a with defers := { target := .collected w.heap.size, args := #[] } :: a.defers } W)
  (hstop : ∀ W, res = false → Ix W → W.heap[w.heap.size]? = some (.deferred (some [])) → Code.ret.wpIn Fence.wide n P Q { a with defers := { target := .collected w.heap.size, args := #[] } :: a.defers } W) :
  (Code.rangeFunc g ps assign body).wpIn Fence.wide n P Q a w := by
 refine wpIn_rangeFunc ?_
 intro fn hfn
 rw [show Fence.wide.round = none from rfl]
 obtain ⟨mk, hmk⟩ : ∃ mk : LoopState → Option Code → Loop, mk = fun st pe => { state := st, pending := pe, fn, tmps := a.tmps, params := ps, assign, body, defers := w.heap.size } := ⟨_, rfl⟩
 obtain ⟨W1, hW1⟩ : ∃ W1, (w.alloc (.deferred (some []))).alloc (.loop (mk .ready none)) = W1 := ⟨_, rfl⟩
 have hs1 : W1.heap.size = w.heap.size + 2 := by rw [← hW1]; simp
 have hk1 : Keeps w W1 := by rw [← hW1]; exact ((Keeps.refl w).alloc _).alloc _
 have hL1 : W1.heap[w.heap.size + 1]? = some (.loop (mk .ready none)) := by
  rw [← hW1]
  have := World.alloc_heap_new (w.alloc (.deferred (some []))) (.loop (mk .ready none))
  rwa [World.size_alloc] at this
 have hD1 : W1.heap[w.heap.size]? = some (.deferred (some [])) := by
  rw [← hW1]
  exact (Below.heap_alloc _ _ _ (by simp)).trans (World.alloc_heap_new w _)
 have hI1 : I W1 := hI _ _ h0 (Touch.of_keeps hk1 _)
 -- a write of the loop's record
 have hput : ∀ (A : World) (o : Obj), Touch A (A.putObj (w.heap.size + 1) o) (fun k => k = w.heap.size + 1) := fun A o => (Touch.grown (grownBy_putObj' A (w.heap.size + 1) o)).mono (fun k e => by simpa using e)
 have hputI : ∀ {A : World} (o : Obj), I A → I (A.putObj (w.heap.size + 1) o) := fun o h => hI _ _ h ((hput _ o).mono (fun k e => by omega))
 have hputX : ∀ {A : World} (o : Obj), Ix A → Ix (A.putObj (w.heap.size + 1) o) := fun o h => hIx _ _ h ((hput _ o).mono (fun k e => by omega))
 refine ⟨w.heap.size + 1, [{ target := .collected w.heap.size, args := #[] }], W1, { target := .fn (.func gf) lb, args := #[.func (.yield (w.heap.size + 1)) #[] #[]] }, W1, gf,
  #[.func (.yield (w.heap.size + 1)) #[] #[]] ++ lb, W1, ?_, ?_, fun _ _ => trivial, ?_, (fun h => by simp [Fence.wide] at h), ?_⟩
 ·rw [← hW1, hmk]; exact run_enterLoop_outer _ _ _ _ _
 ·simp only [resolve, hg]
  simp [go_sem]
 ·simp [invoke, go_sem, eg]
 ·refine (hseq (fun W => I W ∧ W.heap[w.heap.size + 1]? = some (.loop (mk .ready none)) ∧ W.heap[w.heap.size]? = some (.deferred (some [])))
   (fun W => Ix W ∧ W.heap[w.heap.size + 1]? = some (.loop (mk .done (some .ret))) ∧ W.heap[w.heap.size]? = some (.deferred (some []))) W1 hs1 hk1 ?_ ?_ ?_ ⟨hI1, hL1, hD1⟩).mono ?_
  ·rintro A B ⟨h1, h2, h3⟩ k
   refine ⟨hI A B h1 (k.mono (fun i hi => by omega)), ?_, ?_⟩
   ·rw [k.block _ (Array.getElem?_eq_some_iff.1 h2).1 (by omega)]; exact h2
   ·rw [k.block _ (Array.getElem?_eq_some_iff.1 h3).1 (by omega)]; exact h3
  ·rintro A B ⟨h1, h2, h3⟩ k
   refine ⟨hIx A B h1 (k.mono (fun i hi => by omega)), ?_, ?_⟩
   ·rw [k.block _ (Array.getElem?_eq_some_iff.1 h2).1 (by omega)]; exact h2
   ·rw [k.block _ (Array.getElem?_eq_some_iff.1 h3).1 (by omega)]; exact h3
  ·rintro x W ⟨hi, hl, hd⟩ hrd
   have hlt : w.heap.size + 1 < W.heap.size := (Array.getElem?_eq_some_iff.1 hl).1
   have hy := run_yield (P := P) (args := #[arg x]) hl (by rw [hmk, hps]; rfl)
   rw [hmk] at hy
   refine ⟨fn, _, assign, body, hy, roundIn_of_wpIn hfn (hassign _ x W _ ⟨_, run_beginRound hl (by rw [hmk]), ?_⟩)⟩
   obtain ⟨W2, hW2⟩ : ∃ W2, W.putObj (w.heap.size + 1) (.loop { mk .ready none with state := .busy }) = W2 := ⟨_, rfl⟩
   have hl2 : W2.heap[w.heap.size + 1]? = some (.loop { mk .ready none with state := .busy }) := by rw [← hW2]; exact World.putObj_heap_same hlt
   have hd2 : W2.heap[w.heap.size]? = some (.deferred (some [])) := by rw [← hW2]; exact (World.putObj_heap_other (by omega)).trans hd
   have hi2 : I W2 := by rw [← hW2]; exact hputI _ hi
   have ht2 : Touch W W2 (fun k => k = w.heap.size + 1) := by rw [← hW2]; exact hput _ _
   have hr2 : Rd x W2 := by rw [← hW2]; exact hRd x _ _ _ hrd (grownBy_putObj' W (w.heap.size + 1) _) ⟨_, hl, rfl⟩
   rw [hmk] at hW2 ⊢
   rw [hW2]
   refine wpIn_mono (hbody _ x W2 hi2 hr2) ?_
   rintro e a3 W3 hp
   have fin : ∀ (jump : Option Code), Touch W2 W3 S → (Instr.endRound (w.heap.size + 1) jump).run P W3 = .ok (.bool jump.isNone) (W3.putObj (w.heap.size + 1) (.loop (mk (if jump.isNone then .ready else .done) jump))) ∧
     (W3.putObj (w.heap.size + 1) (.loop (mk (if jump.isNone then .ready else .done) jump))).heap[w.heap.size + 1]? = some (.loop (mk (if jump.isNone then .ready else .done) jump)) ∧
     (W3.putObj (w.heap.size + 1) (.loop (mk (if jump.isNone then .ready else .done) jump))).heap[w.heap.size]? = some (.deferred (some [])) ∧
     Touch W (W3.putObj (w.heap.size + 1) (.loop (mk (if jump.isNone then .ready else .done) jump))) (fun k => S k ∨ k = w.heap.size + 1) := fun jump ht => by
    have hl3 : W3.heap[w.heap.size + 1]? = some (.loop { mk .ready none with state := .busy }) := by
     rw [ht.block _ (Array.getElem?_eq_some_iff.1 hl2).1 (fun e => by have := hS _ e; omega)]; exact hl2
    have hd3 : W3.heap[w.heap.size]? = some (.deferred (some [])) := by
     rw [ht.block _ (Array.getElem?_eq_some_iff.1 hd2).1 (fun e => by have := hS _ e; omega)]; exact hd2
    have hr := run_endRound (P := P) jump hl3
    rw [hmk] at hr ⊢
    exact ⟨hr, World.putObj_heap_same (Array.getElem?_eq_some_iff.1 hl3).1, (World.putObj_heap_other (by omega)).trans hd3,
     ((ht2.mono (fun k e => .inr e)).trans (ht.mono (fun k e => .inl e))).trans ((hput W3 _).mono (fun k e => .inr e))⟩
   cases e with
   | normal =>
    obtain ⟨hpt, hi3, ht⟩ := hp
    obtain ⟨hr, hl4, hd4, ht4⟩ := fin none ht
    exact ⟨_, _, hr, by rw [hpt]; rfl, by rw [hpt, ← hmk]; exact ⟨hputI _ hi3, hl4, hd4⟩, ht4⟩
   | ret =>
    obtain ⟨hpt, hi3, ht⟩ := hp
    obtain ⟨hr, hl4, hd4, ht4⟩ := fin (some .ret) ht
    exact ⟨_, _, hr, by rw [hpt]; rfl, by rw [hpt, ← hmk]; exact ⟨hputX _ hi3, hl4, hd4⟩, ht4⟩
   | exit id => exact hp.elim
   | goto t => exact hp.elim
   | panic ch => exact hp.elim
   | outgrown => exact hp.elim
  ·rintro e W2 ⟨⟨v, rfl⟩, h⟩
   cases hres : res
   ·rw [hres] at h
    obtain ⟨hi, hl, hd⟩ := h
    exact ⟨some .ret, _, by have := run_endLoop (P := P) hl (by rw [hmk]; simp); rw [hmk] at this; exact this, hstop _ hres (hputX _ hi) ((World.putObj_heap_other (by omega)).trans hd)⟩
   ·rw [hres] at h
    obtain ⟨hi, hl, hd⟩ := h
    exact ⟨none, _, by have := run_endLoop (P := P) hl (by rw [hmk]; simp); rw [hmk] at this; exact this, hdone _ hres (hputI _ hi) ((World.putObj_heap_other (by omega)).trans hd)⟩
end Go.Proofs.YtfmmajgkjkmghaaGreat
