/- A range over a function whose iterator keeps cells of its own: a law for our use. -/
import Derived.Test.YtponaoefpicfpaaGreatDoorGQR
import Derived.RangeFuncNested
import Derived.RangeFuncBound
import Derived.RangeFuncCalls
import Derived.RangeFuncLeaves
import Derived.Shelf.Abstract
import Derived.Shelf.RegionOpen
import Derived.WalkKit
import Derived.OwnWalkIn
import Derived.TacticsInMore
import Derived.LoopIn
import Derived.Test.YtponaoefpicfpaaGreatDoorGQE0
import Derived.Test.YtponaoefpicfpaaGreatDoorGPK
import Derived.Test.YtponaoefpicfpaaGreatDoorGQT
import Derived.Test.YtponaoefpicfpaaGreatDoorGOD
import Derived.BigQuiet
namespace Go.Proofs.YtponaoefpicfpaaGreatDoor
open Go.RowKit
theorem Touch.keepsOf {a b : World} {S : Nat → Prop} (h : Touch a b S) {B : Nat} (hS : ∀ k, S k → B ≤ k) (hB : B = a.heap.size) : Keeps a b :=
  ⟨h.os, h.tape, h.output, h.size, fun i hi => h.block i hi (fun e => by have := hS i e; omega)⟩
/-- what holds behind the iterator -/
def JRes (J Jx : World → Prop) (b : Bool) (W : World) : Prop :=
  match b with
  | true => J W
  | false => Jx W
/-- how a round may be left -/
def bodyQ (p : Bool) (I Ix : World → Prop) (S : Nat → Prop) (W : World) (e : Exit) (W' : World) : Prop :=
  match e with
  | .normal => p = true ∧ I W' ∧ Touch W W' S
  | .ret => p = false ∧ Ix W' ∧ Touch W W' S
  | _ => False
theorem wp_rangeFunc_st {P : Program} {β : Type} {g : Operand} {ps : Array Tmp} {assign body : Code} {Q : Exit → Act → World → Prop} {a : Act} {w : World} {n : Nat}
    {gf : Nat} {lb : Array Value} (hg : a.eval g = .func (.func gf) #[] lb) (eg : ∀ args w, (callFunc gf args).run P w = .ok (.enter gf args) w)
    (arg : β → Value) (hps : ps.size = 1) (Rd : β → World → Prop) (hRd : ∀ x A B l, Rd x A → A.grownBy B (some l) → (∃ o : Obj, A.heap[l]? = some o ∧ o.isCells = false) → Rd x B)
    (Pt : β → Bool) (res : Bool) (S : Nat → Prop) (hS : ∀ k, S k → k < w.heap.size)
    (I Ix : World → Prop) (hI : ∀ A B, I A → Touch A B (fun k => w.heap.size ≤ k) → I B) (hIx : ∀ A B, Ix A → Touch A B (fun k => w.heap.size ≤ k) → Ix B) (h0 : I w) (a₁ : β → Act)
    (hseq : ∀ (J Jx : World → Prop) (W1 : World), W1.heap.size = w.heap.size + 2 → Keeps w W1 → (∀ A B, J A → Touch A B (fun k => w.heap.size + 2 ≤ k) → J B) → (∀ A B, Jx A → Touch A B (fun k => w.heap.size + 2 ≤ k) → Jx B) →
      (∀ x W, J W → Rd x W → YieldAt Fence.wide (n - 1 - 1) P (w.heap.size + 1) #[arg x] W fun e W' => e = .returned (.bool (Pt x)) ∧ JRes J Jx (Pt x) W' ∧ Touch W W' (fun k => S k ∨ k = w.heap.size + 1)) →
      J W1 → CallsIn Fence.wide (n - 1) P gf (#[.func (.yield (w.heap.size + 1)) #[] #[]] ++ lb) W1 fun e W' => (∃ v, e = .returned v) ∧ JRes J Jx res W')
    (hassign : ∀ (l : Nat) (x : β) (W : World) (K : Act → World → Prop), K (a₁ x) W →
      assign.wpIn (Fence.wide.inRound l) (n - 1 - 1) P (Exit.then K (fun _ _ _ => False)) { tmps := (ps.zip #[arg x]).foldl (fun t (p, v) => t.setIfInBounds p v) a.tmps, defers := [] } W)
    (hbody : ∀ (l : Nat) (x : β) (W : World), I W → Rd x W → body.wpIn (Fence.wide.inRound l) (n - 1 - 1) P (fun e _ W' => bodyQ (Pt x) I Ix S W e W') (a₁ x) W)
    (hdone : ∀ W, res = true → I W → W.heap[w.heap.size]? = some (.deferred (some [])) → Q .normal { a with defers := { target := .collected w.heap.size, args := #[] } :: a.defers } W)
    (hstop : ∀ W, res = false → Ix W → W.heap[w.heap.size]? = some (.deferred (some [])) → Code.ret.wpIn Fence.wide n P Q { a with defers := { target := .collected w.heap.size, args := #[] } :: a.defers } W) :
    (Code.rangeFunc g ps assign body).wpIn Fence.wide n P Q a w := by
  refine wpIn_rangeFunc ?_
  intro fn hfn
  rw [show Fence.wide.round = none from rfl]
  obtain ⟨mk, hmk⟩ : ∃ mk : LoopState → Option Code → Loop, mk = fun st pe => { state := st, pending := pe, fn, tmps := a.tmps, params := ps, assign, body, defers := w.heap.size } := ⟨_, rfl⟩
  obtain ⟨W1, hW1⟩ : ∃ W1, (w.alloc (.deferred (some []))).alloc (.loop (mk .ready none)) = W1 := ⟨_, rfl⟩
  have hs1 : W1.heap.size = w.heap.size + 2 := by rw [← hW1]; simp
  have hk1 : Keeps w W1 := by rw [← hW1]; exact ((Keeps.refl w).alloc _).alloc _
  have hL1 : W1.heap[w.heap.size + 1]? = some (.loop (mk .ready none)) := by
    rw [← hW1]
    have := World.alloc_heap_new (w.alloc (.deferred (some []))) (.loop (mk .ready none))
    rwa [World.size_alloc] at this
  have hD1 : W1.heap[w.heap.size]? = some (.deferred (some [])) := by
    rw [← hW1]
    exact (Below.heap_alloc _ _ _ (by simp)).trans (World.alloc_heap_new w _)
  have hI1 : I W1 := hI _ _ h0 (Touch.of_keeps hk1 _)
  -- a write of the loop's record
  have hput : ∀ (A : World) (o : Obj), Touch A (A.putObj (w.heap.size + 1) o) (fun k => k = w.heap.size + 1) := fun A o => (Touch.grown (grownBy_putObj' A (w.heap.size + 1) o)).mono (fun k e => by simpa using e)
  have hputI : ∀ {A : World} (o : Obj), I A → I (A.putObj (w.heap.size + 1) o) := fun o h => hI _ _ h ((hput _ o).mono (fun k e => by omega))
  have hputX : ∀ {A : World} (o : Obj), Ix A → Ix (A.putObj (w.heap.size + 1) o) := fun o h => hIx _ _ h ((hput _ o).mono (fun k e => by omega))
  refine ⟨w.heap.size + 1, [{ target := .collected w.heap.size, args := #[] }], W1, { target := .fn (.func gf) lb, args := #[.func (.yield (w.heap.size + 1)) #[] #[]] }, W1, gf,
    #[.func (.yield (w.heap.size + 1)) #[] #[]] ++ lb, W1, ?_, ?_, fun _ _ => trivial, ?_, (fun h => by simp [Fence.wide] at h), ?_⟩
  · rw [← hW1, hmk]; exact run_enterLoop_outer _ _ _ _ _
  · simp only [resolve, hg]
    simp [go_sem]
  · simp [invoke, go_sem, eg]
  · refine (hseq (fun W => I W ∧ W.heap[w.heap.size + 1]? = some (.loop (mk .ready none)) ∧ W.heap[w.heap.size]? = some (.deferred (some [])))
      (fun W => Ix W ∧ W.heap[w.heap.size + 1]? = some (.loop (mk .done (some .ret))) ∧ W.heap[w.heap.size]? = some (.deferred (some []))) W1 hs1 hk1 ?_ ?_ ?_ ⟨hI1, hL1, hD1⟩).mono ?_
    · rintro A B ⟨h1, h2, h3⟩ k
      refine ⟨hI A B h1 (k.mono (fun i hi => by omega)), ?_, ?_⟩
      · rw [k.block _ (Array.getElem?_eq_some_iff.1 h2).1 (by omega)]; exact h2
      · rw [k.block _ (Array.getElem?_eq_some_iff.1 h3).1 (by omega)]; exact h3
    · rintro A B ⟨h1, h2, h3⟩ k
      refine ⟨hIx A B h1 (k.mono (fun i hi => by omega)), ?_, ?_⟩
      · rw [k.block _ (Array.getElem?_eq_some_iff.1 h2).1 (by omega)]; exact h2
      · rw [k.block _ (Array.getElem?_eq_some_iff.1 h3).1 (by omega)]; exact h3
    · rintro x W ⟨hi, hl, hd⟩ hrd
      have hlt : w.heap.size + 1 < W.heap.size := (Array.getElem?_eq_some_iff.1 hl).1
      have hy := run_yield (P := P) (args := #[arg x]) hl (by rw [hmk, hps]; rfl)
      rw [hmk] at hy
      refine ⟨fn, _, assign, body, hy, roundIn_of_wpIn hfn (hassign _ x W _ ⟨_, run_beginRound hl (by rw [hmk]), ?_⟩)⟩
      obtain ⟨W2, hW2⟩ : ∃ W2, W.putObj (w.heap.size + 1) (.loop { mk .ready none with state := .busy }) = W2 := ⟨_, rfl⟩
      have hl2 : W2.heap[w.heap.size + 1]? = some (.loop { mk .ready none with state := .busy }) := by rw [← hW2]; exact World.putObj_heap_same hlt
      have hd2 : W2.heap[w.heap.size]? = some (.deferred (some [])) := by rw [← hW2]; exact (World.putObj_heap_other (by omega)).trans hd
      have hi2 : I W2 := by rw [← hW2]; exact hputI _ hi
      have ht2 : Touch W W2 (fun k => k = w.heap.size + 1) := by rw [← hW2]; exact hput _ _
      have hr2 : Rd x W2 := by rw [← hW2]; exact hRd x _ _ _ hrd (grownBy_putObj' W (w.heap.size + 1) _) ⟨_, hl, rfl⟩
      rw [hmk] at hW2 ⊢
      rw [hW2]
      refine wpIn_mono (hbody _ x W2 hi2 hr2) ?_
      rintro e a3 W3 hp
      have fin : ∀ (jump : Option Code), Touch W2 W3 S → (Instr.endRound (w.heap.size + 1) jump).run P W3 = .ok (.bool jump.isNone) (W3.putObj (w.heap.size + 1) (.loop (mk (if jump.isNone then .ready else .done) jump))) ∧
          (W3.putObj (w.heap.size + 1) (.loop (mk (if jump.isNone then .ready else .done) jump))).heap[w.heap.size + 1]? = some (.loop (mk (if jump.isNone then .ready else .done) jump)) ∧
          (W3.putObj (w.heap.size + 1) (.loop (mk (if jump.isNone then .ready else .done) jump))).heap[w.heap.size]? = some (.deferred (some [])) ∧
          Touch W (W3.putObj (w.heap.size + 1) (.loop (mk (if jump.isNone then .ready else .done) jump))) (fun k => S k ∨ k = w.heap.size + 1) := fun jump ht => by
        have hl3 : W3.heap[w.heap.size + 1]? = some (.loop { mk .ready none with state := .busy }) := by
          rw [ht.block _ (Array.getElem?_eq_some_iff.1 hl2).1 (fun e => by have := hS _ e; omega)]; exact hl2
        have hd3 : W3.heap[w.heap.size]? = some (.deferred (some [])) := by
          rw [ht.block _ (Array.getElem?_eq_some_iff.1 hd2).1 (fun e => by have := hS _ e; omega)]; exact hd2
        have hr := run_endRound (P := P) jump hl3
        rw [hmk] at hr ⊢
        exact ⟨hr, World.putObj_heap_same (Array.getElem?_eq_some_iff.1 hl3).1, (World.putObj_heap_other (by omega)).trans hd3,
          ((ht2.mono (fun k e => .inr e)).trans (ht.mono (fun k e => .inl e))).trans ((hput W3 _).mono (fun k e => .inr e))⟩
      cases e with
      | normal =>
        obtain ⟨hpt, hi3, ht⟩ := hp
        obtain ⟨hr, hl4, hd4, ht4⟩ := fin none ht
        exact ⟨_, _, hr, by rw [hpt]; rfl, by rw [hpt, ← hmk]; exact ⟨hputI _ hi3, hl4, hd4⟩, ht4⟩
      | ret =>
        obtain ⟨hpt, hi3, ht⟩ := hp
        obtain ⟨hr, hl4, hd4, ht4⟩ := fin (some .ret) ht
        exact ⟨_, _, hr, by rw [hpt]; rfl, by rw [hpt, ← hmk]; exact ⟨hputX _ hi3, hl4, hd4⟩, ht4⟩
      | exit id => exact hp.elim
      | goto t => exact hp.elim
      | panic ch => exact hp.elim
      | outgrown => exact hp.elim
    · rintro e W2 ⟨⟨v, rfl⟩, h⟩
      cases hres : res
      · rw [hres] at h
        obtain ⟨hi, hl, hd⟩ := h
        exact ⟨some .ret, _, by have := run_endLoop (P := P) hl (by rw [hmk]; simp); rw [hmk] at this; exact this, hstop _ hres (hputX _ hi) ((World.putObj_heap_other (by omega)).trans hd)⟩
      · rw [hres] at h
        obtain ⟨hi, hl, hd⟩ := h
        exact ⟨none, _, by have := run_endLoop (P := P) hl (by rw [hmk]; simp); rw [hmk] at this; exact this, hdone _ hres (hputI _ hi) ((World.putObj_heap_other (by omega)).trans hd)⟩
end Go.Proofs.YtponaoefpicfpaaGreatDoor
/- Plain mathematics: the value of a plain formula in an order; all valuations with values of some variables, made in two ways. -/
namespace Go.Proofs.YtponaoefpicfpaaGreatDoor
/-- the upset above which a mask lies within another one -/
def impB (b : List Nat) (x y : Nat) : Nat := boxB b (((2 ^ b.length - 1) ^^^ ((2 ^ b.length - 1) &&& x)) ||| y) b.length
def frcP (b vs : List Nat) : Fm → Nat
  | .var p => vs.getD p 0
  | .fls => 0
  | .and x y => frcP b vs x &&& frcP b vs y
  | .or x y => frcP b vs x ||| frcP b vs y
  | .imp x y => impB b (frcP b vs x) (frcP b vs y)
  | .box _ => 0
  | .dia _ => 0
theorem frcP_lt {b vs : List Nat} (h : Bnd b.length vs) : ∀ t : Fm, frcP b vs t < 2 ^ b.length
  | .var p => h p
  | .fls => Nat.two_pow_pos _
  | .and x _y => Nat.lt_of_le_of_lt Nat.and_le_left (frcP_lt h x)
  | .or x y => Nat.or_lt_two_pow (frcP_lt h x) (frcP_lt h y)
  | .imp _x _y => boxB_lt _ _ _
  | .box _ => Nat.two_pow_pos _
  | .dia _ => Nat.two_pow_pos _
/-- the formulas that stand behind a place of a formula's list -/
def sufF : Fm → Nat → List Fm
  | t, 0 => [t]
  | .var _, _ + 1 => []
  | .fls, _ + 1 => []
  | .and x y, i + 1 => if i < x.enc.length then sufF x i ++ [y] else sufF y (i - x.enc.length)
  | .or x y, i + 1 => if i < x.enc.length then sufF x i ++ [y] else sufF y (i - x.enc.length)
  | .imp x y, i + 1 => if i < x.enc.length then sufF x i ++ [y] else sufF y (i - x.enc.length)
  | .box x, i + 1 => sufF x i
  | .dia x, i + 1 => sufF x i
theorem sufF_zero (t : Fm) : sufF t 0 = [t] := by cases t <;> rfl
theorem sufF_end : ∀ t : Fm, sufF t t.enc.length = []
  | .var _ => rfl
  | .fls => rfl
  | .and x y => by
    have h : (Fm.and x y).enc.length = (x.enc.length + y.enc.length) + 1 := by simp [Fm.enc]
    rw [h, sufF, if_neg (by omega), show x.enc.length + y.enc.length - x.enc.length = y.enc.length by omega]
    exact sufF_end y
  | .or x y => by
    have h : (Fm.or x y).enc.length = (x.enc.length + y.enc.length) + 1 := by simp [Fm.enc]
    rw [h, sufF, if_neg (by omega), show x.enc.length + y.enc.length - x.enc.length = y.enc.length by omega]
    exact sufF_end y
  | .imp x y => by
    have h : (Fm.imp x y).enc.length = (x.enc.length + y.enc.length) + 1 := by simp [Fm.enc]
    rw [h, sufF, if_neg (by omega), show x.enc.length + y.enc.length - x.enc.length = y.enc.length by omega]
    exact sufF_end y
  | .box x => by
    have h : (Fm.box x).enc.length = x.enc.length + 1 := by simp [Fm.enc]
    rw [h, sufF]
    exact sufF_end x
  | .dia x => by
    have h : (Fm.dia x).enc.length = x.enc.length + 1 := by simp [Fm.enc]
    rw [h, sufF]
    exact sufF_end x
/-- what a node makes of the formulas behind it -/
def StepF (n : Nd) (F G : List Fm) : Prop :=
  (n.k = 0 ∧ ∃ v : Nat, n.s = v ∧ G = .var v :: F) ∨ (n.k = 1 ∧ G = .fls :: F) ∨ (n.k = 2 ∧ ∃ x y R, F = x :: y :: R ∧ G = .and x y :: R) ∨ (n.k = 3 ∧ ∃ x y R, F = x :: y :: R ∧ G = .or x y :: R) ∨
    (n.k = 4 ∧ ∃ x y R, F = x :: y :: R ∧ G = .imp x y :: R) ∨ (n.k = 5 ∧ ∃ x R, F = x :: R ∧ G = .box x :: R) ∨ (n.k = 6 ∧ ∃ x R, F = x :: R ∧ G = .dia x :: R)
theorem StepF.more {n : Nd} {F G : List Fm} (h : StepF n F G) (R : List Fm) : StepF n (F ++ R) (G ++ R) := by
  rcases h with ⟨h, v, e, rfl⟩ | ⟨h, rfl⟩ | ⟨h, x, y, S, rfl, rfl⟩ | ⟨h, x, y, S, rfl, rfl⟩ | ⟨h, x, y, S, rfl, rfl⟩ | ⟨h, x, S, rfl, rfl⟩ | ⟨h, x, S, rfl, rfl⟩
  · exact .inl ⟨h, v, e, rfl⟩
  · exact .inr (.inl ⟨h, rfl⟩)
  · exact .inr (.inr (.inl ⟨h, x, y, S ++ R, rfl, rfl⟩))
  · exact .inr (.inr (.inr (.inl ⟨h, x, y, S ++ R, rfl, rfl⟩)))
  · exact .inr (.inr (.inr (.inr (.inl ⟨h, x, y, S ++ R, rfl, rfl⟩))))
  · exact .inr (.inr (.inr (.inr (.inr (.inl ⟨h, x, S ++ R, rfl, rfl⟩)))))
  · exact .inr (.inr (.inr (.inr (.inr (.inr ⟨h, x, S ++ R, rfl, rfl⟩)))))
theorem sufF_step : ∀ (t : Fm) (i : Nat), i < t.enc.length → StepF (t.enc.getD i ⟨0, 0⟩) (sufF t (i + 1)) (sufF t i)
  | .var v, i, h => by
    have : i = 0 := by simp [Fm.enc] at h; omega
    subst this
    exact .inl ⟨rfl, v, rfl, rfl⟩
  | .fls, i, h => by
    have : i = 0 := by simp [Fm.enc] at h; omega
    subst this
    exact .inr (.inl ⟨rfl, rfl⟩)
  | .and x y, i, h => by
    have hl : (Fm.and x y).enc.length = (x.enc.length + y.enc.length) + 1 := by simp [Fm.enc]
    cases i with
    | zero =>
      refine .inr (.inr (.inl (⟨rfl, x, y, [], ?_, rfl⟩)))
      have := Fm.enc_pos x
      rw [sufF, if_pos this, sufF_zero]; rfl
    | succ i =>
      have hb : ∀ n, (Fm.and x y).enc.getD (i + 1) n = (x.enc ++ y.enc).getD i n := fun n => rfl
      rw [hb, sufF, sufF]
      by_cases h1 : i < x.enc.length
      · have hg : (x.enc ++ y.enc).getD i ⟨0, 0⟩ = x.enc.getD i ⟨0, 0⟩ := by simp [List.getD_eq_getElem?_getD, List.getElem?_append_left h1]
        rw [hg, if_pos h1]
        have ih := (sufF_step x i h1).more [y]
        by_cases h2 : i + 1 < x.enc.length
        · rw [if_pos h2]; exact ih
        · rw [if_neg h2]
          have e : i + 1 = x.enc.length := by omega
          rw [e, sufF_end] at ih
          rw [e, Nat.sub_self, sufF_zero]; exact ih
      · have hg : (x.enc ++ y.enc).getD i ⟨0, 0⟩ = y.enc.getD (i - x.enc.length) ⟨0, 0⟩ := by simp [List.getD_eq_getElem?_getD, List.getElem?_append_right (Nat.le_of_not_lt h1)]
        rw [hg, if_neg h1, if_neg (by omega), show i + 1 - x.enc.length = (i - x.enc.length) + 1 by omega]
        exact sufF_step y (i - x.enc.length) (by omega)
  | .or x y, i, h => by
    have hl : (Fm.or x y).enc.length = (x.enc.length + y.enc.length) + 1 := by simp [Fm.enc]
    cases i with
    | zero =>
      refine .inr (.inr (.inr (.inl (⟨rfl, x, y, [], ?_, rfl⟩))))
      have := Fm.enc_pos x
      rw [sufF, if_pos this, sufF_zero]; rfl
    | succ i =>
      have hb : ∀ n, (Fm.or x y).enc.getD (i + 1) n = (x.enc ++ y.enc).getD i n := fun n => rfl
      rw [hb, sufF, sufF]
      by_cases h1 : i < x.enc.length
      · have hg : (x.enc ++ y.enc).getD i ⟨0, 0⟩ = x.enc.getD i ⟨0, 0⟩ := by simp [List.getD_eq_getElem?_getD, List.getElem?_append_left h1]
        rw [hg, if_pos h1]
        have ih := (sufF_step x i h1).more [y]
        by_cases h2 : i + 1 < x.enc.length
        · rw [if_pos h2]; exact ih
        · rw [if_neg h2]
          have e : i + 1 = x.enc.length := by omega
          rw [e, sufF_end] at ih
          rw [e, Nat.sub_self, sufF_zero]; exact ih
      · have hg : (x.enc ++ y.enc).getD i ⟨0, 0⟩ = y.enc.getD (i - x.enc.length) ⟨0, 0⟩ := by simp [List.getD_eq_getElem?_getD, List.getElem?_append_right (Nat.le_of_not_lt h1)]
        rw [hg, if_neg h1, if_neg (by omega), show i + 1 - x.enc.length = (i - x.enc.length) + 1 by omega]
        exact sufF_step y (i - x.enc.length) (by omega)
  | .imp x y, i, h => by
    have hl : (Fm.imp x y).enc.length = (x.enc.length + y.enc.length) + 1 := by simp [Fm.enc]
    cases i with
    | zero =>
      refine .inr (.inr (.inr (.inr (.inl (⟨rfl, x, y, [], ?_, rfl⟩)))))
      have := Fm.enc_pos x
      rw [sufF, if_pos this, sufF_zero]; rfl
    | succ i =>
      have hb : ∀ n, (Fm.imp x y).enc.getD (i + 1) n = (x.enc ++ y.enc).getD i n := fun n => rfl
      rw [hb, sufF, sufF]
      by_cases h1 : i < x.enc.length
      · have hg : (x.enc ++ y.enc).getD i ⟨0, 0⟩ = x.enc.getD i ⟨0, 0⟩ := by simp [List.getD_eq_getElem?_getD, List.getElem?_append_left h1]
        rw [hg, if_pos h1]
        have ih := (sufF_step x i h1).more [y]
        by_cases h2 : i + 1 < x.enc.length
        · rw [if_pos h2]; exact ih
        · rw [if_neg h2]
          have e : i + 1 = x.enc.length := by omega
          rw [e, sufF_end] at ih
          rw [e, Nat.sub_self, sufF_zero]; exact ih
      · have hg : (x.enc ++ y.enc).getD i ⟨0, 0⟩ = y.enc.getD (i - x.enc.length) ⟨0, 0⟩ := by simp [List.getD_eq_getElem?_getD, List.getElem?_append_right (Nat.le_of_not_lt h1)]
        rw [hg, if_neg h1, if_neg (by omega), show i + 1 - x.enc.length = (i - x.enc.length) + 1 by omega]
        exact sufF_step y (i - x.enc.length) (by omega)
  | .box x, i, h => by
    have hl : (Fm.box x).enc.length = x.enc.length + 1 := by simp [Fm.enc]
    cases i with
    | zero =>
      refine .inr (.inr (.inr (.inr (.inr (.inl (⟨rfl, x, [], ?_, rfl⟩))))))
      rw [sufF, sufF_zero]
    | succ i =>
      have hb : ∀ n, (Fm.box x).enc.getD (i + 1) n = x.enc.getD i n := fun n => rfl
      rw [hb, sufF, sufF]
      exact sufF_step x i (by omega)
  | .dia x, i, h => by
    have hl : (Fm.dia x).enc.length = x.enc.length + 1 := by simp [Fm.enc]
    cases i with
    | zero =>
      refine .inr (.inr (.inr (.inr (.inr (.inr (⟨rfl, x, [], ?_, rfl⟩))))))
      rw [sufF, sufF_zero]
    | succ i =>
      have hb : ∀ n, (Fm.dia x).enc.getD (i + 1) n = x.enc.getD i n := fun n => rfl
      rw [hb, sufF, sufF]
      exact sufF_step x i (by omega)
/-! ### all valuations -/
/-- a test holds whatever values some variables have -/
def vldL (P : List Nat → Bool) (U : List Nat) : List Nat → List Nat → Bool
  | [], vs => P vs
  | v :: V, vs => U.all fun u => vldL P U V (vs.set v u)
/-- like, but for some places -/
def Off6 (V : List Nat) (a c : List Nat) : Prop := a.length = c.length ∧ ∀ j, j ∉ V → a.getD j 0 = c.getD j 0
theorem Off6.refl (V a : List Nat) : Off6 V a a := ⟨rfl, fun _ _ => rfl⟩
theorem Off6.trans {V a b c : List Nat} (h : Off6 V a b) (g : Off6 V b c) : Off6 V a c := ⟨h.1.trans g.1, fun j hj => (h.2 j hj).trans (g.2 j hj)⟩
theorem Off6.symm {V a b : List Nat} (h : Off6 V a b) : Off6 V b a := ⟨h.1.symm, fun j hj => (h.2 j hj).symm⟩
theorem Off6.mono {V W a b : List Nat} (h : Off6 V a b) (hs : ∀ x ∈ V, x ∈ W) : Off6 W a b := ⟨h.1, fun j hj => h.2 j fun e => hj (hs j e)⟩
theorem ext_getD {a c : List Nat} (hl : a.length = c.length) (h : ∀ j, a.getD j 0 = c.getD j 0) : a = c := by
  refine List.ext_getElem hl fun i h1 h2 => ?_
  have := h i
  simpa [List.getD_eq_getElem?_getD, h1, h2] using this
theorem Off6.set {V a c : List Nat} {v : Nat} (h : Off6 (v :: V) a c) (u : Nat) : Off6 V (a.set v u) (c.set v u) := by
  refine ⟨by simp [h.1], fun j hj => ?_⟩
  by_cases e : v = j
  · subst e
    simp only [List.getD_eq_getElem?_getD, List.getElem?_set, h.1, if_true]
  · have := h.2 j (by simp; exact ⟨Ne.symm e, hj⟩)
    simp only [List.getD_eq_getElem?_getD, List.getElem?_set_ne e] at this ⊢
    exact this
theorem Off6.nil {a c : List Nat} (h : Off6 [] a c) : a = c := ext_getD h.1 fun j => h.2 j (by simp)
theorem off_set (V a : List Nat) (v u : Nat) : Off6 (v :: V) a (a.set v u) := by
  refine ⟨by simp, fun j hj => ?_⟩
  have : v ≠ j := fun e => hj (by simp [e])
  simp only [List.getD_eq_getElem?_getD, List.getElem?_set_ne this]
theorem vldL_off {P : List Nat → Bool} {U : List Nat} : ∀ {V a c : List Nat}, Off6 V a c → vldL P U V a = vldL P U V c
  | [], a, c, h => by rw [h.nil]
  | v :: V, a, c, h => by
    unfold vldL
    congr 1
    funext u
    exact vldL_off (h.set u)
/-- the valuation with a number -/
def numL (U : List Nat) : List Nat → Nat → List Nat
  | [], _ => List.replicate 6 0
  | v :: V, N => (numL U V N).set v (U.getD (N / U.length ^ V.length % U.length) 0)
theorem numL_len (U : List Nat) : ∀ V N, (numL U V N).length = 6
  | [], _ => by simp [numL]
  | v :: V, N => by rw [numL, List.length_set, numL_len U V N]
theorem numL_mod (U : List Nat) (N M : Nat) : ∀ V : List Nat, (∀ k, k < V.length → N / U.length ^ k % U.length = M / U.length ^ k % U.length) → numL U V N = numL U V M
  | [], _ => rfl
  | v :: V, h => by
    rw [numL, numL, numL_mod U N M V (fun k hk => h k (by simp; omega)), h V.length (by simp)]
theorem numL_off (U : List Nat) : ∀ (V : List Nat) (N : Nat), Off6 V (numL U V N) (List.replicate 6 0)
  | [], N => Off6.refl _ _
  | v :: V, N => by
    rw [numL]
    have h1 := off_set V (numL U V N) v (U.getD (N / U.length ^ V.length % U.length) 0)
    have h2 := (numL_off U V N).mono (W := v :: V) (fun x hx => by simp [hx])
    exact h1.symm.trans h2
theorem mod_pow_digit (m N k n : Nat) (hk : k < n) : N % m ^ n / m ^ k % m = N / m ^ k % m := by
  have e : m ^ n = m ^ k * m ^ (n - k) := by rw [← Nat.pow_add]; congr 1; omega
  rw [e, Nat.mod_mul_right_div_self]
  have e2 : m ^ (n - k) = m * m ^ (n - k - 1) := by
    conv => lhs; rw [show n - k = (n - k - 1) + 1 by omega, Nat.pow_succ, Nat.mul_comm]
  rw [e2, Nat.mod_mul_right_mod]
theorem vld_num {P : List Nat → Bool} {U : List Nat} (hU : 0 < U.length) : ∀ (V : List Nat) (vs : List Nat), vs.length = 6 → V.Nodup →
    (vldL P U V vs = true ↔ ∀ N, N < U.length ^ V.length → ∀ c, Off6 V c vs → (∀ j ∈ V, c.getD j 0 = (numL U V N).getD j 0) → P c = true)
  | [], vs, hv, _ => by
    constructor
    · intro h N _ c hc _
      rw [hc.nil]; exact h
    · intro h
      exact h 0 (by simp) vs (Off6.refl _ _) (fun j hj => by simp at hj)
  | v :: V, vs, hv, hnd => by
    have hn := List.nodup_cons.1 hnd
    have hpw : 0 < U.length ^ V.length := Nat.pow_pos hU
    have hU2 : ∀ d, d < U.length → U.getD d 0 ∈ U := fun d hd => by simp [List.getD_eq_getElem?_getD, hd]
    unfold vldL
    rw [List.all_eq_true]
    have hget : ∀ N j, j ∈ V → (numL U (v :: V) N).getD j 0 = (numL U V N).getD j 0 := fun N j hj => by
      have hne : v ≠ j := fun e => hn.1 (e ▸ hj)
      rw [numL]
      simp only [List.getD_eq_getElem?_getD, List.getElem?_set_ne hne]
    constructor
    · intro h N hN c hc hcv
      have hd : N / U.length ^ V.length < U.length := by
        rw [Nat.div_lt_iff_lt_mul hpw]
        rwa [List.length_cons, Nat.pow_succ, Nat.mul_comm] at hN
      have h1 := h _ (hU2 _ hd)
      rw [vld_num hU V _ (by simp [hv]) hn.2] at h1
      refine h1 (N % U.length ^ V.length) (Nat.mod_lt _ hpw) c ?_ ?_
      · refine ⟨by simp [hc.1], fun j hj => ?_⟩
        by_cases e : v = j
        · subst e
          have := hcv v (by simp)
          rw [numL, Nat.mod_eq_of_lt hd] at this
          rw [this]
          simp only [List.getD_eq_getElem?_getD, List.getElem?_set, if_true, numL_len, hv]
        · have h2 := hc.2 j (by simp; exact ⟨Ne.symm e, hj⟩)
          simp only [List.getD_eq_getElem?_getD, List.getElem?_set_ne e] at h2 ⊢
          exact h2
      · intro j hj
        rw [hcv j (by simp [hj]), hget N j hj]
        rw [numL_mod U (N % U.length ^ V.length) N V (fun k hk => mod_pow_digit _ _ _ _ hk)]
    · intro h u hu
      obtain ⟨d, hd, rfl⟩ := List.getElem_of_mem hu
      rw [vld_num hU V _ (by simp [hv]) hn.2]
      intro N hN c hc hcv
      have e1 : (d * U.length ^ V.length + N) / U.length ^ V.length = d := by
        rw [Nat.mul_comm, Nat.mul_add_div hpw, Nat.div_eq_of_lt hN]; rfl
      have e2 : (d * U.length ^ V.length + N) % U.length ^ V.length = N := by
        rw [Nat.mul_comm, Nat.mul_add_mod, Nat.mod_eq_of_lt hN]
      refine h (d * U.length ^ V.length + N) ?_ c ?_ ?_
      · rw [List.length_cons, Nat.pow_succ, Nat.mul_comm (U.length ^ V.length)]
        calc d * U.length ^ V.length + N < d * U.length ^ V.length + U.length ^ V.length := by omega
          _ = (d + 1) * U.length ^ V.length := by rw [Nat.add_mul, Nat.one_mul]
          _ ≤ U.length * U.length ^ V.length := Nat.mul_le_mul_right _ hd
      · have h2 := off_set V vs v U[d]
        exact (hc.mono (W := v :: V) (fun x hx => by simp [hx])).trans h2.symm
      · intro j hj
        rcases List.mem_cons.1 hj with rfl | hj
        · have h3 := hc.2 j hn.1
          rw [h3, numL, e1, Nat.mod_eq_of_lt hd]
          simp only [List.getD_eq_getElem?_getD, List.getElem?_set, if_true, numL_len, hv]
          by_cases h6 : j < 6
          · simp [h6, hd]
          · simp [h6]
        · rw [hcv j hj, hget _ j hj]
          rw [numL_mod U N (d * U.length ^ V.length + N) V (fun k hk => by rw [← mod_pow_digit U.length (d * U.length ^ V.length + N) k V.length hk, e2])]
/-- both ways agree -/
theorem vld_eq {P : List Nat → Bool} {U V : List Nat} (hU : 0 < U.length) (hV : V.Nodup) : vldL P U V (List.replicate 6 0) = true ↔ ∀ N, N < U.length ^ V.length → P (numL U V N) = true := by
  rw [vld_num hU V _ (by simp) hV]
  constructor
  · intro h N hN
    exact h N hN _ (numL_off U V N) (fun _ _ => rfl)
  · intro h N hN c hc hcv
    have : c = numL U V N := ext_getD (by rw [numL_len, hc.1]; simp) fun j => by
      by_cases hj : j ∈ V
      · exact hcv j hj
      · rw [hc.2 j hj, (numL_off U V N).2 j hj]
    rw [this]; exact h N hN
end Go.Proofs.YtponaoefpicfpaaGreatDoor
/- Upsets of an order and the arrow on them, both sides. -/
namespace Go.Proofs.YtponaoefpicfpaaGreatDoor
open Go.RowKit
/-- an upset of an order -/
def isUp (b : List Nat) (m : Nat) : Bool := img b m == m
def upK (b : List Nat) (k : Nat) : List Nat := (List.range k).filter (isUp b)
def upL (b : List Nat) : List Nat := upK b (2 ^ b.length)
theorem upK_zero (b : List Nat) : upK b 0 = [] := rfl
theorem upK_succ (b : List Nat) (k : Nat) : upK b (k + 1) = if isUp b k then upK b k ++ [k] else upK b k := by
  unfold upK
  rw [List.range_succ, List.filter_append]
  cases h : isUp b k <;> simp [h]
theorem upK_len (b : List Nat) (k : Nat) : (upK b k).length ≤ k := by
  unfold upK
  exact Nat.le_trans (List.length_filter_le _ _) (by simp)
theorem upK_lt {b : List Nat} {k x : Nat} (h : x ∈ upK b k) : x < k := by
  unfold upK at h
  simpa using (List.mem_filter.1 h).1
theorem upL_pos (b : List Nat) : 0 < (upL b).length := by
  have : 0 ∈ upL b := by
    unfold upL upK
    rw [List.mem_filter]
    refine ⟨by simp [Nat.two_pow_pos], ?_⟩
    have : ∀ k, imgL b 0 k = 0 := by
      intro k
      induction k with
      | zero => rfl
      | succ k ih => rw [imgL]; simp [ih]
    simp [isUp, img, this]
  exact List.length_pos_of_mem this
--
set_option maxRecDepth 20000 in
theorem isUpset_any (b : List Nat) (m : Nat) (v : Value) (w : World) (hv : Ints w v (zs b)) (hb : b.length ≤ 8) (hbm : ∀ x ∈ b, x < 2 ^ b.length) (hm : m < 2 ^ b.length) :
    Calls Tryz.prog 170 #[.agg #[.int .i64 b.length, v], .int .i64 m] w fun e w' => e = .returned (.bool (isUp b m)) ∧ Keeps w w' := by
  have kA := (Keeps.refl w).alloc (.cells #[.int .i64 b.length, v] 32)
  obtain ⟨c0, c1⟩ := BoxF.made w b.length v 32
  have HM := hid (fun wz => isMask_any b.length (m : Int) wz hb)
  rw [(isM_iff b.length (m : Int)).2 ⟨m, rfl, hm⟩] at HM
  have HI := hid (fun wz (kz : Keeps w wz) => image_any b m v wz (hv.keeps kz) hb hbm hm)
  have HE : Hid (isUp b m = (((img b m : Nat) : Int) == (m : Int))) := hid (by unfold isUp; rw [Bool.eq_iff_iff]; simp; omega)
  rw [HE.out]
  obtain ⟨p, cap, rfl, _⟩ := hv
  rw [zs_length] at *
  clear hbm hm HE
  generalize img b m = im at *
  generalize b.length = n at *
  go_enter Tryz.func170, Tryz.ntmps170
  go_wp2_with fail
  refine (HM.out _).mono ?_; rintro e w' ⟨rfl, rfl⟩
  go_wp2_with fail
  refine (HI.out _ kA).mono ?_; rintro e w2 ⟨rfl, k2⟩
  go_wp2_with fail
  go_ret
  exact ⟨rfl, kA.trans k2⟩
--
set_option maxRecDepth 20000 in
set_option maxHeartbeats 1000000 in
theorem upsets_any (b : List Nat) (v : Value) (w : World) (hv : Ints w v (zs b)) (hb : b.length ≤ 8) (hbm : ∀ x ∈ b, x < 2 ^ b.length) :
    Calls Tryz.prog 83 #[.agg #[.int .i64 b.length, v]] w fun e w' => ∃ v', e = .returned v' ∧ OwnI w' w.heap.size v' (zs (upL b)) ∧ Keeps w w' := by
  have kA := (Keeps.refl w).alloc (.cells #[.int .i64 b.length, v] 32)
  obtain ⟨c0, c1⟩ := BoxF.made w b.length v 32
  have HAL := hid (fun wz (kz : Keeps w wz) => posetAll_any b v wz (hv.keeps kz) hb)
  have HU := hid (fun m (hm : m < 2 ^ b.length) wz (kz : Keeps w wz) => isUpset_any b m v wz (hv.keeps kz) hb hbm hm)
  have HR := hid (upK_succ b)
  have HRL := hid (upK_len b)
  have HRE : Hid (upL b = upK b (2 ^ b.length)) := hid rfl
  have HR0 := hid (upK_zero b)
  rw [HRE.out]
  have h256 := two8 hb
  have hpos : 0 < 2 ^ b.length := Nat.two_pow_pos _
  obtain ⟨p, cap, rfl, _⟩ := hv
  rw [zs_length] at *
  clear hbm HRE
  obtain ⟨U, hU⟩ : ∃ U : Nat → Bool, ∀ m, U m = isUp b m := ⟨_, fun _ => rfl⟩
  simp only [← hU] at *
  obtain ⟨R, hRR⟩ : ∃ R : Nat → List Nat, ∀ m, R m = upK b m := ⟨_, fun _ => rfl⟩
  simp only [← hRR] at *
  clear hU hRR
  generalize 2 ^ b.length = M at *
  generalize b.length = n at *
  have hM1 : ((M - 1 : Nat) : Int) + 1 = (M : Int) := by omega
  have HM1 := hid hM1; clear hM1
  go_enter Tryz.func83, Tryz.ntmps83
  go_wp2_with fail
  refine (HAL.out _ kA).mono ?_; rintro e w2 ⟨rfl, k2⟩
  have kw2 := kA.trans k2
  replace c0 := k2.cell c0
  replace c1 := k2.cell c1
  go_wp2_with fail
  go_loopw [3, 8] (fun s3 s8 wr => ∃ i : Nat, i ≤ M ∧ s8 = .int .i64 i ∧ OwnI wr w2.heap.size s3 (zs (R i)) ∧ Keeps w2 wr) (fun _ s8 _ => M - (intOf s8).toNat)
  case atStart => exact ⟨0, by omega, rfl, by rw [HR0.out]; exact OwnI.nil _ _, Keeps.refl w2⟩
  case round =>
    obtain ⟨i, hi, rfl, hown, kw⟩ := hrel
    replace c0 := kw.cell c0
    replace c1 := kw.cell c1
    by_cases hlt : i < M
    · have hlt' : (i : Int) < ((M - 1 : Nat) : Int) + 1 := by omega
      have HS := hid (HU.out i hlt wr (kw2.trans kw))
      have HRI := hid (HR.out i)
      have hrl := HRL.out i
      have hzl := zs_length (R i)
      have hsz := kw.size
      have KW := hid kw; clear kw
      cases hu : U i
      · rw [hu] at HS HRI
        clear hu
        go_wp2_with fail
        refine HS.out.mono ?_; rintro e w3 ⟨rfl, k3⟩
        go_wp2_with fail
        go_roundw
        case rel => exact ⟨i + 1, by omega, by go_num, by have h := HRI.out; simp only [Bool.false_eq_true, if_false] at h; rw [h]; exact hown.keeps k3, KW.out.trans k3⟩
        case measure => simp [intOf]; omega
      · rw [hu] at HS HRI
        clear hu
        go_wp2_with fail
        refine HS.out.mono ?_; rintro e w3 ⟨rfl, k3⟩
        have hsz3 := k3.size
        have kA3 := (Keeps.refl w3).alloc (.cells #[.int .i64 (i : Int)] 2)
        go_wp2_with (at_builtin; refine appI rfl _ _ rfl w2.heap.size _ (zs (R i)) rfl ((hown.keeps k3).keeps kA3) _ [(i : Int)] rfl (Ints.lit1 w3 i) (by simp; omega) (by rw [hzl]; simp; omega) ?_; intro v1 w1 hv1 hg1 hr1)
        go_roundw
        case rel => exact ⟨i + 1, by omega, by go_num, by have h := HRI.out; simp only [if_true] at h; rw [h, zs_snoc]; exact hv1, ((KW.out.trans k3).trans kA3).grown hg1 hr1⟩
        case measure => simp [intOf]; omega
    · have e : M = i := by omega
      subst e
      have hlt' : ¬ (M : Int) < ((M - 1 : Nat) : Int) + 1 := by omega
      go_wp2_with fail
      go_ret
      exact ⟨_, rfl, hown.mono kw2.size, kw2.trans kw⟩
--
set_option maxRecDepth 20000 in
set_option maxHeartbeats 1000000 in
theorem l16Upsets_any (b : List Nat) (v : Value) (w : World) (hv : Ints w v (zs b)) (hb : b.length ≤ 8) (hbm : ∀ x ∈ b, x < 2 ^ b.length) :
    Calls Tryz.prog 62 #[.agg #[.int .i64 b.length, v]] w fun e w' => ∃ v', e = .returned v' ∧ OwnI w' w.heap.size v' (zs (upL b)) ∧ Keeps w w' := by
  have kA := (Keeps.refl w).alloc (.cells #[.int .i64 b.length, v] 32)
  obtain ⟨c0, c1⟩ := BoxF.made w b.length v 32
  have h256 := two8 hb
  have hpos : 0 < 2 ^ b.length := Nat.two_pow_pos _
  have HAL := hid (fun wz => l01Full_any (b.length : Int) wz (by omega) (by omega))
  have e2 : (2 : Int) ^ b.length - 1 = ((2 ^ b.length - 1 : Nat) : Int) := by
    rw [Int.ofNat_sub (by omega)]; push_cast; rfl
  simp only [Int.toNat_natCast, e2] at HAL
  have HU := hid (fun m (hm : m < 2 ^ b.length) wz (kz : Keeps w wz) => l01Image_any b m v wz (hv.keeps kz) hb hbm hm)
  have HR := hid (upK_succ b)
  have HRL := hid (upK_len b)
  have HRE : Hid (upL b = upK b (2 ^ b.length)) := hid rfl
  have HR0 := hid (upK_zero b)
  have HE : Hid (∀ m, isUp b m = (((img b m : Nat) : Int) == (m : Int))) := hid (fun m => by unfold isUp; rw [Bool.eq_iff_iff]; simp; omega)
  rw [HRE.out]
  obtain ⟨p, cap, rfl, _⟩ := hv
  rw [zs_length] at *
  clear hbm HRE e2
  obtain ⟨R, hRR⟩ : ∃ R : Nat → List Nat, ∀ m, R m = upK b m := ⟨_, fun _ => rfl⟩
  obtain ⟨I, hI⟩ : ∃ I : Nat → Nat, ∀ m, I m = img b m := ⟨_, fun _ => rfl⟩
  simp only [HE.out] at HR
  simp only [← hRR, ← hI] at *
  clear hRR hI HE
  generalize 2 ^ b.length = M at *
  generalize b.length = n at *
  go_enter Tryz.func62, Tryz.ntmps62
  obtain ⟨wA, hwA⟩ : ∃ wA, wA = w.alloc (.cells #[.int .i64 n, .slice p n cap] 32) := ⟨_, rfl⟩
  rw [← hwA] at kA c0 c1
  have HWE : Hid (OwnI (wA.alloc (.cells #[] 2)) wA.heap.size (.slice (some ⟨w.heap.size + 1, 0, none⟩) 0 0) (zs [])) := hid (by
    have h := OwnI.empty wA
    have hs : wA.heap.size = w.heap.size + 1 := by rw [hwA]; simp
    rw [hs] at h ⊢; exact h)
  have HWA := hid hwA; clear hwA
  go_wp2_with fail
  go_loopw [3, 4] (fun s3 s4 wr => ∃ i : Nat, i ≤ M ∧ s4 = .int .i64 i ∧ OwnI wr wA.heap.size s3 (zs (R i)) ∧ Keeps wA wr) (fun _ s4 _ => M - (intOf s4).toNat)
  case atStart => exact ⟨0, by omega, rfl, by rw [HR0.out]; have h := HWE.out; rw [HWA.out] at h ⊢; exact h, by rw [HWA.out]; exact (Keeps.refl _).alloc _⟩
  case round =>
    obtain ⟨i, hi, rfl, hown, kw⟩ := hrel
    replace c0 := kw.cell c0
    replace c1 := kw.cell c1
    by_cases hlt : i < M
    · have hlt' : (i : Int) ≤ ((M - 1 : Nat) : Int) := by omega
      have HS := hid (HU.out i hlt wr (kA.trans kw))
      have HRI := hid (HR.out i)
      have hrl := HRL.out i
      have hzl := zs_length (R i)
      have hsz := kw.size
      have KW := hid kw; clear kw
      generalize I i = x at *
      cases hu : (((x : Nat) : Int) == (i : Int))
      · rw [hu] at HRI
        go_wp2_with fail
        refine (HAL.out _).mono ?_; rintro e w' ⟨rfl, rfl⟩
        go_wp2_with fail
        refine HS.out.mono ?_; rintro e w' ⟨rfl, rfl⟩
        go_wp2_with fail
        go_roundw
        case rel => exact ⟨i + 1, by omega, by go_num, by have h := HRI.out; simp only [Bool.false_eq_true, if_false] at h; rw [h]; exact hown, KW.out⟩
        case measure => simp [intOf]; omega
      · rw [hu] at HRI
        have kA3 := (Keeps.refl wr).alloc (.cells #[.int .i64 (i : Int)] 2)
        go_wp2_with fail
        refine (HAL.out _).mono ?_; rintro e w' ⟨rfl, rfl⟩
        go_wp2_with fail
        refine HS.out.mono ?_; rintro e w' ⟨rfl, rfl⟩
        go_wp2_with (at_builtin; refine appI rfl _ _ rfl wA.heap.size _ (zs (R i)) rfl (hown.keeps kA3) _ [(i : Int)] rfl (Ints.lit1 wr i) (by simp; omega) (by rw [hzl]; simp; omega) ?_; intro v1 w1 hv1 hg1 hr1)
        go_roundw
        case rel => exact ⟨i + 1, by omega, by go_num, by have h := HRI.out; simp only [if_true] at h; rw [h, zs_snoc]; exact hv1, (KW.out.trans kA3).grown hg1 hr1⟩
        case measure => simp [intOf]; omega
    · have e : M = i := by omega
      subst e
      have hlt' : ¬ (M : Int) ≤ ((M - 1 : Nat) : Int) := by omega
      go_wp2_with fail
      refine (HAL.out _).mono ?_; rintro e w' ⟨rfl, rfl⟩
      go_wp2_with fail
      go_ret
      exact ⟨_, rfl, hown.mono kA.size, kA.trans kw⟩
end Go.Proofs.YtponaoefpicfpaaGreatDoor
/- The value of a plain formula in an order: the arrow on both sides, the reference's recursion. -/
namespace Go.Proofs.YtponaoefpicfpaaGreatDoor
open Go.RowKit
def impM (b : List Nat) (x y : Nat) : Nat := ((2 ^ b.length - 1) ^^^ ((2 ^ b.length - 1) &&& x)) ||| y
theorem impM_eq (b : List Nat) (x y : Nat) : impB b x y = boxB b (impM b x y) b.length := rfl
theorem impM_lt {b : List Nat} {x y : Nat} (hy : y < 2 ^ b.length) : impM b x y < 2 ^ b.length := by
  have hp : 0 < 2 ^ b.length := Nat.two_pow_pos _
  have h1 : 2 ^ b.length - 1 < 2 ^ b.length := by omega
  exact Nat.or_lt_two_pow (Nat.xor_lt_two_pow h1 (Nat.lt_of_le_of_lt Nat.and_le_left h1)) hy
theorem impM_int {b : List Nat} {x y : Nat} (hb : b.length ≤ 8) (hx : x < 2 ^ b.length) (hy : y < 2 ^ b.length) :
    bits .or .i64 (bits .andNot .i64 ((2 ^ b.length - 1 : Nat) : Int) (x : Int)) (y : Int) = ((impM b x y : Nat) : Int) := by
  have h256 := two8 hb
  have hp : 0 < 2 ^ b.length := Nat.two_pow_pos _
  rw [andNotN _ _ (by omega) (by omega)]
  have h1 : (2 ^ b.length - 1) ^^^ ((2 ^ b.length - 1) &&& x) < 2 ^ b.length := Nat.xor_lt_two_pow (by omega) (Nat.lt_of_le_of_lt Nat.and_le_left (by omega))
  rw [orN _ _ (by omega) (by omega)]; rfl
--
set_option maxRecDepth 20000 in
theorem imply_any (b : List Nat) (x y : Nat) (v : Value) (w : World) (hv : Ints w v (zs b)) (hb : b.length ≤ 8) (hbm : Bnd b.length b) (hx : x < 2 ^ b.length) (hy : y < 2 ^ b.length) :
    Calls Tryz.prog 283 #[.agg #[.int .i64 b.length, v], .int .i64 x, .int .i64 y] w fun e w' => e = .returned (.int .i64 (impB b x y)) ∧ Keeps w w' := by
  have kA := (Keeps.refl w).alloc (.cells #[.int .i64 b.length, v] 32)
  obtain ⟨c0, c1⟩ := BoxF.made w b.length v 32
  have HAL := hid (fun wz (kz : Keeps w wz) => posetAll_any b v wz (hv.keeps kz) hb)
  have HB := hid (fun wz (kz : Keeps w wz) => by
    have h := box_any b (impM b x y) v wz (hv.keeps kz) hb hbm (Nat.lt_of_lt_of_le (impM_lt hy) (two8 hb))
    rw [← impM_int hb hx hy] at h; exact h)
  have d0 := kA.drew
  have e0 := (Keeps.refl (w.alloc (.cells #[.int .i64 b.length, v] 32))).drew.cell c0
  have e1 := (Keeps.refl (w.alloc (.cells #[.int .i64 b.length, v] 32))).drew.cell c1
  rw [impM_eq]
  obtain ⟨p, cap, rfl, _⟩ := hv
  rw [zs_length] at *
  clear hbm hx hy
  generalize boxB b (impM b x y) b.length = r at *
  generalize 2 ^ b.length - 1 = M at *
  generalize b.length = n at *
  go_enter Tryz.func283, Tryz.ntmps283
  go_wp2_with fail
  go_region_held3 (fun w' => w'.cell? ⟨w.heap.size, 0, none⟩ = some (.int .i64 n) ∧ w'.cell? ⟨w.heap.size, 1, none⟩ = some (.slice p n cap)) (first | exact ⟨c0, c1⟩ | exact ⟨e0, e1⟩ | exact ⟨f0, f1⟩) (first
    | (go_at_call 157; refine (HAL.out _ d0).mono ?_; rintro e w6 ⟨rfl, k6⟩; have f0 := k6.cell e0; have f1 := k6.cell e1; have k7 := d0.trans k6)
    | (go_at_call 316; refine (HB.out _ k7).mono ?_; rintro e w8 ⟨rfl, rfl⟩))
  go_wp2_with fail
  go_ret
  exact ⟨rfl, k7⟩
--
set_option maxRecDepth 20000 in
theorem l17Arrow_any (b : List Nat) (x y : Nat) (v : Value) (w : World) (hv : Ints w v (zs b)) (hb : b.length ≤ 8) (hbm : Bnd b.length b) (hx : x < 2 ^ b.length) (hy : y < 2 ^ b.length) :
    Calls Tryz.prog 272 #[.agg #[.int .i64 b.length, v], .int .i64 x, .int .i64 y] w fun e w' => e = .returned (.int .i64 (impB b x y)) ∧ Keeps w w' := by
  have kA := (Keeps.refl w).alloc (.cells #[.int .i64 b.length, v] 32)
  obtain ⟨c0, c1⟩ := BoxF.made w b.length v 32
  have HAL := hid (fun wz => l01Full_any (b.length : Int) wz (by omega) (by omega))
  have hpos : 0 < 2 ^ b.length := Nat.two_pow_pos _
  have e2 : (2 : Int) ^ b.length - 1 = ((2 ^ b.length - 1 : Nat) : Int) := by
    rw [Int.ofNat_sub (by omega)]; push_cast; rfl
  simp only [Int.toNat_natCast, e2] at HAL
  have HB := hid (fun wz (kz : Keeps w wz) => by
    have h := l01Box_any b (impM b x y) v wz (hv.keeps kz) hb hbm (Nat.lt_of_lt_of_le (impM_lt hy) (two8 hb))
    rw [← impM_int hb hx hy] at h; exact h)
  have d0 := kA.drew
  have e0 := (Keeps.refl (w.alloc (.cells #[.int .i64 b.length, v] 32))).drew.cell c0
  have e1 := (Keeps.refl (w.alloc (.cells #[.int .i64 b.length, v] 32))).drew.cell c1
  rw [impM_eq]
  obtain ⟨p, cap, rfl, _⟩ := hv
  rw [zs_length] at *
  clear hbm hx hy hpos e2
  generalize boxB b (impM b x y) b.length = r at *
  generalize 2 ^ b.length - 1 = M at *
  generalize b.length = n at *
  go_enter Tryz.func272, Tryz.ntmps272
  go_wp2_with fail
  go_region_held3 (fun w' => w'.cell? ⟨w.heap.size, 0, none⟩ = some (.int .i64 n) ∧ w'.cell? ⟨w.heap.size, 1, none⟩ = some (.slice p n cap)) (first | exact ⟨c0, c1⟩ | exact ⟨e0, e1⟩ | exact ⟨k8.cell e0, k8.cell e1⟩) (first
    | (go_at_call 104; refine (HAL.out _).mono ?_; rintro e w6 ⟨rfl, rfl⟩)
    | (go_at_call 295; refine (HB.out _ d0).mono ?_; rintro e w8 ⟨rfl, k8⟩))
  go_wp2_with fail
  go_ret
  exact ⟨rfl, d0.trans k8⟩
end Go.Proofs.YtponaoefpicfpaaGreatDoor
