/- What returns a rule and an error; the laws of such functions. -/
import Derived.Test.YtgnehffglhbggaaGreatGL4
import Derived.Test.YtgnehffglhbggaaGreatGP6
import Derived.Test.YtgnehffglhbggaaGreatGU1
namespace Go.Proofs.YtgnehffglhbggaaGreat
open Go.RowKit
theorem At.touch {w w' : World} {S : Nat → Prop} {p : Option Addr} {vs : List Value} (h : At w p vs) (k : Touch w w' S) (hS : ∀ b off, p = some ⟨b, off, none⟩ → ¬ S b) : At w' p vs := fun j hj => by
  obtain ⟨b, off, hp, hc⟩ := h j hj
  exact ⟨b, off, hp, by rw [(k.cell (World.block_lt_of_cell? _ _ hc) (hS b off hp)).1]; exact hc⟩
def RetRE (w : World) (xs : List (List Nd)) (c : List Nd) (code : Int) (e : Ending) (w' : World) : Prop :=
  ∃ v u, e = .returned (.tuple #[.agg #[v, u], .int .i64 code]) ∧ OwnR w' w.heap.size v u xs c ∧ Keeps w w'
end Go.Proofs.YtgnehffglhbggaaGreat
/- Walks: Visser's rules on both sides. -/
namespace Go.Proofs.YtgnehffglhbggaaGreat
open Go.RowKit
theorem OwnR.touch {w w' : World} {S : Nat → Prop} {B : Nat} {v u : Value} {xs : List (List Nd)} {c : List Nd} (h : OwnR w B v u xs c) (k : Touch w w' S) (hS : ∀ i, B ≤ i → ¬ S i) : OwnR w' B v u xs c := by
  obtain ⟨vs, ho, hr, ha, hf⟩ := h
  exact ⟨vs, own_touch ho k (fun i e => hS i (World.ownsRow.lt ho i e).1), hr.touch k (fun i e => hS i (hr.lt e).1), ha, hf⟩
theorem OwnR.setBelow {w : World} {B : Nat} {v u : Value} {xs : List (List Nd)} {c : List Nd} (h : OwnR w B v u xs c) {b o : Nat} (hb : b < B) (x : Value) : OwnR (w.setCell ⟨b, o, none⟩ x) B v u xs c :=
  h.touch (Touch.grown (grown_set b o x)) (fun i hi e => by cases e; omega)
theorem OwnR.mk1 {w1 w2 : World} {B : Nat} {v1 u : Value} {x c : List Nd} (h1 : OwnN w1 B v1 x) (hB : B ≤ w1.heap.size) (kk : Keeps (w1.alloc (.cells #[v1] 46)) w2) (h2 : OwnN w2 (w1.heap.size + 1) u c) :
    OwnR w2 B (.slice (some ⟨w1.heap.size, 0, none⟩) 1 1) u [x] c := by
  have k1 := ((Keeps.refl w1).alloc (.cells #[v1] 46)).trans kk
  have hv := h1.len
  refine ⟨[v1], ?_, RowsN.cons (h2.mono (by omega)) (RowsN.cons (h1.keeps k1) (RowsN.nil _ _)), Apart.cons (fun i hi k hk e => ?_) (Apart.cons (Off.nil _) Apart.nil), fun i hi k hk e => ?_⟩
  · have : (w1.alloc (.cells #[v1] 46)).ownsRow B 46 1 (.slice (some ⟨w1.heap.size, 0, none⟩) 1 1) 1 [v1] :=
      ⟨rfl, .inr ⟨w1.heap.size, 1, _, rfl, hB, heap_alloc_new w1 _, Nat.le_refl _, by simp [maxLen], rfl, rfl⟩⟩
    exact own_keeps this kk
  · obtain rfl : i = 0 := by simp at hi; omega
    have := (h2.len k hk).1
    have := (hv k e).2
    omega
  · have hk' : k = w1.heap.size := by simp [Value.ownBlock] at hk; exact hk.symm
    subst hk'
    cases i with
    | zero => have := (h2.len _ e).1; omega
    | succ i =>
      obtain rfl : i = 0 := by simp at hi; omega
      have := (hv _ e).2; omega
namespace Vr
def p : Fm := .var 0
def q : Fm := .var 1
def r : Fm := .var 2
def s : Fm := .var 3
def t : Fm := .var 4
def u : Fm := .var 5
def x1 : Fm := .imp p q
def x2 : Fm := .and (.imp p q) (.imp r s)
def p1 : Fm := .imp x1 (.or r s)
def c1 : Fm := .or (.or (.imp x1 p) (.imp x1 r)) (.imp x1 s)
def p2 : Fm := .imp x2 (.or t u)
def c2 : Fm := .or (.or (.or (.imp x2 p) (.imp x2 r)) (.imp x2 t)) (.imp x2 u)
end Vr
def visP (n : Int) : List (List Nd) := if n = 1 then [Vr.p1.enc] else if n = 2 then [Vr.p2.enc] else []
def visC (n : Int) : List Nd := if n = 1 then Vr.c1.enc else if n = 2 then Vr.c2.enc else []
def visE (n : Int) : Int := if n = 1 then 0 else if n = 2 then 0 else 2
theorem vis_wf : Vr.p1.wf ∧ Vr.c1.wf ∧ Vr.p2.wf ∧ Vr.c2.wf := by
  simp [Fm.wf, Vr.p1, Vr.c1, Vr.p2, Vr.c2, Vr.x1, Vr.x2, Vr.p, Vr.q, Vr.r, Vr.s, Vr.t, Vr.u]
theorem vis_len (n : Int) : (visP n).length ≤ 1000 ∧ tot (visP n) + (visC n).length ≤ 1000 := by
  unfold visP visC
  split
  · decide +kernel
  · split <;> decide +kernel
end Go.Proofs.YtgnehffglhbggaaGreat
/- Walks: the laws' sizes and copies of lists of node lists and of rules. -/
namespace Go.Proofs.YtgnehffglhbggaaGreat
open Go.RowKit
/-- a list of lists whose lengths are known -/
def LenL (w : World) (v : Value) (ns : List Nat) : Prop := SlC 1 (fun _ f (n : Nat) => ∃ p cap, f 0 = .slice p n cap ∧ n ≤ maxLen) w v ns
theorem LenL.keeps {w w' : World} {v : Value} {ns : List Nat} (h : LenL w v ns) (k : Keeps w w') : LenL w' v ns := SlC.keeps (fun _ _ _ _ _ h => h) h k
theorem NdsL.lens {w : World} {v : Value} {xs : List (List Nd)} (h : NdsL w v xs) : LenL w v (xs.map List.length) := by
  obtain ⟨p, cap, hv, h1, h2, h3, h4⟩ := h
  refine ⟨p, cap, by simpa using hv, by simpa using h1, h2, by simpa using h3, fun i hi => ?_⟩
  obtain ⟨b, off, f, hp, hc, hr⟩ := h4 i (by simpa using hi)
  refine ⟨b, off, f, hp, hc, ?_⟩
  obtain ⟨p', cap', e, h5, h6, _⟩ := hr
  exact ⟨p', cap', by simpa using e, by simp; omega⟩
def szF : Int → List Nat → Int
  | l, [] => l
  | l, n :: ns => if l < n then -1 else szF (l - n) ns
def sumN : List Nat → Nat
  | [] => 0
  | n :: ns => n + sumN ns
theorem szF_eq (ns : List Nat) : ∀ l : Int, 0 ≤ l → szF l ns = if l < sumN ns then -1 else l - sumN ns := by
  induction ns with
  | nil => intro l h; simp [szF, sumN]; omega
  | cons n ns ih =>
    intro l h
    have e : (sumN (n :: ns) : Int) = n + sumN ns := by simp [sumN]
    rw [e]
    simp only [szF]
    split
    · rw [if_pos (by omega)]
    · rw [ih _ (by omega)]
      split
      · rw [if_pos (by omega)]
      · rw [if_neg (by omega)]; omega
theorem sumN_tot (xs : List (List Nd)) : sumN (xs.map List.length) = tot xs := by
  induction xs with
  | nil => rfl
  | cons x xs ih => simp [sumN, tot, ih]
end Go.Proofs.YtgnehffglhbggaaGreat
