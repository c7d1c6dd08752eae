/- The map of what is known: look-up and store, in plain words; worlds in which one map alone turns. -/
import Derived.Test.YtodeecmhcfbheaaGreatGV8
import Derived.MapFrom
import Derived.Maps.OwnIn
namespace Go.Proofs.YtodeecmhcfbheaaGreat
open Go.RowKit Go.MapKept
/-- one map may turn: all that can be read stays -/
def Turns (m : Nat) (w w' : World) : Prop := w.grownBy w' (some m) ∧ (∀ p v, w.cell? p = some v → w'.cell? p = some v)
theorem Turns.trans {m : Nat} {a b c : World} (h : Turns m a b) (k : Turns m b c) : Turns m a c := ⟨grown_trans h.1 k.1, fun p v hc => k.2 p v (h.2 p v hc)⟩
theorem Turns.ofKeeps {m : Nat} {a b : World} (h : Keeps a b) : Turns m a b := ⟨⟨h.os, h.tape, h.output, h.size, fun _k hk _ => h.block hk⟩, fun _ _ hc => h.cell hc⟩
theorem Turns.refl (m : Nat) (w : World) : Turns m w w := Turns.ofKeeps (Keeps.refl w)
theorem Turns.keeps {m : Nat} {a b : World} (h : Turns m a b) {c : World} (hm : c.heap.size ≤ m) (k : Keeps c a) : Keeps c b := k.grown h.1 (by rintro _ ⟨⟩; exact hm)
theorem Turns.size {m : Nat} {a b : World} (h : Turns m a b) : a.heap.size ≤ b.heap.size := h.1.size
theorem At.turns {m : Nat} {w w' : World} {p : Option Addr} {vs : List Value} (h : At w p vs) (k : Turns m w w') : At w' p vs := fun j hj => by
  obtain ⟨b, off, hp, hc⟩ := h j hj
  exact ⟨b, off, hp, k.2 _ _ hc⟩
theorem Nds.turns {m : Nat} {w w' : World} {v : Value} {a : List Nd} (h : Nds w v a) (k : Turns m w w') : Nds w' v a := by
  obtain ⟨p, cap, hv, h1, h2, h3, h4⟩ := h
  exact ⟨p, cap, hv, h1, h2, h3.turns k, h4⟩
theorem SlC.turns {m : Nat} {α : Type} {sz : Nat} {R : World → (Nat → Value) → α → Prop} (hR : ∀ w w' f x, Turns m w w' → R w f x → R w' f x) {w w' : World} {v : Value} {xs : List α} (h : SlC sz R w v xs) (k : Turns m w w') : SlC sz R w' v xs := by
  obtain ⟨p, cap, hv, h1, h2, h3, h4⟩ := h
  refine ⟨p, cap, hv, h1, h2, h3, fun i hi => ?_⟩
  obtain ⟨b, off, f, hp, hc, hr⟩ := h4 i hi
  exact ⟨b, off, f, hp, fun c hcs => k.2 _ _ (hc c hcs), hR _ _ _ _ k hr⟩
theorem NdsL.turns {m : Nat} {w w' : World} {v : Value} {xs : List (List Nd)} (h : NdsL w v xs) (k : Turns m w w') : NdsL w' v xs :=
  SlC.turns (R := fun w f x => Nds w (f 0) x) (fun _ _ _ _ k h => Nds.turns h k) h k
theorem Strs.turns {m : Nat} {w w' : World} {v : Value} {ss : List ByteArray} (h : Strs w v ss) (k : Turns m w w') : Strs w' v ss :=
  SlC.turns (R := fun _ f (s : ByteArray) => f 0 = .string s) (fun _ _ _ _ _ h => h) h k
/-- block m is a map of answers, each of which is right -/
def Ans (w : World) (m : Nat) (S : ByteArray → Bool → Prop) : Prop := ∃ es clock, w.heap[m]? = some (.map es clock) ∧ ∀ x ∈ es.toList, ∃ s b, x.key = .string s ∧ x.val = .bool b ∧ S s b
theorem Ans.lt {w : World} {m : Nat} {S : ByteArray → Bool → Prop} (h : Ans w m S) : m < w.heap.size := by
  obtain ⟨es, clock, hb, _⟩ := h
  exact (Array.getElem?_eq_some_iff.1 hb).1
theorem Ans.keeps {w w' : World} {m : Nat} {S : ByteArray → Bool → Prop} (h : Ans w m S) (k : Keeps w w') : Ans w' m S := by
  have hl := h.lt
  obtain ⟨es, clock, hb, he⟩ := h
  exact ⟨es, clock, (k.block hl).trans hb, he⟩
theorem Ans.made (w : World) (S : ByteArray → Bool → Prop) : Ans (w.alloc (.map #[] 0)) w.heap.size S := ⟨#[], 0, (MapKept.heap_alloc w _).1, by simp⟩
section
variable {P : Program} {w : World} {t k e : TypeId} {m : Nat} {S : ByteArray → Bool → Prop} (ht : P.underlying t = some (.map k e)) (hk : P.underlying k = some .string)
include ht hk
theorem Ans.look (h : Ans w m S) (hz : (zeroValue e).run P w = .ok (.bool false) w) (s : ByteArray) :
    ∃ b ok, (Instr.lookup t (.map (some m)) (.string s) true).run P w = .ok (.tuple #[.bool b, .bool ok]) w ∧ (ok = true → S s b) := by
  obtain ⟨es, clock, hb, he⟩ := h
  have hik : IsKey .string (.string s) := trivial
  have hks : ∀ x ∈ es.toList, IsKey .string x.key := fun x hx => by obtain ⟨s', _, h1, _⟩ := he x hx; rw [h1]; trivial
  rcases findNow_spec hik es.toList 0 hks with ⟨h1, _⟩ | ⟨j, x, h1, h2, h3⟩
  · refine ⟨false, false, ?_, fun h => by cases h⟩
    simp [Instr.lookup, run_underlying ht, MapKept.run_getObj_map hb, run_checkKey hk hik, run_findKey hk h1, hz, Result.andThen]
  · have hx : x ∈ es.toList := List.mem_of_getElem? h2
    obtain ⟨s', b, g1, g2, g3⟩ := he x hx
    rw [h3] at g1
    cases g1
    refine ⟨b, true, ?_, fun _ => g3⟩
    simp [Instr.lookup, run_underlying ht, MapKept.run_getObj_map hb, run_checkKey hk hik, run_findKey hk h1, g2, Result.andThen]
theorem Ans.put (h : Ans w m S) (s : ByteArray) (b : Bool) (hS : S s b) :
    ∃ w', (Instr.mapUpdate t (.map (some m)) (.string s) (.bool b)).run P w = .ok () w' ∧ Ans w' m S ∧ Turns m w w' := by
  obtain ⟨es, clock, hb, he⟩ := h
  have hik : IsKey .string (.string s) := trivial
  have hks : ∀ x ∈ es.toList, IsKey .string x.key := fun x hx => by obtain ⟨s', _, h1, _⟩ := he x hx; rw [h1]; trivial
  have hrd : ∀ es' clock', Turns m w { w with heap := w.heap.setIfInBounds m (.map es' clock') } := fun es' clock' => by
    refine ⟨⟨rfl, rfl, rfl, by simp, fun k _ hk => ?_⟩, fun p v hc => ?_⟩
    · exact (heap_set hb).2 k (fun e => hk (by rw [e]))
    · have hne : p.block ≠ m := by
        rintro rfl
        simp [World.cell?, hb] at hc
      simp only [World.cell?] at hc ⊢
      rw [(heap_set hb).2 p.block hne]
      exact hc
  rcases findNow_spec hik es.toList 0 hks with ⟨h1, _⟩ | ⟨j, x, h1, h2, h3⟩
  · refine ⟨_, by simp [Instr.mapUpdate, run_underlying ht, MapKept.run_getObj_map hb, run_checkKey hk hik, run_findKey hk h1, MapKept.run_setObj_map _ hb, Result.andThen]; rfl, ⟨_, _, (heap_set hb).1, ?_⟩, hrd _ _⟩
    intro x hx
    simp only [Array.toList_push, List.mem_append, List.mem_singleton] at hx
    rcases hx with hx | rfl
    · exact he x hx
    · exact ⟨s, b, rfl, rfl, hS⟩
  · have hj : es[j]? = some x := by simpa using h2
    refine ⟨_, by simp [Instr.mapUpdate, run_underlying ht, MapKept.run_getObj_map hb, run_checkKey hk hik, run_findKey hk h1, hj, h3, run_keyThatStays hik, MapKept.run_setObj_map _ hb, Result.andThen]; rfl, ⟨_, _, (heap_set hb).1, ?_⟩, hrd _ _⟩
    intro y hy
    obtain ⟨i, hi⟩ := List.getElem?_of_mem hy
    simp only [Array.getElem?_toList, Array.getElem?_modify] at hi
    by_cases hij : j = i
    · subst hij
      simp [hj] at hi
      subst hi
      exact ⟨s, b, by simp, rfl, hS⟩
    · simp [hij] at hi
      exact he y (List.mem_of_getElem? (by simpa using hi))
theorem wpList_ans_look {ops : Array Oper} {rest : List Oper} {o : Oper} {a : Act} {Q : Exit → Act → World → Prop} (hg : o.guard = none) (x y : Operand) (hop : o.op = Op.lookup t x y true)
    (hz : (zeroValue e).run P w = .ok (.bool false) w) (hx : a.eval x = .map (some m)) (h : Ans w m S) (s : ByteArray) (hy : a.eval y = .string s)
    (hK : ∀ b ok, (ok = true → S s b) → wpList P ops Q rest (a.put o.dst (.tuple #[.bool b, .bool ok])) w) : wpList P ops Q (o :: rest) a w := by
  refine wpList_plain hg fun K' hK' => ?_
  obtain ⟨b, ok, hrun, hv⟩ := h.look ht hk hz s
  unfold Oper.wp
  simp [execOp, hop, hx, hy, hrun, Result.andThen]
  exact hK' _ _ (hK b ok hv)
theorem wpList_ans_put {ops : Array Oper} {rest : List Oper} {o : Oper} {a : Act} {Q : Exit → Act → World → Prop} (hg : o.guard = none) (x y z : Operand) (hop : o.op = Op.mapUpdate t x y z)
    (hx : a.eval x = .map (some m)) (h : Ans w m S) (s : ByteArray) (hy : a.eval y = .string s) (b : Bool) (hz : a.eval z = .bool b) (hS : S s b)
    (hK : ∀ w', Ans w' m S → Turns m w w' → wpList P ops Q rest (a.put o.dst undef) w') : wpList P ops Q (o :: rest) a w := by
  refine wpList_plain hg fun K' hK' => ?_
  obtain ⟨w', hrun, r1, r2⟩ := h.put ht hk s b hS
  unfold Oper.wp
  simp [execOp, hop, hx, hy, hz, hrun, Result.andThen]
  exact hK' _ _ (hK w' r1 r2)
end
end Go.Proofs.YtodeecmhcfbheaaGreat
