import Derived.Test.YtkkcfifnkcnceaaGreatHW7
import Derived.Test.YtkkcfifnkcnceaaGreatHQ1
import Derived.Test.YtkkcfifnkcnceaaGreatHBase
import Derived.Test.YtkkcfifnkcnceaaGreatHV5
/- Walks: masks of variables and their members, on both sides; errors of lists of formulas. -/
namespace Go.Proofs.YtkkcfifnkcnceaaGreat
open Go.RowKit
end Go.Proofs.YtkkcfifnkcnceaaGreat
namespace Go.Proofs.YtkkcfifnkcnceaaGreat
open Go.RowKit
structure Touch (w w' : World) (S : Nat → Prop) : Prop where
 os : w'.os = w.os
 tape : w'.tape = w.tape
 output : w'.output = w.output
 size : w.heap.size ≤ w'.heap.size
 block : ∀ k, k < w.heap.size → ¬ S k → w'.heap[k]? = w.heap[k]?
theorem Touch.grown {a b : World} {row : Option Nat} (h : a.grownBy b row) : Touch a b (fun k => some k = row) :=
 ⟨h.os, h.tape, h.output, h.size, fun i hi hn => h.block i hi hn⟩
theorem own_touch {w w' : World} {S : Nat → Prop} {base : Nat} {e : TypeId} {size : Nat} {v : Value} {n : Nat} {xs : List Value} (h : w.ownsRow base e size v n xs) (k : Touch w w' S) (hS : ∀ i, v.ownBlock = some i → ¬ S i) : w'.ownsRow base e size v n xs := by
 refine ⟨h.1, ?_⟩
 rcases h.2 with hn | ⟨g, cap, cur, rfl, hb, hgg, rest⟩
 ·exact .inl hn
 ·exact .inr ⟨g, cap, cur, rfl, hb, (k.block g (Array.getElem?_eq_some_iff.1 hgg).1 (hS g rfl)).trans hgg, rest⟩
end Go.Proofs.YtkkcfifnkcnceaaGreat
namespace Go.Proofs.YtkkcfifnkcnceaaGreat
open Go.RowKit
def Apart (vs : List Value) : Prop := ∀ i j (hi : i < vs.length) (hj : j < vs.length), i ≠ j → ∀ k, vs[i].ownBlock = some k → vs[j].ownBlock ≠ some k
def Off (v : Value) (vs : List Value) : Prop := ∀ i (hi : i < vs.length) k, v.ownBlock = some k → vs[i].ownBlock ≠ some k
def blk (vs : List Value) (k : Nat) : Prop := ∃ i, ∃ h : i < vs.length, vs[i].ownBlock = some k
def RowsN (w : World) (B : Nat) (vs : List Value) (xs : List (List Nd)) : Prop := vs.length = xs.length ∧ ∀ i (h1 : i < vs.length) (h2 : i < xs.length), OwnN w B vs[i] xs[i]
theorem OwnN.touch {w w' : World} {S : Nat → Prop} {B : Nat} {v : Value} {x : List Nd} (h : OwnN w B v x) (k : Touch w w' S) (hS : ∀ i, v.ownBlock = some i → ¬ S i) : OwnN w' B v x := own_touch h k hS
theorem RowsN.nil (w : World) (B : Nat) : RowsN w B [] [] := ⟨rfl, fun i h => by simp at h⟩
theorem RowsN.snoc {w : World} {B : Nat} {v : Value} {vs : List Value} {x : List Nd} {xs : List (List Nd)} (h : OwnN w B v x) (hs : RowsN w B vs xs) : RowsN w B (vs ++ [v]) (xs ++ [x]) :=
 ⟨by simp [hs.1], fun i h1 h2 => by
  have hl := hs.1
  by_cases hi : i < vs.length
  ·rw [List.getElem_append_left hi, List.getElem_append_left (by omega)]; exact hs.2 i hi (by omega)
  ·simp at h1
   obtain rfl : i = vs.length := by omega
   rw [List.getElem_append_right (Nat.le_refl _), List.getElem_append_right (by omega)]
   simpa [hl] using h⟩
theorem RowsN.keeps {w w' : World} {B : Nat} {vs : List Value} {xs : List (List Nd)} (h : RowsN w B vs xs) (k : Keeps w w') : RowsN w' B vs xs := ⟨h.1, fun i h1 h2 => (h.2 i h1 h2).keeps k⟩
theorem RowsN.touch {w w' : World} {S : Nat → Prop} {B : Nat} {vs : List Value} {xs : List (List Nd)} (h : RowsN w B vs xs) (k : Touch w w' S) (hS : ∀ i, blk vs i → ¬ S i) : RowsN w' B vs xs :=
 ⟨h.1, fun i h1 h2 => (h.2 i h1 h2).touch k (fun j e => hS j ⟨i, h1, e⟩)⟩
theorem RowsN.lt {w : World} {B : Nat} {vs : List Value} {xs : List (List Nd)} (h : RowsN w B vs xs) {k : Nat} (hk : blk vs k) : B ≤ k ∧ k < w.heap.size := by
 obtain ⟨i, hi, e⟩ := hk
 exact (h.2 i hi (by have := h.1; omega)).len k e
theorem Apart.nil : Apart [] := fun i j hi => by simp at hi
theorem Off.nil (v : Value) : Off v [] := fun i hi => by simp at hi
theorem Off.not_blk {v : Value} {vs : List Value} (h : Off v vs) {k : Nat} (hk : v.ownBlock = some k) : ¬ blk vs k := fun ⟨i, hi, e⟩ => h i hi k hk e
theorem Apart.snoc {v : Value} {vs : List Value} (h : ∀ k, v.ownBlock = some k → ¬ blk vs k) (hs : Apart vs) : Apart (vs ++ [v]) := fun i j hi hj hne k hk => by
 simp at hi hj
 by_cases h1 : i < vs.length
 ·rw [List.getElem_append_left h1] at hk
  by_cases h2 : j < vs.length
  ·rw [List.getElem_append_left h2]; exact hs i j h1 h2 hne k hk
  ·obtain rfl : j = vs.length := by omega
   rw [List.getElem_append_right (Nat.le_refl _)]
   intro e; exact h k (by simpa using e) ⟨i, h1, hk⟩
 ·obtain rfl : i = vs.length := by omega
  rw [List.getElem_append_right (Nat.le_refl _)] at hk
  have h2 : j < vs.length := by omega
  rw [List.getElem_append_left h2]
  intro e; exact h k (by simpa using hk) ⟨j, h2, e⟩
def tot : List (List Nd) → Nat
 | [] => 0
 | x :: xs => x.length + tot xs
theorem tot_append (xs ys : List (List Nd)) : tot (xs ++ ys) = tot xs + tot ys := by
 induction xs with
 | nil => simp [tot]
 | cons x xs ih => simp [tot, ih]; omega
theorem tot_take (xs : List (List Nd)) (i : Nat) (h : i < xs.length) : tot (xs.take (i + 1)) = tot (xs.take i) + xs[i].length := by
 rw [List.take_succ_eq_append_getElem h, tot_append]; simp [tot]
theorem tot_le (xs : List (List Nd)) (i : Nat) : tot (xs.take i) ≤ tot xs := by
 have := tot_append (xs.take i) (xs.drop i)
 rw [List.take_append_drop] at this; omega
theorem tot_mem (xs : List (List Nd)) (i : Nat) (h : i < xs.length) : tot (xs.take i) + xs[i].length ≤ tot xs := by
 rw [← tot_take xs i h]; exact tot_le xs _
def OwnL (w : World) (B : Nat) (v : Value) (xs : List (List Nd)) : Prop := ∃ vs, w.ownsRow B 95 1 v xs.length vs ∧ RowsN w B vs xs ∧ Apart vs ∧ Off v vs
theorem rows_ndsL {w : World} {B : Nat} {p : Option Addr} {cap : Nat} {vs : List Value} {xs : List (List Nd)} (hat : At w p vs) (hr : RowsN w B vs xs) (h1 : xs.length ≤ cap) (h2 : cap ≤ maxLen) (h3 : xs.length ≤ 2147483648) (h4 : tot xs ≤ 2147483648) : NdsL w (.slice p xs.length cap) xs := by
 refine ⟨p, cap, rfl, h1, h2, h3, fun i hi => ?_⟩
 have hl := hr.1
 obtain ⟨b, off, hp, hc⟩ := hat i (by omega)
 refine ⟨b, off, fun _ => vs[i], hp, fun c hc' => ?_, (hr.2 i (by omega) hi).nds (by have := tot_mem xs i hi; omega)⟩
 obtain rfl : c = 0 := by omega
 simpa using hc
theorem OwnL.ndsL {w : World} {B : Nat} {v : Value} {xs : List (List Nd)} (h : OwnL w B v xs) (h3 : xs.length ≤ 2147483648) (h4 : tot xs ≤ 2147483648) : NdsL w v xs := by
 obtain ⟨vs, ho, hr, _, _⟩ := h
 obtain ⟨p, cap, rfl, h1, h2, hat⟩ := At.of_own ho
 exact rows_ndsL hat hr h1 h2 h3 h4
end Go.Proofs.YtkkcfifnkcnceaaGreat
namespace Go.Proofs.YtkkcfifnkcnceaaGreat
open Go.RowKit
end Go.Proofs.YtkkcfifnkcnceaaGreat
