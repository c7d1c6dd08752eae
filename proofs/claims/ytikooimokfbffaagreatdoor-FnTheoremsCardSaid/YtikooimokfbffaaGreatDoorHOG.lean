import Derived.Test.YtikooimokfbffaaGreatDoorHPC
import Derived.Test.YtikooimokfbffaaGreatDoorHPG
import Derived.Test.YtikooimokfbffaaGreatDoorHBase
import Derived.Deep.AppendLies
import Derived.Test.YtikooimokfbffaaGreatDoorHQ3
import Derived.Test.YtikooimokfbffaaGreatDoorHPD
import Derived.Test.YtikooimokfbffaaGreatDoorHQA
/- Plain mathematics: the least forms of posets with up to four elements, made in two ways (printed by mkpk.py). -/
namespace Go.Proofs.YtikooimokfbffaaGreatDoor
def lessL : List Nat → List Nat → Bool
 | [], [] => false
 | [], _ :: _ => true
 | _ :: _, [] => false
 | x :: a, y :: b => if x = y then lessL a b else decide (x < y)
theorem lessL_irr : ∀ a, lessL a a = false
 | [] => rfl
 | x :: a => by rw [lessL, if_pos rfl, lessL_irr a]
theorem lessL_trans : ∀ {a b c : List Nat}, lessL a b = true → lessL b c = true → lessL a c = true
 | [], [], _, h, _ => by cases h
 | [], _ :: _, [], _, h => by cases h
 | [], _ :: _, _ :: _, _, _ => rfl
 | _ :: _, [], _, h, _ => by cases h
 | _ :: _, _ :: _, [], _, h => by cases h
 | x :: a, y :: b, z :: c, h1, h2 => by
  rw [lessL] at h1 h2 ⊢
  by_cases e1 : x = y
  ·rw [if_pos e1] at h1
   subst e1
   by_cases e2 : x = z
   ·rw [if_pos e2] at h2 ⊢
    exact lessL_trans h1 h2
   ·rw [if_neg e2] at h2 ⊢
    exact h2
  ·rw [if_neg e1, decide_eq_true_eq] at h1
   by_cases e2 : y = z
   ·subst e2
    rw [if_neg e1, decide_eq_true_eq]
    exact h1
   ·rw [if_neg e2, decide_eq_true_eq] at h2
    rw [if_neg (by omega), decide_eq_true_eq]
    omega
theorem lessL_tri : ∀ a b : List Nat, lessL a b = true ∨ a = b ∨ lessL b a = true
 | [], [] => .inr (.inl rfl)
 | [], _ :: _ => .inl rfl
 | _ :: _, [] => .inr (.inr rfl)
 | x :: a, y :: b => by
  rw [lessL, lessL]
  by_cases e : x = y
  ·subst e
   rw [if_pos rfl, if_pos rfl]
   rcases lessL_tri a b with h | h | h
   ·exact .inl h
   ·exact .inr (.inl (by rw [h]))
   ·exact .inr (.inr h)
  ·rw [if_neg e, if_neg (Ne.symm e), decide_eq_true_eq, decide_eq_true_eq]
   rcases Nat.lt_or_gt_of_ne e with h | h
   ·exact .inl h
   ·exact .inr (.inr h)
def AscL (l : List (List Nat)) : Prop := l.Pairwise (fun a b => lessL a b = true)
def insL (x : List Nat) : List (List Nat) → List (List Nat)
 | [] => [x]
 | y :: l => if lessL x y then x :: y :: l else if x = y then y :: l else y :: insL x l
def sortU (l : List (List Nat)) : List (List Nat) := l.foldl (fun s x => insL x s) []
theorem insL_mem (x u : List Nat) : ∀ l, u ∈ insL x l ↔ u = x ∨ u ∈ l
 | [] => by simp [insL]
 | y :: l => by
  rw [insL]
  by_cases h : lessL x y = true
  ·rw [if_pos h]; simp
  ·rw [if_neg h]
   by_cases e : x = y
   ·rw [if_pos e]; subst e; simp
   ·rw [if_neg e, List.mem_cons, insL_mem x u l, List.mem_cons]
    exact ⟨fun h => by rcases h with h | h | h <;> simp [h], fun h => by rcases h with h | h | h <;> simp [h]⟩
theorem insL_asc (x : List Nat) : ∀ l, AscL l → AscL (insL x l)
 | [], _ => by unfold AscL insL; simp
 | y :: l, h => by
  have h' := List.pairwise_cons.1 h
  rw [insL]
  by_cases h1 : lessL x y = true
  ·rw [if_pos h1]
   refine List.pairwise_cons.2 ⟨fun u hu => ?_, h⟩
   rcases List.mem_cons.1 hu with e | e
   ·rw [e]; exact h1
   ·exact lessL_trans h1 (h'.1 u e)
  ·rw [if_neg h1]
   by_cases e : x = y
   ·rw [if_pos e]; exact h
   ·rw [if_neg e]
    refine List.pairwise_cons.2 ⟨fun u hu => ?_, insL_asc x l h'.2⟩
    rcases (insL_mem x u l).1 hu with e2 | e2
    ·subst e2
     rcases lessL_tri u y with h2 | h2 | h2
     ·exact absurd h2 h1
     ·exact absurd h2 e
     ·exact h2
    ·exact h'.1 u e2
theorem foldl_insL_asc : ∀ (l s : List (List Nat)), AscL s → AscL (l.foldl (fun s x => insL x s) s)
 | [], _, h => h
 | x :: l, s, h => foldl_insL_asc l _ (insL_asc x s h)
theorem foldl_insL_mem (u : List Nat) : ∀ (l s : List (List Nat)), u ∈ l.foldl (fun s x => insL x s) s ↔ u ∈ l ∨ u ∈ s
 | [], s => by simp
 | x :: l, s => by
  rw [List.foldl_cons, foldl_insL_mem u l, insL_mem, List.mem_cons]
  exact ⟨fun h => by rcases h with h | h | h <;> simp [h], fun h => by rcases h with (h | h) | h <;> simp [h]⟩
theorem sortU_asc (l : List (List Nat)) : AscL (sortU l) := foldl_insL_asc l [] List.Pairwise.nil
theorem sortU_mem {u : List Nat} {l : List (List Nat)} : u ∈ sortU l ↔ u ∈ l := by
 unfold sortU
 rw [foldl_insL_mem]
 simp
theorem ascL_ext : ∀ {a b : List (List Nat)}, AscL a → AscL b → (∀ u, u ∈ a ↔ u ∈ b) → a = b
 | [], [], _, _, _ => rfl
 | [], y :: b, _, _, h => absurd ((h y).2 (by simp)) (by simp)
 | x :: a, [], _, _, h => absurd ((h x).1 (by simp)) (by simp)
 | x :: a, y :: b, h1, h2, h => by
  have g1 := List.pairwise_cons.1 h1
  have g2 := List.pairwise_cons.1 h2
  have hxy : x = y := by
   rcases List.mem_cons.1 ((h x).1 (by simp)) with e | e
   ·exact e
   ·rcases List.mem_cons.1 ((h y).2 (by simp)) with e2 | e2
    ·exact e2.symm
    ·have := lessL_trans (g1.1 y e2) (g2.1 x e)
     rw [lessL_irr] at this; cases this
  subst hxy
  rw [ascL_ext g1.2 g2.2 fun u => ?_]
  constructor
  ·intro hu
   rcases List.mem_cons.1 ((h u).1 (List.mem_cons_of_mem _ hu)) with e | e
   ·subst e
    have := g1.1 u hu
    rw [lessL_irr] at this; cases this
   ·exact e
  ·intro hu
   rcases List.mem_cons.1 ((h u).2 (List.mem_cons_of_mem _ hu)) with e | e
   ·subst e
    have := g2.1 u hu
    rw [lessL_irr] at this; cases this
   ·exact e
theorem sortU_of {a l : List (List Nat)} (h : AscL a) (hm : ∀ u, u ∈ a ↔ u ∈ l) : a = sortU l := ascL_ext h (sortU_asc l) fun u => (hm u).trans sortU_mem.symm
def growP (n : Nat) : Nat → List Nat → List (List Nat)
 | 0, o => [o]
 | f + 1, o => ((List.range n).filter fun i => !o.contains i).flatMap fun i => growP n f (o ++ [i])
def permP (n : Nat) : List (List Nat) := growP n n []
def sqz (o : List Nat) (m : Nat) : Nat → Nat
 | 0 => 0
 | k + 1 => sqz o m k ||| (if m.testBit (o.getD k 0) then 2 ^ k else 0)
def renP (a o : List Nat) : List Nat := o.map fun x => sqz o (a.getD x 0) o.length
def leastP (a : List Nat) : List Nat := (permP a.length).foldl (fun best o => if lessL (renP a o) best then renP a o else best) a
def repP (n k : Nat) : List Nat := (List.range n).map fun x => k >>> (x * n) &&& (2 ^ n - 1)
def codP (n lo cnt : Nat) : List (List Nat) := (((List.range' lo cnt).map (repP n)).filter posB).map leastP
def lisR (n : Nat) : Nat → List (List Nat)
 | 0 => [[]]
 | x + 1 => (lisR n x).flatMap fun l => ((List.range (2 ^ n)).filter fun m => m.testBit x).map fun m => l ++ [m]
def allR (n : Nat) : List (List Nat) := (lisR n n).filter fun p => posB p && leastP p == p
theorem codP_add (n lo a b : Nat) : codP n lo (a + b) = codP n lo a ++ codP n (lo + a) b := by
 unfold codP
 rw [← List.map_append, ← List.filter_append, ← List.map_append, ← List.range'_append_1]
set_option maxRecDepth 100000 in
theorem posets_1 : sortU (codP 1 0 2) = allR 1 := by decide +kernel
set_option maxRecDepth 100000 in
theorem posets_2 : sortU (codP 2 0 16) = allR 2 := by decide +kernel
set_option maxRecDepth 100000 in
theorem posets_3 : sortU (codP 3 0 512) = allR 3 := by decide +kernel
def pos4 : List (List Nat) := [[1, 2, 4, 8], [1, 2, 4, 9], [1, 2, 4, 11], [1, 2, 4, 15], [1, 2, 5, 9], [1, 2, 5, 10], [1, 2, 5, 11], [1, 2, 5, 13], [1, 2, 5, 15], [1, 2, 7, 11], [1, 2, 7, 15], [1, 3, 5, 9], [1, 3, 5, 11], [1, 3, 5, 15], [1, 3, 7, 11], [1, 3, 7, 15]]
set_option maxRecDepth 100000 in
theorem posets_r4 : allR 4 = pos4 := by decide +kernel
set_option maxRecDepth 100000 in
theorem posets_c0 : (codP 4 0 4096).foldl (fun s x => insL x s) [] = [] := by decide +kernel
set_option maxRecDepth 100000 in
theorem posets_c1 : (codP 4 4096 4096).foldl (fun s x => insL x s) [] = [] := by decide +kernel
set_option maxRecDepth 100000 in
theorem posets_c2 : (codP 4 8192 4096).foldl (fun s x => insL x s) [] = [] := by decide +kernel
set_option maxRecDepth 100000 in
theorem posets_c3 : (codP 4 12288 4096).foldl (fun s x => insL x s) [] = [] := by decide +kernel
set_option maxRecDepth 100000 in
theorem posets_c4 : (codP 4 16384 4096).foldl (fun s x => insL x s) [] = [] := by decide +kernel
set_option maxRecDepth 100000 in
theorem posets_c5 : (codP 4 20480 4096).foldl (fun s x => insL x s) [] = [] := by decide +kernel
set_option maxRecDepth 100000 in
theorem posets_c6 : (codP 4 24576 4096).foldl (fun s x => insL x s) [] = [] := by decide +kernel
set_option maxRecDepth 100000 in
theorem posets_c7 : (codP 4 28672 4096).foldl (fun s x => insL x s) [] = [] := by decide +kernel
set_option maxRecDepth 100000 in
theorem posets_c8 : (codP 4 32768 4096).foldl (fun s x => insL x s) [] = [[1, 2, 4, 8], [1, 2, 4, 9], [1, 2, 4, 11], [1, 2, 4, 15], [1, 2, 5, 9], [1, 2, 5, 10], [1, 2, 5, 11], [1, 2, 5, 13], [1, 2, 5, 15], [1, 2, 7, 11], [1, 2, 7, 15], [1, 3, 5, 9], [1, 3, 5, 11], [1, 3, 5, 15], [1, 3, 7, 11], [1, 3, 7, 15]] := by decide +kernel
set_option maxRecDepth 100000 in
theorem posets_c9 : (codP 4 36864 4096).foldl (fun s x => insL x s) [[1, 2, 4, 8], [1, 2, 4, 9], [1, 2, 4, 11], [1, 2, 4, 15], [1, 2, 5, 9], [1, 2, 5, 10], [1, 2, 5, 11], [1, 2, 5, 13], [1, 2, 5, 15], [1, 2, 7, 11], [1, 2, 7, 15], [1, 3, 5, 9], [1, 3, 5, 11], [1, 3, 5, 15], [1, 3, 7, 11], [1, 3, 7, 15]] = [[1, 2, 4, 8], [1, 2, 4, 9], [1, 2, 4, 11], [1, 2, 4, 15], [1, 2, 5, 9], [1, 2, 5, 10], [1, 2, 5, 11], [1, 2, 5, 13], [1, 2, 5, 15], [1, 2, 7, 11], [1, 2, 7, 15], [1, 3, 5, 9], [1, 3, 5, 11], [1, 3, 5, 15], [1, 3, 7, 11], [1, 3, 7, 15]] := by decide +kernel
set_option maxRecDepth 100000 in
theorem posets_c10 : (codP 4 40960 4096).foldl (fun s x => insL x s) [[1, 2, 4, 8], [1, 2, 4, 9], [1, 2, 4, 11], [1, 2, 4, 15], [1, 2, 5, 9], [1, 2, 5, 10], [1, 2, 5, 11], [1, 2, 5, 13], [1, 2, 5, 15], [1, 2, 7, 11], [1, 2, 7, 15], [1, 3, 5, 9], [1, 3, 5, 11], [1, 3, 5, 15], [1, 3, 7, 11], [1, 3, 7, 15]] = [[1, 2, 4, 8], [1, 2, 4, 9], [1, 2, 4, 11], [1, 2, 4, 15], [1, 2, 5, 9], [1, 2, 5, 10], [1, 2, 5, 11], [1, 2, 5, 13], [1, 2, 5, 15], [1, 2, 7, 11], [1, 2, 7, 15], [1, 3, 5, 9], [1, 3, 5, 11], [1, 3, 5, 15], [1, 3, 7, 11], [1, 3, 7, 15]] := by decide +kernel
set_option maxRecDepth 100000 in
theorem posets_c11 : (codP 4 45056 4096).foldl (fun s x => insL x s) [[1, 2, 4, 8], [1, 2, 4, 9], [1, 2, 4, 11], [1, 2, 4, 15], [1, 2, 5, 9], [1, 2, 5, 10], [1, 2, 5, 11], [1, 2, 5, 13], [1, 2, 5, 15], [1, 2, 7, 11], [1, 2, 7, 15], [1, 3, 5, 9], [1, 3, 5, 11], [1, 3, 5, 15], [1, 3, 7, 11], [1, 3, 7, 15]] = [[1, 2, 4, 8], [1, 2, 4, 9], [1, 2, 4, 11], [1, 2, 4, 15], [1, 2, 5, 9], [1, 2, 5, 10], [1, 2, 5, 11], [1, 2, 5, 13], [1, 2, 5, 15], [1, 2, 7, 11], [1, 2, 7, 15], [1, 3, 5, 9], [1, 3, 5, 11], [1, 3, 5, 15], [1, 3, 7, 11], [1, 3, 7, 15]] := by decide +kernel
set_option maxRecDepth 100000 in
theorem posets_c12 : (codP 4 49152 4096).foldl (fun s x => insL x s) [[1, 2, 4, 8], [1, 2, 4, 9], [1, 2, 4, 11], [1, 2, 4, 15], [1, 2, 5, 9], [1, 2, 5, 10], [1, 2, 5, 11], [1, 2, 5, 13], [1, 2, 5, 15], [1, 2, 7, 11], [1, 2, 7, 15], [1, 3, 5, 9], [1, 3, 5, 11], [1, 3, 5, 15], [1, 3, 7, 11], [1, 3, 7, 15]] = [[1, 2, 4, 8], [1, 2, 4, 9], [1, 2, 4, 11], [1, 2, 4, 15], [1, 2, 5, 9], [1, 2, 5, 10], [1, 2, 5, 11], [1, 2, 5, 13], [1, 2, 5, 15], [1, 2, 7, 11], [1, 2, 7, 15], [1, 3, 5, 9], [1, 3, 5, 11], [1, 3, 5, 15], [1, 3, 7, 11], [1, 3, 7, 15]] := by decide +kernel
set_option maxRecDepth 100000 in
theorem posets_c13 : (codP 4 53248 4096).foldl (fun s x => insL x s) [[1, 2, 4, 8], [1, 2, 4, 9], [1, 2, 4, 11], [1, 2, 4, 15], [1, 2, 5, 9], [1, 2, 5, 10], [1, 2, 5, 11], [1, 2, 5, 13], [1, 2, 5, 15], [1, 2, 7, 11], [1, 2, 7, 15], [1, 3, 5, 9], [1, 3, 5, 11], [1, 3, 5, 15], [1, 3, 7, 11], [1, 3, 7, 15]] = [[1, 2, 4, 8], [1, 2, 4, 9], [1, 2, 4, 11], [1, 2, 4, 15], [1, 2, 5, 9], [1, 2, 5, 10], [1, 2, 5, 11], [1, 2, 5, 13], [1, 2, 5, 15], [1, 2, 7, 11], [1, 2, 7, 15], [1, 3, 5, 9], [1, 3, 5, 11], [1, 3, 5, 15], [1, 3, 7, 11], [1, 3, 7, 15]] := by decide +kernel
set_option maxRecDepth 100000 in
theorem posets_c14 : (codP 4 57344 4096).foldl (fun s x => insL x s) [[1, 2, 4, 8], [1, 2, 4, 9], [1, 2, 4, 11], [1, 2, 4, 15], [1, 2, 5, 9], [1, 2, 5, 10], [1, 2, 5, 11], [1, 2, 5, 13], [1, 2, 5, 15], [1, 2, 7, 11], [1, 2, 7, 15], [1, 3, 5, 9], [1, 3, 5, 11], [1, 3, 5, 15], [1, 3, 7, 11], [1, 3, 7, 15]] = [[1, 2, 4, 8], [1, 2, 4, 9], [1, 2, 4, 11], [1, 2, 4, 15], [1, 2, 5, 9], [1, 2, 5, 10], [1, 2, 5, 11], [1, 2, 5, 13], [1, 2, 5, 15], [1, 2, 7, 11], [1, 2, 7, 15], [1, 3, 5, 9], [1, 3, 5, 11], [1, 3, 5, 15], [1, 3, 7, 11], [1, 3, 7, 15]] := by decide +kernel
set_option maxRecDepth 100000 in
theorem posets_c15 : (codP 4 61440 4096).foldl (fun s x => insL x s) [[1, 2, 4, 8], [1, 2, 4, 9], [1, 2, 4, 11], [1, 2, 4, 15], [1, 2, 5, 9], [1, 2, 5, 10], [1, 2, 5, 11], [1, 2, 5, 13], [1, 2, 5, 15], [1, 2, 7, 11], [1, 2, 7, 15], [1, 3, 5, 9], [1, 3, 5, 11], [1, 3, 5, 15], [1, 3, 7, 11], [1, 3, 7, 15]] = [[1, 2, 4, 8], [1, 2, 4, 9], [1, 2, 4, 11], [1, 2, 4, 15], [1, 2, 5, 9], [1, 2, 5, 10], [1, 2, 5, 11], [1, 2, 5, 13], [1, 2, 5, 15], [1, 2, 7, 11], [1, 2, 7, 15], [1, 3, 5, 9], [1, 3, 5, 11], [1, 3, 5, 15], [1, 3, 7, 11], [1, 3, 7, 15]] := by decide +kernel
theorem posets_4 : sortU (codP 4 0 65536) = allR 4 := by
 rw [posets_r4]
 unfold sortU
 rw [show codP 4 0 65536 = codP 4 0 4096 ++ codP 4 4096 61440 from codP_add 4 0 4096 61440, List.foldl_append, posets_c0]
 rw [show codP 4 4096 61440 = codP 4 4096 4096 ++ codP 4 8192 57344 from codP_add 4 4096 4096 57344, List.foldl_append, posets_c1]
 rw [show codP 4 8192 57344 = codP 4 8192 4096 ++ codP 4 12288 53248 from codP_add 4 8192 4096 53248, List.foldl_append, posets_c2]
 rw [show codP 4 12288 53248 = codP 4 12288 4096 ++ codP 4 16384 49152 from codP_add 4 12288 4096 49152, List.foldl_append, posets_c3]
 rw [show codP 4 16384 49152 = codP 4 16384 4096 ++ codP 4 20480 45056 from codP_add 4 16384 4096 45056, List.foldl_append, posets_c4]
 rw [show codP 4 20480 45056 = codP 4 20480 4096 ++ codP 4 24576 40960 from codP_add 4 20480 4096 40960, List.foldl_append, posets_c5]
 rw [show codP 4 24576 40960 = codP 4 24576 4096 ++ codP 4 28672 36864 from codP_add 4 24576 4096 36864, List.foldl_append, posets_c6]
 rw [show codP 4 28672 36864 = codP 4 28672 4096 ++ codP 4 32768 32768 from codP_add 4 28672 4096 32768, List.foldl_append, posets_c7]
 rw [show codP 4 32768 32768 = codP 4 32768 4096 ++ codP 4 36864 28672 from codP_add 4 32768 4096 28672, List.foldl_append, posets_c8]
 rw [show codP 4 36864 28672 = codP 4 36864 4096 ++ codP 4 40960 24576 from codP_add 4 36864 4096 24576, List.foldl_append, posets_c9]
 rw [show codP 4 40960 24576 = codP 4 40960 4096 ++ codP 4 45056 20480 from codP_add 4 40960 4096 20480, List.foldl_append, posets_c10]
 rw [show codP 4 45056 20480 = codP 4 45056 4096 ++ codP 4 49152 16384 from codP_add 4 45056 4096 16384, List.foldl_append, posets_c11]
 rw [show codP 4 49152 16384 = codP 4 49152 4096 ++ codP 4 53248 12288 from codP_add 4 49152 4096 12288, List.foldl_append, posets_c12]
 rw [show codP 4 53248 12288 = codP 4 53248 4096 ++ codP 4 57344 8192 from codP_add 4 53248 4096 8192, List.foldl_append, posets_c13]
 rw [show codP 4 57344 8192 = codP 4 57344 4096 ++ codP 4 61440 4096 from codP_add 4 57344 4096 4096, List.foldl_append, posets_c14]
 exact posets_c15
theorem posets_eq : ∀ n, n ≤ 4 → 1 ≤ n → sortU (codP n 0 (2 ^ (n * n))) = allR n := by
 intro n hn h1
 have : n = 1 ∨ n = 2 ∨ n = 3 ∨ n = 4 := by omega
 rcases this with rfl | rfl | rfl | rfl
 ·exact posets_1
 ·exact posets_2
 ·exact posets_3
 ·exact posets_4
end Go.Proofs.YtikooimokfbffaaGreatDoor
namespace Go.Proofs.YtikooimokfbffaaGreatDoor
def usedB (o : List Nat) : Nat := o.foldl (fun acc x => acc ||| 2 ^ x) 0
theorem usedB_snoc (o : List Nat) (k : Nat) : usedB (o ++ [k]) = usedB o ||| 2 ^ k := by simp [usedB, List.foldl_append]
theorem foldl_used_bit (i : Nat) : ∀ (o : List Nat) (m : Nat), (o.foldl (fun acc x => acc ||| 2 ^ x) m).testBit i = (m.testBit i || o.contains i)
 | [], m => by simp
 | x :: o, m => by
  rw [List.foldl_cons, foldl_used_bit i o, Nat.testBit_or, Nat.testBit_two_pow, List.contains_cons]
  by_cases h : x = i
  ·subst h; simp
  ·have : (i == x) = false := by simp; omega
   rw [decide_eq_false h, this]; simp
theorem usedB_bit (o : List Nat) (i : Nat) : (usedB o).testBit i = o.contains i := by
 unfold usedB
 rw [foldl_used_bit]; simp
theorem foldl_used_lt (n : Nat) : ∀ (o : List Nat) (m : Nat), (∀ x ∈ o, x < n) → m < 2 ^ n → o.foldl (fun acc x => acc ||| 2 ^ x) m < 2 ^ n
 | [], _, _, h => h
 | x :: o, m, hx, h => by
  rw [List.foldl_cons]
  exact foldl_used_lt n o _ (fun y hy => hx y (by simp [hy])) (Nat.or_lt_two_pow h (Nat.pow_lt_pow_right (by omega) (hx x (by simp))))
theorem usedB_lt {n : Nat} {o : List Nat} (h : ∀ x ∈ o, x < n) : usedB o < 2 ^ n := foldl_used_lt n o 0 h (Nat.two_pow_pos n)
def growK (n f : Nat) (o : List Nat) : Nat → List (List Nat)
 | 0 => []
 | k + 1 => growK n f o k ++ (if o.contains k then [] else growP n f (o ++ [k]))
theorem growK_upto (n f : Nat) (o : List Nat) : ∀ k, growK n f o k = ((List.range k).filter fun i => !o.contains i).flatMap fun i => growP n f (o ++ [i])
 | 0 => rfl
 | k + 1 => by
  rw [growK, growK_upto n f o k, List.range_succ, List.filter_append, List.flatMap_append]
  congr 1
  by_cases h : o.contains k = true
  ·rw [if_pos h]; simp at h; simp [h]
  ·rw [if_neg h]; simp at h; simp [h]
theorem growK_all (n f : Nat) (o : List Nat) : growK n f o n = growP n (f + 1) o := growK_upto n f o n
theorem growK_sub {n f : Nat} {o : List Nat} {x : List Nat} : ∀ {k m : Nat}, k ≤ m → x ∈ growK n f o k → x ∈ growK n f o m
 | k, 0, h, hx => by
  have : k = 0 := by omega
  subst this; exact hx
 | k, m + 1, h, hx => by
  by_cases e : k = m + 1
  ·subst e; exact hx
  ·rw [growK]
   exact List.mem_append.2 (.inl (growK_sub (by omega) hx))
theorem growK_step {n f : Nat} {o : List Nat} {k : Nat} (hk : k < n) (ho : o.contains k = false) {x : List Nat} (hx : x ∈ growP n f (o ++ [k])) : x ∈ growP n (f + 1) o := by
 rw [← growK_all]
 refine growK_sub (k := k + 1) (by omega) ?_
 rw [growK, if_neg (by rw [ho]; simp)]
 exact List.mem_append.2 (.inr hx)
def toP (n : Nat) (o : List Nat) : Nat → List Nat
 | 0 => List.replicate n 0
 | k + 1 => (toP n o k).set (o.getD k 0) k
theorem toP_len (n : Nat) (o : List Nat) : ∀ k, (toP n o k).length = n
 | 0 => by simp [toP]
 | k + 1 => by rw [toP, List.length_set, toP_len n o k]
theorem toP_le (n : Nat) (o : List Nat) : ∀ k j, (toP n o k).getD j 0 ≤ k
 | 0, j => by
  simp only [toP, List.getD_eq_getElem?_getD, List.getElem?_replicate]
  split <;> simp
 | k + 1, j => by
  have h := toP_le n o k j
  simp only [toP, List.getD_eq_getElem?_getD, List.getElem?_set] at h ⊢
  split
  ·split
   ·simp
   ·simp
  ·omega
def orP (t l : List Nat) : Nat := l.foldl (fun acc y => acc ||| 2 ^ (t.getD y 0)) 0
theorem orP_snoc (t l : List Nat) (y : Nat) : orP t (l ++ [y]) = orP t l ||| 2 ^ (t.getD y 0) := by simp [orP, List.foldl_append]
theorem orP_lt {t : List Nat} {n : Nat} (h : ∀ j, t.getD j 0 < n) (l : List Nat) : orP t l < 2 ^ n := by
 have : ∀ (l : List Nat) (m : Nat), m < 2 ^ n → l.foldl (fun acc y => acc ||| 2 ^ (t.getD y 0)) m < 2 ^ n := by
  intro l
  induction l with
  | nil => intro m h; exact h
  | cons y l ih => intro m hm; exact ih _ (Nat.or_lt_two_pow hm (Nat.pow_lt_pow_right (by omega) (h y)))
 exact this l 0 (Nat.two_pow_pos n)
def renQ (a o : List Nat) : List Nat := o.map fun x => orP (toP o.length o o.length) (memB (a.getD x 0))
set_option maxRecDepth 100000 in
theorem row_tab : ∀ n : Fin 5, ∀ o ∈ permP n, o.length = n ∧ (∀ x ∈ o, x < n) ∧ ∀ m : Fin (2 ^ (n : Nat)), orP (toP o.length o o.length) (memB m) = sqz o m o.length := by decide +kernel
theorem perm_len {n : Nat} (hn : n ≤ 4) {o : List Nat} (ho : o ∈ permP n) : o.length = n ∧ ∀ x ∈ o, x < n :=
 ⟨(row_tab ⟨n, by omega⟩ o ho).1, (row_tab ⟨n, by omega⟩ o ho).2.1⟩
theorem ren_eq {n : Nat} (hn : n ≤ 4) {a o : List Nat} (ha : Bnd n a) (ho : o ∈ permP n) : renQ a o = renP a o := by
 unfold renQ renP
 refine List.map_congr_left fun x _ => ?_
 exact (row_tab ⟨n, by omega⟩ o ho).2.2 ⟨a.getD x 0, ha x⟩
theorem sqz_lt (o : List Nat) (m : Nat) : ∀ k, sqz o m k < 2 ^ k
 | 0 => by simp [sqz]
 | k + 1 => by
  rw [sqz]
  have h := sqz_lt o m k
  refine Nat.or_lt_two_pow (by rw [Nat.pow_succ]; omega) ?_
  split
  ·exact Nat.pow_lt_pow_right (by omega) (by omega)
  ·exact Nat.two_pow_pos _
theorem renP_len (a o : List Nat) : (renP a o).length = o.length := by simp [renP]
theorem renP_bnd (a o : List Nat) : Bnd o.length (renP a o) := mem_bnd fun x hx => by
 obtain ⟨y, _, rfl⟩ := List.mem_map.1 hx
 exact sqz_lt _ _ _
def betP (a best o : List Nat) : List Nat := if lessL (renP a o) best then renP a o else best
theorem leastP_fold (a : List Nat) : leastP a = (permP a.length).foldl (betP a) a := rfl
theorem fold_bet {a : List Nat} {n : Nat} : ∀ (l : List (List Nat)) (best : List Nat), (∀ o ∈ l, o.length = n) → best.length = n → Bnd n best → (l.foldl (betP a) best).length = n ∧ Bnd n (l.foldl (betP a) best)
 | [], best, _, h1, h2 => ⟨h1, h2⟩
 | o :: l, best, h, h1, h2 => by
  rw [List.foldl_cons]
  have ho := h o (by simp)
  refine fold_bet l _ (fun o' ho' => h o' (by simp [ho'])) ?_ ?_
  ·unfold betP; split
   ·rw [renP_len, ho]
   ·exact h1
  ·unfold betP; split
   ·have := renP_bnd a o; rwa [ho] at this
   ·exact h2
theorem leastP_len {a : List Nat} (hn : a.length ≤ 4) (ha : Bnd a.length a) : (leastP a).length = a.length ∧ Bnd a.length (leastP a) :=
 fold_bet _ a (fun _ ho => (perm_len hn ho).1) rfl ha
def cmpL (a b : List Nat) : Int := if lessL a b then -1 else if a = b then 0 else 1
theorem cmpL_neg (a b : List Nat) : decide (cmpL a b < 0) = lessL a b := by
 unfold cmpL
 cases h : lessL a b
 ·simp only [Bool.false_eq_true, if_false]
  split <;> simp
 ·simp
theorem codP_succ (n k : Nat) : codP n 0 (k + 1) = codP n 0 k ++ (if posB (repP n k) then [leastP (repP n k)] else []) := by
 rw [codP_add, Nat.zero_add]
 congr 1
 unfold codP
 simp only [List.range'_one, List.map_cons, List.map_nil]
 cases h : posB (repP n k) <;> simp [h]
theorem repP_len (n k : Nat) : (repP n k).length = n := by simp [repP]
theorem and_full_lt (m n : Nat) : m &&& (2 ^ n - 1) < 2 ^ n := by
 rw [Nat.and_two_pow_sub_one_eq_mod]; exact Nat.mod_lt _ (Nat.two_pow_pos n)
theorem repP_bnd (n k : Nat) : Bnd n (repP n k) := mem_bnd fun x hx => by
 obtain ⟨y, _, rfl⟩ := List.mem_map.1 hx
 exact and_full_lt _ _
def repK (n k x : Nat) : List Nat := (List.range x).map fun x => k >>> (x * n) &&& (2 ^ n - 1)
theorem repK_succ (n k x : Nat) : repK n k (x + 1) = repK n k x ++ [k >>> (x * n) &&& (2 ^ n - 1)] := by simp [repK, List.range_succ]
theorem repK_len (n k x : Nat) : (repK n k x).length = x := by simp [repK]
theorem codP_len (n : Nat) : ∀ k, (codP n 0 k).length ≤ k := fun k => by
 unfold codP
 rw [List.length_map]
 refine Nat.le_trans (List.length_filter_le _ _) ?_
 simp
theorem codP_mem {n k : Nat} (hn : n ≤ 4) {x : List Nat} (h : x ∈ codP n 0 k) : x.length = n ∧ Bnd n x := by
 unfold codP at h
 obtain ⟨a, ha, rfl⟩ := List.mem_map.1 h
 obtain ⟨i, _, rfl⟩ := List.mem_map.1 (List.mem_filter.1 ha).1
 have := leastP_len (a := repP n i) (by rw [repP_len]; exact hn) (by rw [repP_len]; exact repP_bnd n i)
 rwa [repP_len] at this
def smallK : Nat → List (List Nat)
 | 0 => []
 | k + 1 => smallK k ++ allR (k + 1)
def smallR : List (List Nat) := smallK 4
set_option maxRecDepth 100000 in
theorem small_tab : smallR = [[1], [1, 2], [1, 3], [1, 2, 4], [1, 2, 5], [1, 2, 7], [1, 3, 5], [1, 3, 7]] ++ pos4 := by
 have h1 : allR 1 = [[1]] := by decide +kernel
 have h2 : allR 2 = [[1, 2], [1, 3]] := by decide +kernel
 have h3 : allR 3 = [[1, 2, 4], [1, 2, 5], [1, 2, 7], [1, 3, 5], [1, 3, 7]] := by decide +kernel
 unfold smallR smallK smallK smallK smallK smallK
 rw [h1, h2, h3, posets_r4]
 rfl
def okP (p : List Nat) : Bool := decide (1 ≤ p.length) && decide (p.length ≤ 4) && p.all (fun x => decide (x < 2 ^ p.length)) && posB p
theorem small_ok : ∀ p ∈ smallR, okP p = true := by rw [small_tab]; decide +kernel
theorem small_len : smallR.length = 24 := by rw [small_tab]; rfl
theorem small_pos {p : List Nat} (h : p ∈ smallR) : 1 ≤ p.length ∧ p.length ≤ 4 ∧ Bnd p.length p ∧ posB p = true := by
 have := small_ok p h
 unfold okP at this
 simp only [Bool.and_eq_true, decide_eq_true_eq, List.all_eq_true] at this
 exact ⟨this.1.1.1, this.1.1.2, mem_bnd this.1.2, this.2⟩
end Go.Proofs.YtikooimokfbffaaGreatDoor
namespace Go.Proofs.YtikooimokfbffaaGreatDoor
open Go.RowKit
theorem type_ne {w : World} {B B' : Nat} {T1 T2 : TypeId} {s s' n m : Nat} {v u : Value} {xs ys : List Value} (h1 : w.ownsRow B T1 s v n xs) (h2 : w.ownsRow B' T2 s' u m ys) (hne : T1 ≠ T2) {k : Nat} (hv : v.ownBlock = some k) : u.ownBlock ≠ some k := by
 intro hu
 rcases h1.2 with ⟨rfl, _⟩ | ⟨g, cap, cur, rfl, _, hg, _⟩
 ·simp [Value.ownBlock] at hv
 rcases h2.2 with ⟨rfl, _⟩ | ⟨g', cap', cur', rfl, _, hg', _⟩
 ·simp [Value.ownBlock] at hu
 simp [Value.ownBlock] at hv hu
 subst hv; subst hu
 rw [hg] at hg'
 injection hg' with e
 injection e with _ e2 _
 exact hne e2
theorem At.lit1 (w : World) (u : Value) (E : TypeId) : At (w.alloc (.cells #[u] E)) (some ⟨w.heap.size, 0, none⟩) [u] := by
 intro j hj
 simp at hj
 subst hj
 exact ⟨_, _, rfl, by simp⟩
end Go.Proofs.YtikooimokfbffaaGreatDoor
namespace Go.Proofs.YtikooimokfbffaaGreatDoor
open Go.RowKit
end Go.Proofs.YtikooimokfbffaaGreatDoor
namespace Go.Proofs.YtikooimokfbffaaGreatDoor
open Go.RowKit
def RowsI (w : World) (B : Nat) (vs : List Value) (xs : List (List Nat)) : Prop := vs.length = xs.length ∧ ∀ i (h1 : i < vs.length) (h2 : i < xs.length), OwnI w B vs[i] (zs xs[i])
theorem RowsI.nil (w : World) (B : Nat) : RowsI w B [] [] := ⟨rfl, fun i h => by simp at h⟩
theorem RowsI.snoc {w : World} {B : Nat} {v : Value} {vs : List Value} {x : List Nat} {xs : List (List Nat)} (h : OwnI w B v (zs x)) (hs : RowsI w B vs xs) : RowsI w B (vs ++ [v]) (xs ++ [x]) :=
 ⟨by simp [hs.1], fun i h1 h2 => by
  have hl := hs.1
  by_cases hi : i < vs.length
  ·rw [List.getElem_append_left hi, List.getElem_append_left (by omega)]; exact hs.2 i hi (by omega)
  ·simp at h1
   obtain rfl : i = vs.length := by omega
   rw [List.getElem_append_right (Nat.le_refl _), List.getElem_append_right (by omega)]
   simpa [hl] using h⟩
theorem RowsI.append {w : World} {B : Nat} {vs us : List Value} {xs ys : List (List Nat)} (h : RowsI w B vs xs) (g : RowsI w B us ys) : RowsI w B (vs ++ us) (xs ++ ys) :=
 ⟨by simp [h.1, g.1], fun i h1 h2 => by
  have hl := h.1
  have gl := g.1
  simp at h1 h2
  by_cases hi : i < vs.length
  ·rw [List.getElem_append_left hi, List.getElem_append_left (by omega)]; exact h.2 i hi (by omega)
  ·rw [List.getElem_append_right (by omega), List.getElem_append_right (by omega)]
   have := g.2 (i - vs.length) (by omega) (by omega)
   simpa [hl] using this⟩
theorem RowsI.keeps {w w' : World} {B : Nat} {vs : List Value} {xs : List (List Nat)} (h : RowsI w B vs xs) (k : Keeps w w') : RowsI w' B vs xs := ⟨h.1, fun i h1 h2 => (h.2 i h1 h2).keeps k⟩
theorem RowsI.mono {w : World} {B B' : Nat} {vs : List Value} {xs : List (List Nat)} (h : RowsI w B vs xs) (k : B' ≤ B) : RowsI w B' vs xs := ⟨h.1, fun i h1 h2 => (h.2 i h1 h2).mono k⟩
def blkI (vs : List Value) (k : Nat) : Prop := ∃ i, ∃ h : i < vs.length, vs[i].ownBlock = some k
theorem RowsI.touch {w w' : World} {S : Nat → Prop} {B : Nat} {vs : List Value} {xs : List (List Nat)} (h : RowsI w B vs xs) (k : Touch w w' S) (hS : ∀ i, blkI vs i → ¬ S i) : RowsI w' B vs xs :=
 ⟨h.1, fun i h1 h2 => (h.2 i h1 h2).touch k (fun j e => hS j ⟨i, h1, e⟩)⟩
theorem RowsI.off {w : World} {B B' : Nat} {T : TypeId} {s n : Nat} {v : Value} {hs vs : List Value} {xs : List (List Nat)} (h : RowsI w B vs xs) (ho : w.ownsRow B' T s v n hs) (hT : T ≠ 2) {k : Nat} (hk : v.ownBlock = some k) : ¬ blkI vs k := fun ⟨i, hi, e⟩ =>
 type_ne ho (h.2 i hi (by have := h.1; omega)) hT hk e
theorem infoLI : (Tryz.prog.info? 32).map (fun i => (i.zero, i.size, i.bytes)) = some (some (.slice none 0 0), 1, 24) := by kernel_rfl
theorem tyneLI : (32 : TypeId) ≠ 2 := by decide
def OwnLI (w : World) (B : Nat) (v : Value) (xs : List (List Nat)) : Prop := ∃ vs, w.ownsRow B 32 1 v xs.length vs ∧ RowsI w B vs xs
theorem OwnLI.nil (w : World) (B : Nat) : OwnLI w B (.slice none 0 0) [] := ⟨[], World.ownsRow_nil w B _ 1, RowsI.nil _ _⟩
theorem OwnLI.keeps {w w' : World} {B : Nat} {v : Value} {xs : List (List Nat)} (h : OwnLI w B v xs) (k : Keeps w w') : OwnLI w' B v xs := by
 obtain ⟨vs, ho, hr⟩ := h
 exact ⟨vs, own_keeps ho k, hr.keeps k⟩
theorem OwnLI.shape {w : World} {B : Nat} {v : Value} {xs : List (List Nat)} (h : OwnLI w B v xs) : ∃ p cap, v = .slice p xs.length cap ∧ xs.length ≤ cap ∧ cap ≤ maxLen := by
 obtain ⟨vs, ho, _⟩ := h
 obtain ⟨p, cap, h1, h2, h3, _⟩ := At.of_own ho
 exact ⟨p, cap, h1, h2, h3⟩
theorem OwnLI.get {w : World} {B : Nat} {p : Option Addr} {n cap : Nat} {xs : List (List Nat)} (h : OwnLI w B (.slice p n cap) xs) (i : Nat) (hi : i < xs.length) :
  ∃ b off u, p = some ⟨b, off, none⟩ ∧ w.cell? ⟨b, off + i, none⟩ = some u ∧ OwnI w B u (zs xs[i]) := by
 obtain ⟨vs, ho, hr⟩ := h
 obtain ⟨p', cap', e, _, _, hat⟩ := At.of_own ho
 cases e
 obtain ⟨b, off, hp, hc⟩ := hat i (by rw [hr.1]; exact hi)
 exact ⟨b, off, _, hp, hc, hr.2 i (by rw [hr.1]; exact hi) hi⟩
theorem OwnI.one {w : World} {B : Nat} {u : Value} {x : List Int} (h : OwnI w B u x) : u.oneCell' = true := by
 obtain ⟨p, c, e, _⟩ := At.of_own h
 rw [e]; rfl
theorem appLIK {w : World} {o : Oper} {a : Act} {K : Act → World → Prop} {Q : Exit → Act → World → Prop} (s x : Operand)
  (ho : o.op = .call { callee := .builtin .append, args := #[s, x], argTypes := #[85, 85] }) (base : Nat) (v : Value) (xs : List (List Nat)) (hs : a.eval s = v)
  (w0 : World) (hown : OwnLI w0 base v xs) (k : Keeps w0 w) (u : Value) (y : List Nat) (hu : OwnI w base u (zs y)) (hbase : base ≤ w.heap.size)
  (p : Option Addr) (c : Nat) (hx : a.eval x = .slice p 1 c) (hat : At w p [u]) (hlen : xs.length ≤ 2147483647)
  (h : ∀ v' w', OwnLI w' base v' (xs ++ [y]) → w.grownBy w' v.ownBlock → (∀ k, v.ownBlock = some k → base ≤ k) → K (a.put o.dst v') w') : o.wp Tryz.prog a w K Q := by
 obtain ⟨i0, hi, hz0, hz1, hz2⟩ := info_parts infoLI
 obtain ⟨vs, hrow, hr⟩ := hown
 have hone : ∀ z ∈ [u], z.oneCell' = true := by
  intro z hz
  simp at hz; subst hz
  exact hu.one
 have hrow' := own_keeps hrow k
 have hr' := hr.keeps k
 refine wp_append_at s x _ ho _ i0 _ 1 24 Tryz.underlying85 hi hz0 hz1 hz2 rfl (by decide) base v _ _ hs hrow' p 1 c [u] hx (by simp) hat hone (by unfold maxLen; omega) (by omega) hbase ?_
 intro v' w' h1 h2 h3
 refine h v' w' ⟨vs ++ [u], by rw [List.length_append]; exact h1, RowsI.snoc ?_ ?_⟩ h2 h3
 ·exact hu.touch (Touch.grown h2) (fun i hi e => type_ne hrow' hu tyneLI e.symm hi)
 ·exact hr'.touch (Touch.grown h2) (fun i hb e => hr'.off hrow' tyneLI e.symm hb)
theorem appLI {w : World} {ops : Array Oper} {rest : List Oper} {o : Oper} {a : Act} {Q : Exit → Act → World → Prop} (hgd : o.guard = none) (s x : Operand)
  (ho : o.op = .call { callee := .builtin .append, args := #[s, x], argTypes := #[85, 85] }) (base : Nat) (v : Value) (xs : List (List Nat)) (hs : a.eval s = v)
  (w0 : World) (hown : OwnLI w0 base v xs) (k : Keeps w0 w) (u : Value) (y : List Nat) (hu : OwnI w base u (zs y)) (hbase : base ≤ w.heap.size)
  (p : Option Addr) (c : Nat) (hx : a.eval x = .slice p 1 c) (hat : At w p [u]) (hlen : xs.length ≤ 2147483647)
  (h : ∀ v' w', OwnLI w' base v' (xs ++ [y]) → w.grownBy w' v.ownBlock → (∀ k, v.ownBlock = some k → base ≤ k) → wpList Tryz.prog ops Q rest (a.put o.dst v') w') : wpList Tryz.prog ops Q (o :: rest) a w :=
 wpList_plain hgd fun _ hK => appLIK s x ho base v xs hs w0 hown k u y hu hbase p c hx hat hlen fun v' w' h1 h2 h3 => hK _ _ (h v' w' h1 h2 h3)
def psCells : List (List Nat) → List Value → List Value
 | x :: xs, u :: us => .int .i64 (x.length : Nat) :: u :: psCells xs us
 | _, _ => []
theorem psCells_len : ∀ (xs : List (List Nat)) (us : List Value), us.length = xs.length → (psCells xs us).length = xs.length * 2
 | [], [], _ => rfl
 | x :: xs, u :: us, h => by
  have := psCells_len xs us (by simpa using h)
  simp only [psCells, List.length_cons, this]; omega
 | [], _ :: _, h => by simp at h
 | _ :: _, [], h => by simp at h
theorem psCells_append : ∀ (xs ys : List (List Nat)) (us vs : List Value), us.length = xs.length → psCells (xs ++ ys) (us ++ vs) = psCells xs us ++ psCells ys vs
 | [], _, [], _, _ => rfl
 | x :: xs, ys, u :: us, vs, h => by
  have := psCells_append xs ys us vs (by simpa using h)
  simp only [List.cons_append, psCells, this]
 | [], _, _ :: _, _, h => by simp at h
 | _ :: _, _, [], _, h => by simp at h
theorem psCells_get : ∀ (xs : List (List Nat)) (us : List Value) (i : Nat) (h1 : i < xs.length) (h2 : i < us.length), (psCells xs us)[i * 2]? = some (.int .i64 (xs[i].length : Nat)) ∧ (psCells xs us)[i * 2 + 1]? = some us[i]
 | x :: xs, u :: us, 0, _, _ => by simp [psCells]
 | x :: xs, u :: us, i + 1, h1, h2 => by
  have := psCells_get xs us i (by simpa using h1) (by simpa using h2)
  simpa [psCells, Nat.add_mul] using this
theorem psCells_one : ∀ (xs : List (List Nat)) (us : List Value), (∀ u ∈ us, u.oneCell' = true) → ∀ z ∈ psCells xs us, z.oneCell' = true
 | x :: xs, u :: us, h, z, hz => by
  simp only [psCells, List.mem_cons] at hz
  rcases hz with rfl | rfl | hz
  ·rfl
  ·exact h _ (by simp)
  ·exact psCells_one xs us (fun u hu => h u (by simp [hu])) z hz
 | [], _, _, z, hz => by simp [psCells] at hz
 | _ :: _, [], _, z, hz => by simp [psCells] at hz
theorem infoPs : (Tryz.prog.info? 34).map (fun i => (i.zero, i.size, i.bytes)) = some (some (.agg #[.int .i64 0, .slice none 0 0]), 2, 32) := by kernel_rfl
theorem tynePs : (34 : TypeId) ≠ 2 := by decide
def OwnPs (w : World) (B : Nat) (v : Value) (xs : List (List Nat)) : Prop := ∃ us, w.ownsRow B 34 2 v xs.length (psCells xs us) ∧ RowsI w B us xs
theorem OwnPs.nil (w : World) (B : Nat) : OwnPs w B (.slice none 0 0) [] := ⟨[], World.ownsRow_nil w B _ 2, RowsI.nil _ _⟩
theorem OwnPs.keeps {w w' : World} {B : Nat} {v : Value} {xs : List (List Nat)} (h : OwnPs w B v xs) (k : Keeps w w') : OwnPs w' B v xs := by
 obtain ⟨vs, ho, hr⟩ := h
 exact ⟨vs, own_keeps ho k, hr.keeps k⟩
theorem OwnPs.shape {w : World} {B : Nat} {v : Value} {xs : List (List Nat)} (h : OwnPs w B v xs) : ∃ p cap, v = .slice p xs.length cap ∧ xs.length ≤ cap ∧ cap ≤ maxLen := by
 obtain ⟨vs, ho, _⟩ := h
 obtain ⟨p, cap, h1, h2, h3, _⟩ := At.of_own ho
 exact ⟨p, cap, h1, h2, h3⟩
theorem OwnPs.get {w : World} {B : Nat} {p : Option Addr} {n cap : Nat} {xs : List (List Nat)} (h : OwnPs w B (.slice p n cap) xs) (i : Nat) (hi : i < xs.length) :
  ∃ b off u, p = some ⟨b, off, none⟩ ∧ w.cell? ⟨b, off + i * 2, none⟩ = some (.int .i64 (xs[i].length : Nat)) ∧ w.cell? ⟨b, off + i * 2 + 1, none⟩ = some u ∧ OwnI w B u (zs xs[i]) := by
 obtain ⟨us, ho, hr⟩ := h
 have hul := hr.1
 obtain ⟨p', cap', e, _, _, hat⟩ := At.of_own ho
 cases e
 have hl := psCells_len xs us hul
 obtain ⟨g1, g2⟩ := psCells_get xs us i hi (by omega)
 obtain ⟨b, off, hp, hc⟩ := hat (i * 2) (by omega)
 obtain ⟨b', off', hp', hc'⟩ := hat (i * 2 + 1) (by omega)
 rw [hp] at hp'
 cases hp'
 rw [List.getElem?_eq_getElem (by omega)] at g1 g2
 rw [Option.some.inj g1] at hc
 rw [Option.some.inj g2] at hc'
 exact ⟨b, off, us[i]'(by omega), hp, hc, by rw [Nat.add_assoc]; exact hc', hr.2 i (by omega) hi⟩
theorem appPsK {w : World} {o : Oper} {a : Act} {K : Act → World → Prop} {Q : Exit → Act → World → Prop} (s x : Operand)
  (ho : o.op = .call { callee := .builtin .append, args := #[s, x], argTypes := #[41, 41] }) (base : Nat) (v : Value) (xs : List (List Nat)) (hs : a.eval s = v)
  (w0 : World) (hown : OwnPs w0 base v xs) (k : Keeps w0 w) (us : List Value) (ys : List (List Nat)) (hu : RowsI w base us ys) (hbase : base ≤ w.heap.size)
  (p : Option Addr) (c : Nat) (hx : a.eval x = .slice p ys.length c) (hat : At w p (psCells ys us)) (hlen : xs.length + ys.length ≤ 2147483647)
  (h : ∀ v' w', OwnPs w' base v' (xs ++ ys) → w.grownBy w' v.ownBlock → (∀ k, v.ownBlock = some k → base ≤ k) → K (a.put o.dst v') w') : o.wp Tryz.prog a w K Q := by
 obtain ⟨i0, hi, hz0, hz1, hz2⟩ := info_parts infoPs
 obtain ⟨vs, hrow, hr⟩ := hown
 have hone : ∀ z ∈ psCells ys us, z.oneCell' = true := psCells_one ys us fun u hu' => by
  obtain ⟨j, hj, rfl⟩ := List.getElem_of_mem hu'
  exact (hu.2 j hj (by have := hu.1; omega)).one
 have hrow' := own_keeps hrow k
 have hr' := hr.keeps k
 refine wp_append_at s x _ ho _ i0 _ 2 32 Tryz.underlying41 hi hz0 hz1 hz2 rfl (by decide) base v _ _ hs hrow' p ys.length c (psCells ys us) hx (psCells_len ys us hu.1) hat hone (by unfold maxLen; omega) (by omega) hbase ?_
 intro v' w' h1 h2 h3
 refine h v' w' ⟨vs ++ us, ?_, RowsI.append ?_ ?_⟩ h2 h3
 ·rw [List.length_append, psCells_append _ _ _ _ hr.1]; exact h1
 ·exact hr'.touch (Touch.grown h2) (fun i hb e => hr'.off hrow' tynePs e.symm hb)
 ·exact hu.touch (Touch.grown h2) (fun i hb e => hu.off hrow' tynePs e.symm hb)
theorem appPs {w : World} {ops : Array Oper} {rest : List Oper} {o : Oper} {a : Act} {Q : Exit → Act → World → Prop} (hgd : o.guard = none) (s x : Operand)
  (ho : o.op = .call { callee := .builtin .append, args := #[s, x], argTypes := #[41, 41] }) (base : Nat) (v : Value) (xs : List (List Nat)) (hs : a.eval s = v)
  (w0 : World) (hown : OwnPs w0 base v xs) (k : Keeps w0 w) (us : List Value) (ys : List (List Nat)) (hu : RowsI w base us ys) (hbase : base ≤ w.heap.size)
  (p : Option Addr) (c : Nat) (hx : a.eval x = .slice p ys.length c) (hat : At w p (psCells ys us)) (hlen : xs.length + ys.length ≤ 2147483647)
  (h : ∀ v' w', OwnPs w' base v' (xs ++ ys) → w.grownBy w' v.ownBlock → (∀ k, v.ownBlock = some k → base ≤ k) → wpList Tryz.prog ops Q rest (a.put o.dst v') w') : wpList Tryz.prog ops Q (o :: rest) a w :=
 wpList_plain hgd fun _ hK => appPsK s x ho base v xs hs w0 hown k us ys hu hbase p c hx hat hlen fun v' w' h1 h2 h3 => hK _ _ (h v' w' h1 h2 h3)
theorem At.ps1 {w : World} {u : Value} {x : List Nat} {E : TypeId} : At (w.alloc (.cells #[.int .i64 (x.length : Nat), u] E)) (some ⟨w.heap.size, 0, none⟩) (psCells [x] [u]) := by
 intro j hj
 match j, hj with
 | 0, _ => exact ⟨_, _, rfl, by simp [psCells]⟩
 | 1, _ => exact ⟨_, _, rfl, by simp [psCells]⟩
theorem RowsI.one {w : World} {B : Nat} {u : Value} {x : List Nat} (h : OwnI w B u (zs x)) : RowsI w B [u] [x] := RowsI.snoc (vs := []) (xs := []) h (RowsI.nil _ _)
def RetPs (w : World) (xs : List (List Nat)) (e : Ending) (w' : World) : Prop := ∃ v, e = .returned v ∧ OwnPs w' w.heap.size v xs ∧ Keeps w w'
end Go.Proofs.YtikooimokfbffaaGreatDoor
