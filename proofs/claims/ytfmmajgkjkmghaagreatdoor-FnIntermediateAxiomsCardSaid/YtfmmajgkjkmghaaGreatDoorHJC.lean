import Derived.Test.YtfmmajgkjkmghaaGreatDoorHKC
import Derived.Test.YtfmmajgkjkmghaaGreatDoorHBase
import Derived.Test.YtfmmajgkjkmghaaGreatDoorHZA
import Derived.Test.YtfmmajgkjkmghaaGreatDoorHAL
/- Each element in a class of its own (plain). -/
namespace Go.Proofs.YtfmmajgkjkmghaaGreatDoor
open Go.RowKit
theorem map_id_tab : ∀ n : Fin 9, ∀ m : Fin (2 ^ (n : Nat)), mapM (List.range n) m = m := by decide +kernel
theorem arc_tab : ∀ n : Fin 9, cntC (List.range n) = n ∧ ∀ k : Fin n, (List.range n).getD k 0 ≤ grC (List.range n) k := by decide +kernel
theorem arc_range {n : Nat} (h8 : n ≤ 8) : ArC (List.range n) := fun k hk => by
 rw [List.length_range] at hk
 exact (arc_tab ⟨n, by omega⟩).2 ⟨k, hk⟩
theorem cnt_range {n : Nat} (h8 : n ≤ 8) : cntC (List.range n) = n := (arc_tab ⟨n, by omega⟩).1
theorem map_range {n m : Nat} (h8 : n ≤ 8) (hm : m < 2 ^ n) : mapM (List.range n) m = m := map_id_tab ⟨n, by omega⟩ ⟨m, hm⟩
theorem range_getD {n k : Nat} (hk : k < n) : (List.range n).getD k 0 = k := by
 rw [List.getD_eq_getElem?_getD, List.getElem?_eq_getElem (by simpa using hk)]
 simp
theorem qtK_range {b : List Nat} (h8 : b.length ≤ 8) (hb : Bnd b.length b) : ∀ k, k ≤ b.length → ∀ j, (qtK b (List.range b.length) k).getD j 0 = if j < k then b.getD j 0 else 0
 | 0, _, j => by
  rw [qtK, List.getD_eq_getElem?_getD, List.getElem?_replicate]
  split <;> simp
 | k + 1, hk, j => by
  have ih := qtK_range h8 hb k (by omega)
  have hl : (qtK b (List.range b.length) k).length = b.length := by rw [qtK_len, cnt_range h8]
  rw [qtK, range_getD (by omega), map_range h8 (hb k), getD_set _ _ _ _ (by omega), ih k, ih j]
  rw [if_neg (Nat.lt_irrefl k), Nat.zero_or]
  by_cases e : k = j
  ·subst e
   rw [if_pos rfl, if_pos (by omega)]
  ·rw [if_neg e]
   by_cases h : j < k
   ·rw [if_pos h, if_pos (by omega)]
   ·rw [if_neg h, if_neg (by omega)]
theorem qtL_range {b : List Nat} (h8 : b.length ≤ 8) (hb : Bnd b.length b) : qtL b (List.range b.length) = b := by
 have hl : (qtL b (List.range b.length)).length = b.length := by unfold qtL; rw [qtK_len, cnt_range h8]
 refine List.ext_getElem hl fun j h1 h2 => ?_
 have h := qtK_range h8 hb b.length (Nat.le_refl _) j
 rw [if_pos h2, List.getD_eq_getElem?_getD, List.getD_eq_getElem?_getD] at h
 have e1 : (qtK b (List.range b.length) b.length)[j]? = some (qtL b (List.range b.length))[j] := List.getElem?_eq_getElem h1
 rw [e1, List.getElem?_eq_getElem h2] at h
 simpa using h
theorem cgB_range {b : List Nat} (h8 : b.length ≤ 8) (hb : Bnd b.length b) : cgB b (List.range b.length) = true := by
 unfold cgB morB
 rw [qtL_range h8 hb, List.all_eq_true]
 intro x hx
 rw [List.mem_range] at hx
 rw [map_range h8 (hb x), range_getD hx, beq_self_eq_true]
theorem ccS_in {g : Nat → List (List Nat)} {x : List Nat} {i : Nat} (h : x ∈ g i) : ∀ {k}, i < k → x ∈ ccS g k
 | 0, hk => by omega
 | k + 1, hk => by
  rw [ccS, List.mem_append]
  by_cases e : i = k
  ·subst e; exact .inr h
  ·exact .inl (ccS_in h (by omega))
theorem ccG_all {x : List Nat} (hx : ArC x) : ∀ f o, x.length = o.length + f → x.take o.length = o → x ∈ ccG f o
 | 0, o, hl, ht => by
  rw [ccG, List.mem_singleton, ← ht, List.take_of_length_le (by omega)]
 | f + 1, o, hl, ht => by
  have h1 := hx o.length (by omega)
  unfold grC at h1
  rw [ht] at h1
  rw [ccG]
  refine ccS_in (i := x.getD o.length 0) (ccG_all hx f (o ++ [x.getD o.length 0]) (by simp; omega) ?_) (by omega)
  rw [List.length_append, List.length_singleton, List.take_succ_eq_append_getElem (by omega), ht]
  congr 2
  rw [List.getD_eq_getElem?_getD, List.getElem?_eq_getElem (by omega)]
  simp
theorem range_cgL {b : List Nat} (h8 : b.length ≤ 8) (hb : Bnd b.length b) : List.range b.length ∈ cgL b :=
 List.mem_filter.2 ⟨ccG_all (arc_range h8) b.length [] (by simp) (by simp), cgB_range h8 hb⟩
theorem self_img {p : List Nat} (h8 : p.length ≤ 8) (hb : Bnd p.length p) (hr : rtB p = true) : leastP p ∈ imgC p (cgL p) := by
 refine List.mem_flatMap.2 ⟨List.range p.length, range_cgL h8 hb, ?_⟩
 rw [qtL_range h8 hb, if_pos hr]
 exact List.mem_singleton.2 rfl
theorem fold_bet_or (a : List Nat) : ∀ (l : List (List Nat)) (best : List Nat), l.foldl (betP a) best = best ∨ ∃ o ∈ l, l.foldl (betP a) best = renP a o
 | [], best => .inl rfl
 | o :: l, best => by
  rw [List.foldl_cons]
  rcases fold_bet_or a l (betP a best o) with h | ⟨o', ho', h⟩
  ·by_cases e : lessL (renP a o) best = true
   ·exact .inr ⟨o, by simp, by rw [h, betP, if_pos e]⟩
   ·exact .inl (by rw [h, betP, if_neg e])
  ·exact .inr ⟨o', by simp [ho'], h⟩
theorem leastP_or (a : List Nat) : leastP a = a ∨ ∃ o ∈ permP a.length, leastP a = renP a o := by
 rw [leastP_fold]
 exact fold_bet_or a _ a
end Go.Proofs.YtfmmajgkjkmghaaGreatDoor
namespace Go.Proofs.YtfmmajgkjkmghaaGreatDoor
open Go.RowKit
theorem sqz_bit (o : List Nat) (m : Nat) : ∀ k j, (sqz o m k).testBit j = (decide (j < k) && m.testBit (o.getD j 0))
 | 0, j => by simp [sqz]
 | k + 1, j => by
  rw [sqz, Nat.testBit_or, sqz_bit o m k j]
  by_cases e : j = k
  ·subst e
   generalize m.testBit (o.getD j 0) = t
   cases t <;> simp [Nat.testBit_two_pow_self]
  ·have h1 : (if m.testBit (o.getD k 0) = true then 2 ^ k else 0).testBit j = false := by
    split
    ·exact Nat.testBit_two_pow_of_ne (Ne.symm e)
    ·simp
   rw [h1, Bool.or_false]
   by_cases h : j < k
   ·rw [decide_eq_true h, decide_eq_true (show j < k + 1 by omega)]
   ·rw [decide_eq_false h, decide_eq_false (show ¬ j < k + 1 by omega)]
theorem renP_bit (a o : List Nat) {i j : Nat} (hi : i < o.length) : ((renP a o).getD i 0).testBit j = (decide (j < o.length) && (a.getD (o.getD i 0) 0).testBit (o.getD j 0)) := by
 unfold renP
 rw [List.getD_eq_getElem?_getD, List.getElem?_map, List.getElem?_eq_getElem hi, Option.map_some, Option.getD_some, sqz_bit]
 congr 3
 rw [List.getD_eq_getElem?_getD, List.getElem?_eq_getElem hi]
 simp
theorem prtL_renP (b : List Nat) (m : Nat) : prtL b m = renP b (memB m) := rfl
end Go.Proofs.YtfmmajgkjkmghaaGreatDoor
namespace Go.Proofs.YtfmmajgkjkmghaaGreatDoor
open Fm
structure KM where
 W : Type
 le : W → W → Prop
 refl : ∀ w, le w w
 trans : ∀ a b c, le a b → le b c → le a c
 V : W → Nat → Prop
 mono : ∀ a b p, le a b → V a p → V b p
namespace KM
def forces (M : KM) : M.W → Fm → Prop
 | w, .var v => M.V w v
 | _, .fls => False
 | w, .and a b => forces M w a ∧ forces M w b
 | w, .or a b => forces M w a ∨ forces M w b
 | w, .imp a b => ∀ u, M.le w u → forces M u a → forces M u b
 | _, .box _ => False
 | _, .dia _ => False
end KM
end Go.Proofs.YtfmmajgkjkmghaaGreatDoor
namespace Go.Proofs.YtfmmajgkjkmghaaGreatDoor
open Fm
def inV (V : List Nat) : Fm → Prop
 | .var p => p ∈ V
 | .fls => True
 | .and a b => inV V a ∧ inV V b
 | .or a b => inV V a ∧ inV V b
 | .imp a b => inV V a ∧ inV V b
 | .box _ => True
 | .dia _ => True
structure BiS (V : List Nat) (M N : KM) (R : M.W → N.W → Prop) : Prop where
 at_ : ∀ u v, R u v → ∀ p ∈ V, (M.V u p ↔ N.V v p)
 on : ∀ u v u', R u v → M.le u u' → ∃ v', N.le v v' ∧ R u' v'
 back : ∀ u v v', R u v → N.le v v' → ∃ u', M.le u u' ∧ R u' v'
theorem BiS.forces {V : List Nat} {M N : KM} {R : M.W → N.W → Prop} (h : BiS V M N R) : ∀ (t : Fm), inV V t → ∀ u v, R u v → (M.forces u t ↔ N.forces v t)
 | .var p, ht, u, v, r => h.at_ u v r p ht
 | .fls, _, _, _, _ => Iff.rfl
 | .and a b, ht, u, v, r => and_congr (h.forces a ht.1 u v r) (h.forces b ht.2 u v r)
 | .or a b, ht, u, v, r => or_congr (h.forces a ht.1 u v r) (h.forces b ht.2 u v r)
 | .imp a b, ht, u, v, r => by
  constructor
  ·intro k v' hv ha
   obtain ⟨u', hu, r'⟩ := h.back u v v' r hv
   exact (h.forces b ht.2 u' v' r').1 (k u' hu ((h.forces a ht.1 u' v' r').2 ha))
  ·intro k u' hu ha
   obtain ⟨v', hv, r'⟩ := h.on u v u' r hu
   exact (h.forces b ht.2 u' v' r').2 (k v' hv ((h.forces a ht.1 u' v' r').1 ha))
 | .box _, _, _, _, _ => Iff.rfl
 | .dia _, _, _, _, _ => Iff.rfl
theorem bits_of (f : Nat → Prop) : ∀ n, ∃ j, j < 2 ^ n ∧ ∀ k, k < n → (j.testBit k = true ↔ f k)
 | 0 => ⟨0, by simp, fun k h => absurd h (by omega)⟩
 | n + 1 => by
  obtain ⟨j, hj, h⟩ := bits_of f n
  by_cases hf : f n
  ·refine ⟨j + 2 ^ n, by rw [Nat.pow_succ]; omega, fun k hk => ?_⟩
   rw [Nat.add_comm]
   by_cases e : k = n
   ·subst e
    rw [Nat.testBit_two_pow_add_eq, Nat.testBit_lt_two_pow hj]
    simp [hf]
   ·rw [Nat.testBit_two_pow_add_gt (by omega)]
    exact h k (by omega)
  ·refine ⟨j, by rw [Nat.pow_succ]; omega, fun k hk => ?_⟩
   by_cases e : k = n
   ·subst e
    rw [Nat.testBit_lt_two_pow hj]
    simp [hf]
   ·exact h k (by omega)
end Go.Proofs.YtfmmajgkjkmghaaGreatDoor
namespace Go.Proofs.YtfmmajgkjkmghaaGreatDoor
def kmA (b : List Nat) (hp : Pos b) (A : Nat → Nat → Prop) (hA : ∀ x y p, x < b.length → (b.getD x 0).testBit y = true → A x p → A y p) : KM where
 W := { x : Nat // x < b.length }
 le x y := (b.getD x.1 0).testBit y.1 = true
 refl x := refl_of hp.2.2.1 x.2
 trans a _ _ h1 h2 := trans_of hp.2.1 hp.2.2.2.1 a.2 h1 h2
 V x p := A x.1 p
 mono a c p h1 h2 := hA a.1 c.1 p a.2 h1 h2
theorem boxB_bit (b : List Nat) (m : Nat) : ∀ i x, (boxB b m i).testBit x = (decide (x < i) && inB (b.getD x 0) m)
 | 0, x => by simp [boxB]
 | i + 1, x => by
  have ih := boxB_bit b m i x
  unfold boxB
  by_cases e : x = i
  ·subst e
   split
   ·next h => rw [Nat.testBit_or, ih, Nat.testBit_two_pow, h, decide_eq_true rfl, decide_eq_true (by omega : x < x + 1), Bool.or_true]; rfl
   ·next h => rw [ih, Bool.eq_false_iff.2 h, Bool.and_false, Bool.and_false]
  ·have h1 : decide (x < i + 1) = decide (x < i) := by
    by_cases h : x < i
    ·rw [decide_eq_true h, decide_eq_true (by omega)]
    ·rw [decide_eq_false h, decide_eq_false (by omega)]
   rw [h1, ← ih]
   split
   ·rw [Nat.testBit_or, Nat.testBit_two_pow, decide_eq_false (Ne.symm e), Bool.or_false]
   ·rfl
theorem full_bit (n x : Nat) : (2 ^ n - 1).testBit x = decide (x < n) := Nat.testBit_two_pow_sub_one n x
theorem frc_km (b : List Nat) (hp : Pos b) (A : Nat → Nat → Prop) (hA) (V vs : List Nat) (hvs : Bnd b.length vs) (hv : ∀ p ∈ V, ∀ x, x < b.length → ((vs.getD p 0).testBit x = true ↔ A x p)) :
  ∀ (t : Fm), inV V t → ∀ (x : Nat) (hx : x < b.length), ((kmA b hp A hA).forces ⟨x, hx⟩ t ↔ (frcP b vs t).testBit x = true)
 | .var p, ht, x, hx => (hv p ht x hx).symm
 | .fls, _, x, hx => by simp [KM.forces, frcP]
 | .and s t, ht, x, hx => by
  have h1 := frc_km b hp A hA V vs hvs hv s ht.1 x hx
  have h2 := frc_km b hp A hA V vs hvs hv t ht.2 x hx
  rw [frcP, Nat.testBit_and, Bool.and_eq_true, ← h1, ← h2]; rfl
 | .or s t, ht, x, hx => by
  have h1 := frc_km b hp A hA V vs hvs hv s ht.1 x hx
  have h2 := frc_km b hp A hA V vs hvs hv t ht.2 x hx
  rw [frcP, Nat.testBit_or, Bool.or_eq_true, ← h1, ← h2]; rfl
 | .imp s t, ht, x, hx => by
  rw [frcP, impB, boxB_bit, decide_eq_true hx, Bool.true_and, inB_iff]
  constructor
  ·intro h y hy
   have hyl := bit_lt hp.2.1 hy
   have h1 := frc_km b hp A hA V vs hvs hv s ht.1 y hyl
   have h2 := frc_km b hp A hA V vs hvs hv t ht.2 y hyl
   rw [Nat.testBit_or, Nat.testBit_xor, Nat.testBit_and, full_bit, decide_eq_true hyl, Bool.true_and]
   cases hs : (frcP b vs s).testBit y
   ·rfl
   ·have := h2.1 (h ⟨y, hyl⟩ hy (h1.2 hs))
    rw [this]; rfl
  ·rintro h ⟨y, hyl⟩ hy hs
   have h1 := frc_km b hp A hA V vs hvs hv s ht.1 y hyl
   have h2 := frc_km b hp A hA V vs hvs hv t ht.2 y hyl
   have h3 := h y hy
   rw [Nat.testBit_or, Nat.testBit_xor, Nat.testBit_and, full_bit, decide_eq_true hyl, Bool.true_and, h1.1 hs] at h3
   exact h2.2 (by simpa using h3)
 | .box s, _, x, hx => by simp [KM.forces, frcP]
 | .dia s, _, x, hx => by simp [KM.forces, frcP]
theorem vm_fold_bit : ∀ (a : List Nd) (m i : Nat), (a.foldl (fun m n => if n.k = 0 then m ||| 2 ^ n.s.toNat else m) m).testBit i = true ↔ m.testBit i = true ∨ ∃ n ∈ a, n.k = 0 ∧ n.s.toNat = i
 | [], m, i => by simp
 | n :: a, m, i => by
  rw [List.foldl_cons, vm_fold_bit a _ i]
  by_cases h : n.k = 0
  ·rw [if_pos h, Nat.testBit_or, Bool.or_eq_true, Nat.testBit_two_pow, decide_eq_true_eq]
   constructor
   ·rintro ((h1 | h1) | ⟨n', h1, h2⟩)
    ·exact .inl h1
    ·exact .inr ⟨n, by simp, h, h1⟩
    ·exact .inr ⟨n', by simp [h1], h2⟩
   ·rintro (h1 | ⟨n', h1, h2, h3⟩)
    ·exact .inl (.inl h1)
    ·rcases List.mem_cons.1 h1 with rfl | h1
     ·exact .inl (.inr h3)
     ·exact .inr ⟨n', h1, h2, h3⟩
  ·rw [if_neg h]
   constructor
   ·rintro (h1 | ⟨n', h1, h2⟩)
    ·exact .inl h1
    ·exact .inr ⟨n', by simp [h1], h2⟩
   ·rintro (h1 | ⟨n', h1, h2, h3⟩)
    ·exact .inl h1
    ·rcases List.mem_cons.1 h1 with rfl | h1
     ·exact absurd h2 h
     ·exact .inr ⟨n', h1, h2, h3⟩
theorem vm_bit (a : List Nd) (i : Nat) : (vm a).testBit i = true ↔ ∃ n ∈ a, n.k = 0 ∧ n.s.toNat = i := by
 unfold vm
 rw [vm_fold_bit]
 simp
theorem inV_of (V : List Nat) : ∀ t : Fm, (∀ n ∈ t.enc, n.k = 0 → n.s.toNat ∈ V) → inV V t
 | .var p, h => by
  have h1 := h ⟨0, p⟩ (by simp [Fm.enc]) rfl
  exact h1
 | .fls, _ => trivial
 | .and a b, h => ⟨inV_of V a fun n hn => h n (by simp [Fm.enc, hn]), inV_of V b fun n hn => h n (by simp [Fm.enc, hn])⟩
 | .or a b, h => ⟨inV_of V a fun n hn => h n (by simp [Fm.enc, hn]), inV_of V b fun n hn => h n (by simp [Fm.enc, hn])⟩
 | .imp a b, h => ⟨inV_of V a fun n hn => h n (by simp [Fm.enc, hn]), inV_of V b fun n hn => h n (by simp [Fm.enc, hn])⟩
 | .box _, _ => trivial
 | .dia _, _ => trivial
theorem inV_varL {t : Fm} (hw : t.wf) : inV (varL t) t := by
 refine inV_of _ t fun n hn hk => ?_
 have ho := okNd_enc hw n hn
 unfold okNd at ho
 rw [if_pos hk, decide_eq_true_eq] at ho
 unfold varL lowB
 rw [List.mem_filter]
 exact ⟨by rw [List.mem_range]; omega, (vm_bit _ _).2 ⟨n, hn, hk, rfl⟩⟩
theorem vldL_iff {P : List Nat → Bool} {U : List Nat} : ∀ {V vs0 : List Nat}, (∀ v ∈ V, v < vs0.length) → (vldL P U V vs0 = true ↔ ∀ vs, Off6 V vs vs0 → (∀ j ∈ V, vs.getD j 0 ∈ U) → P vs = true)
 | [], vs0, _ => by
  constructor
  ·intro h vs ho _
   rw [ho.nil]; exact h
  ·intro h
   exact h vs0 (Off6.refl _ _) (fun j hj => by cases hj)
 | v :: V, vs0, hl => by
  have hv : v < vs0.length := hl v (by simp)
  unfold vldL
  rw [List.all_eq_true]
  constructor
  ·intro h vs ho hU
   have h1 := h _ (hU v (by simp))
   rw [vldL_iff (fun j hj => by rw [List.length_set]; exact hl j (by simp [hj]))] at h1
   refine h1 vs ⟨by rw [List.length_set]; exact ho.1, fun j hj => ?_⟩ (fun j hj => hU j (by simp [hj]))
   by_cases e : v = j
   ·subst e
    simp [List.getD_eq_getElem?_getD, hv]
   ·rw [ho.2 j (by simp; exact ⟨Ne.symm e, hj⟩)]
    simp only [List.getD_eq_getElem?_getD, List.getElem?_set_ne e]
  ·intro h u hu
   rw [vldL_iff (fun j hj => by rw [List.length_set]; exact hl j (by simp [hj]))]
   intro vs ho hU
   refine h vs ((ho.mono (fun x hx => by simp [hx])).trans (off_set V vs0 v u).symm) (fun j hj => ?_)
   rcases List.mem_cons.1 hj with rfl | hj
   ·by_cases hm : j ∈ V
    ·exact hU j hm
    ·rw [ho.2 j hm]
     have : (vs0.set j u).getD j 0 = u := by simp [List.getD_eq_getElem?_getD, hv]
     rw [this]; exact hu
   ·exact hU j hj
theorem vldR_iff (b : List Nat) (t : Fm) : vldR b t = true ↔ ∀ vs, Off6 (varL t) vs (List.replicate 6 0) → (∀ j ∈ varL t, vs.getD j 0 ∈ upL b) → frcP b vs t = 2 ^ b.length - 1 := by
 have h1 := vld_eq (P := fun vs => frcP b vs t == 2 ^ b.length - 1) (U := upL b) (V := varL t) (upL_pos b) (varL_nodup t)
 have h2 : vldR b t = true ↔ ∀ N, N < (upL b).length ^ (varL t).length → (frcP b (numL (upL b) (varL t) N) t == 2 ^ b.length - 1) = true := by
  unfold vldR okV
  rw [List.all_eq_true]
  exact ⟨fun h N hN => h N (by simpa using hN), fun h N hN => h N (by simpa using hN)⟩
 rw [h2, ← h1, vldL_iff (fun v hv => by simpa using varL_lt hv)]
 simp only [beq_iff_eq]
theorem isUp_iff {b : List Nat} {m : Nat} (hr : reflB b = true) (hm : m < 2 ^ b.length) : isUp b m = true ↔ ∀ x y, x < b.length → m.testBit x = true → (b.getD x 0).testBit y = true → m.testBit y = true := by
 unfold isUp
 rw [beq_iff_eq]
 constructor
 ·intro h x y hx hmx hy
  rw [← h]
  exact (imgL_bit b m b.length y).2 ⟨x, hx, hmx, hy⟩
 ·intro h
  apply Nat.eq_of_testBit_eq
  intro y
  rw [Bool.eq_iff_iff]
  constructor
  ·intro hy
   obtain ⟨x, hx, hmx, hxy⟩ := (imgL_bit b m b.length y).1 hy
   exact h x y hx hmx hxy
  ·intro hy
   have hyl : y < b.length := by
    by_cases hl : y < b.length
    ·exact hl
    ·rw [Nat.testBit_lt_two_pow (Nat.lt_of_lt_of_le hm (Nat.pow_le_pow_right (by omega) (by omega)))] at hy; cases hy
   exact (imgL_bit b m b.length y).2 ⟨y, hyl, hy, refl_of hr hyl⟩
theorem mem_upL {b : List Nat} (hr : reflB b = true) {m : Nat} : m ∈ upL b ↔ m < 2 ^ b.length ∧ ∀ x y, x < b.length → m.testBit x = true → (b.getD x 0).testBit y = true → m.testBit y = true := by
 unfold upL upK
 rw [List.mem_filter, List.mem_range]
 constructor
 ·rintro ⟨h1, h2⟩; exact ⟨h1, (isUp_iff hr h1).1 h2⟩
 ·rintro ⟨h1, h2⟩; exact ⟨h1, (isUp_iff hr h1).2 h2⟩
theorem zeros_get (n j : Nat) : (List.replicate n 0).getD j 0 = 0 := by rw [List.getD_eq_getElem?_getD, List.getElem?_replicate]; split <;> rfl
theorem vld_km (b : List Nat) (hp : Pos b) (t : Fm) (hw : t.wf) : vldR b t = true ↔ ∀ A hA x hx, (kmA b hp A hA).forces ⟨x, hx⟩ t := by
 rw [vldR_iff]
 constructor
 ·intro h A hA x hx
  have hm : ∀ p, ∃ m, m < 2 ^ b.length ∧ ∀ k, k < b.length → (m.testBit k = true ↔ A k p) := fun p => bits_of (fun x => A x p) b.length
  let M : Nat → Nat := fun p => Classical.choose (hm p)
  have hM : ∀ p, M p < 2 ^ b.length ∧ ∀ k, k < b.length → ((M p).testBit k = true ↔ A k p) := fun p => Classical.choose_spec (hm p)
  let vs : List Nat := (List.range 6).map fun p => if p ∈ varL t then M p else 0
  have hg : ∀ p, p ∈ varL t → vs.getD p 0 = M p := fun p hp => by
   have h6 := varL_lt hp
   simp [vs, List.getD_eq_getElem?_getD, h6, hp]
  have hg0 : ∀ p, p ∉ varL t → vs.getD p 0 = 0 := fun p hp => by
   by_cases h6 : p < 6
   ·simp [vs, List.getD_eq_getElem?_getD, h6, hp]
   ·simp [vs, List.getD_eq_getElem?_getD, h6]
  have hf := h vs ⟨by simp [vs], fun j hj => by rw [hg0 j hj, zeros_get]⟩ (fun j hj => by
   rw [hg j hj, mem_upL hp.2.2.1]
   refine ⟨(hM j).1, fun x y hx hmx hxy => ?_⟩
   have hy := bit_lt hp.2.1 hxy
   exact ((hM j).2 y hy).2 (hA x y j hx hxy (((hM j).2 x hx).1 hmx)))
  rw [frc_km b hp A hA (varL t) vs (fun i => by
   by_cases hi : i ∈ varL t
   ·rw [hg i hi]; exact (hM i).1
   ·rw [hg0 i hi]; exact Nat.two_pow_pos _) (fun p hpv x hx => by rw [hg p hpv]; exact (hM p).2 x hx) t (inV_varL hw) x hx, hf, full_bit, decide_eq_true hx]
 ·intro h vs ho hU
  have hb : Bnd b.length vs := fun i => by
   by_cases hi : i ∈ varL t
   ·exact ((mem_upL hp.2.2.1).1 (hU i hi)).1
   ·rw [ho.2 i hi, zeros_get]; exact Nat.two_pow_pos _
  have hA : ∀ x y p, x < b.length → (b.getD x 0).testBit y = true → (vs.getD p 0).testBit x = true → (vs.getD p 0).testBit y = true := by
   intro x y p hx hxy hv
   by_cases hi : p ∈ varL t
   ·exact ((mem_upL hp.2.2.1).1 (hU p hi)).2 x y hx hv hxy
   ·rw [ho.2 p hi, zeros_get] at hv; simp at hv
  apply Nat.eq_of_testBit_eq
  intro x
  rw [full_bit]
  by_cases hx : x < b.length
  ·rw [decide_eq_true hx]
   exact (frc_km b hp (fun x p => (vs.getD p 0).testBit x = true) hA (varL t) vs hb (fun p _ x _ => Iff.rfl) t (inV_varL hw) x hx).1 (h _ hA x hx)
  ·rw [decide_eq_false hx]
   exact Nat.testBit_lt_two_pow (Nat.lt_of_lt_of_le (frcP_lt hb t) (Nat.pow_le_pow_right (by omega) (by omega)))
end Go.Proofs.YtfmmajgkjkmghaaGreatDoor
