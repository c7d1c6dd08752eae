import Derived.Test.YtfmmajgkjkmghaaGreatDoorHPK
import Derived.Test.YtfmmajgkjkmghaaGreatDoorHPP
/- Plain mathematics: clusters of a preorder, images of masks under the numbers of clusters, boxes, the quotient. No program in sight. -/
namespace Go.Proofs.YtfmmajgkjkmghaaGreatDoor
theorem refl_of {b : List Nat} (h : reflB b = true) {x : Nat} (hx : x < b.length) : (b.getD x 0).testBit x = true := by
 unfold reflB at h
 exact List.all_eq_true.1 h x (by simpa using hx)
theorem trans_of {b : List Nat} (hb : Bnd b.length b) (h : transB b = true) {i j k : Nat} (hi : i < b.length) (h1 : (b.getD i 0).testBit j = true) (h2 : (b.getD j 0).testBit k = true) : (b.getD i 0).testBit k = true := by
 unfold transB at h
 have := List.all_eq_true.1 h i (by simpa using hi)
 rw [inB_iff] at this
 exact this k ((imgL_bit _ _ _ _).2 ⟨j, bit_lt hb h1, h1, h2⟩)
theorem closed_of {b : List Nat} (hb : Bnd b.length b) (h : transB b = true) : wAll b b.length b.length = b := by
 have := trans_eq b hb
 rw [h, decide_eq_true_eq] at this
 exact this
theorem or_pow_self {m x : Nat} (h : m.testBit x = true) : m ||| 2 ^ x = m := by
 apply Nat.eq_of_testBit_eq
 intro i
 rw [Nat.testBit_or, Nat.testBit_two_pow]
 by_cases e : x = i
 ·subst e; simp [h]
 ·simp [e]
def eqvB (b : List Nat) (x y : Nat) : Bool := (b.getD x 0).testBit y && (b.getD y 0).testBit x
def fstE (b : List Nat) (x : Nat) : Nat → Option Nat
 | 0 => none
 | j + 1 => match fstE b x j with
  | some y => some y
  | none => if eqvB b x j then some j else none
theorem fstE_some {b : List Nat} {x : Nat} : ∀ {j y : Nat}, fstE b x j = some y → y < j ∧ eqvB b x y = true
 | 0, y, h => by simp [fstE] at h
 | j + 1, y, h => by
  unfold fstE at h
  cases e : fstE b x j with
  | some z => rw [e] at h; simp at h; subst h; have := fstE_some e; exact ⟨by omega, this.2⟩
  | none =>
   rw [e] at h
   by_cases q : eqvB b x j
   ·simp [q] at h; subst h; exact ⟨by omega, q⟩
   ·simp [q] at h
theorem fstE_stay {b : List Nat} {x y : Nat} : ∀ {j : Nat} (d : Nat), fstE b x j = some y → fstE b x (j + d) = some y
 | _, 0, h => h
 | j, d + 1, h => by
  have := fstE_stay d h
  show (match fstE b x (j + d) with | some y => some y | none => if eqvB b x (j + d) then some (j + d) else none) = some y
  rw [this]
def clS (b : List Nat) : Nat → List Nat × Nat
 | 0 => ([], 0)
 | k + 1 => match fstE b k k with
  | some y => ((clS b k).1 ++ [(clS b k).1.getD y 0], (clS b k).2)
  | none => ((clS b k).1 ++ [(clS b k).2], (clS b k).2 + 1)
theorem clS_some {b : List Nat} {k y : Nat} (h : fstE b k k = some y) : clS b (k + 1) = ((clS b k).1 ++ [(clS b k).1.getD y 0], (clS b k).2) := by
 show (match fstE b k k with | some y => _ | none => _) = _
 rw [h]
theorem clS_none {b : List Nat} {k : Nat} (h : fstE b k k = none) : clS b (k + 1) = ((clS b k).1 ++ [(clS b k).2], (clS b k).2 + 1) := by
 show (match fstE b k k with | some y => _ | none => _) = _
 rw [h]
theorem clS_len (b : List Nat) : ∀ k, (clS b k).1.length = k
 | 0 => rfl
 | k + 1 => by
  cases h : fstE b k k with
  | some y => rw [clS_some h]; simp [clS_len b k]
  | none => rw [clS_none h]; simp [clS_len b k]
theorem clS_le (b : List Nat) : ∀ k, (clS b k).2 ≤ k
 | 0 => Nat.le_refl _
 | k + 1 => by
  have := clS_le b k
  cases h : fstE b k k with
  | some y => rw [clS_some h]; simp; omega
  | none => rw [clS_none h]; simp; omega
theorem getD_snoc (l : List Nat) (x i : Nat) : (l ++ [x]).getD i 0 = if i < l.length then l.getD i 0 else if i = l.length then x else 0 := by
 by_cases h : i < l.length
 ·rw [if_pos h]; simp [List.getD_eq_getElem?_getD, List.getElem?_append_left h]
 ·rw [if_neg h]
  by_cases e : i = l.length
  ·subst e; simp [List.getD_eq_getElem?_getD]
  ·rw [if_neg e]
   rw [List.getD_eq_getElem?_getD, List.getElem?_eq_none (by simp; omega)]; rfl
theorem clS_lt (b : List Nat) : ∀ k i, i < k → (clS b k).1.getD i 0 < (clS b k).2
 | 0, i, h => by omega
 | k + 1, i, h => by
  have hl := clS_len b k
  cases e : fstE b k k with
  | some y =>
   rw [clS_some e]
   have hy := (fstE_some e).1
   rw [getD_snoc, hl]
   by_cases hi : i < k
   ·rw [if_pos hi]; exact clS_lt b k i hi
   ·rw [if_neg hi, if_pos (by omega)]; exact clS_lt b k y hy
  | none =>
   rw [clS_none e]
   rw [getD_snoc, hl]
   show _ < (clS b k).2 + 1
   by_cases hi : i < k
   ·rw [if_pos hi]; have := clS_lt b k i hi; omega
   ·rw [if_neg hi, if_pos (by omega)]; omega
def clB (b : List Nat) : List Nat := (clS b b.length).1
def foldM (c : List Nat) (l : List Nat) : Nat := l.foldl (fun acc i => acc ||| 2 ^ c.getD i 0) 0
theorem foldM_snoc (c l : List Nat) (x : Nat) : foldM c (l ++ [x]) = foldM c l ||| 2 ^ c.getD x 0 := by simp [foldM, List.foldl_append]
theorem foldM_lt {c : List Nat} {n : Nat} (l : List Nat) (h : ∀ x ∈ l, c.getD x 0 < n) : foldM c l < 2 ^ n := by
 have : ∀ (l : List Nat) (acc : Nat), (∀ x ∈ l, c.getD x 0 < n) → acc < 2 ^ n → l.foldl (fun acc i => acc ||| 2 ^ c.getD i 0) acc < 2 ^ n := by
  intro l
  induction l with
  | nil => intro acc _ h; exact h
  | cons x l ih => intro acc h hacc; exact ih _ (fun y hy => h y (List.mem_cons_of_mem _ hy)) (Nat.or_lt_two_pow hacc (Nat.pow_lt_pow_right (by omega) (h x (List.mem_cons_self ..))))
 exact this l 0 h (Nat.two_pow_pos n)
def mapM (c : List Nat) (m : Nat) : Nat := foldM c (memB m)
def boxB (b : List Nat) (m : Nat) : Nat → Nat
 | 0 => 0
 | i + 1 => if inB (b.getD i 0) m then boxB b m i ||| 2 ^ i else boxB b m i
theorem boxB_lt (b : List Nat) (m : Nat) : ∀ i, boxB b m i < 2 ^ i
 | 0 => by simp [boxB]
 | i + 1 => by
  have h := boxB_lt b m i
  have h2 : 2 ^ i < 2 ^ (i + 1) := Nat.pow_lt_pow_right (by omega) (by omega)
  unfold boxB
  split
  ·exact Nat.or_lt_two_pow (by omega) h2
  ·omega
theorem inB_and (a m : Nat) : inB a m = (a &&& m == a) := by
 rw [Bool.eq_iff_iff, inB_iff, beq_iff_eq]
 constructor
 ·intro h
  apply Nat.eq_of_testBit_eq
  intro i
  rw [Nat.testBit_and]
  cases e : a.testBit i
  ·rfl
  ·simp [h i e]
 ·intro h i hi
  have := congrArg (fun n => n.testBit i) h
  simp only [Nat.testBit_and, hi, Bool.true_and] at this
  exact this
theorem set_getD_self {l : List Nat} {i x : Nat} (hi : i < l.length) (h : x = l.getD i 0) : l.set i x = l := by
 apply List.ext_getElem (by simp)
 intro j h1 h2
 rw [List.getElem_set]
 split
 ·rename_i e; subst e; rw [h]; simp [List.getD_eq_getElem?_getD, hi]
 ·rfl
end Go.Proofs.YtfmmajgkjkmghaaGreatDoor
namespace Go.Proofs.YtfmmajgkjkmghaaGreatDoor
def cntB (m : Nat) : Nat := (memB m).length
theorem cntB_le (m : Nat) : cntB m ≤ 8 := lowB_len m 8
def nxtB (m s : Nat) : Nat := ((s + 256 - m) % 256) &&& m
def subB (m k : Nat) : List Nat := (List.range k).filter (fun s => inB s m)
def gapOk (m s : Nat) : Bool := !(inB s m) || s == m || (decide (s < nxtB m s) && decide (nxtB m s < 256) && inB (nxtB m s) m && (List.range (nxtB m s - s - 1)).all fun i => !inB (s + 1 + i) m)
set_option maxRecDepth 20000 in
theorem gap_table : ∀ m : Fin 256, ∀ s : Fin 256, gapOk m s = true := by decide +kernel
set_option maxRecDepth 20000 in
theorem nxt_table : ∀ m : Fin 256, ∀ s : Fin 256, (!(inB s m) || (bits .and .i64 (((s : Nat) : Int) - ((m : Nat) : Int)) ((m : Nat) : Int) == ((nxtB m s : Nat) : Int))) = true := by decide +kernel
end Go.Proofs.YtfmmajgkjkmghaaGreatDoor
namespace Go.Proofs.YtfmmajgkjkmghaaGreatDoor
theorem gap_of {m s : Nat} (hm : m < 256) (hs : s < 256) (h : inB s m = true) (hne : s ≠ m) :
  s < nxtB m s ∧ nxtB m s < 256 ∧ inB (nxtB m s) m = true ∧ ∀ u, s < u → u < nxtB m s → inB u m = false := by
 have := gap_table ⟨m, hm⟩ ⟨s, hs⟩
 simp only [gapOk, h, Bool.not_true, Bool.false_or, Bool.or_eq_true, beq_iff_eq, Bool.and_eq_true, decide_eq_true_eq, List.all_eq_true, List.mem_range, Bool.not_eq_true'] at this
 rcases this with e | ⟨⟨⟨h1, h2⟩, h3⟩, h4⟩
 ·exact absurd e hne
 ·refine ⟨h1, h2, h3, fun u hu1 hu2 => ?_⟩
  have := h4 (u - s - 1) (by omega)
  rwa [show s + 1 + (u - s - 1) = u by omega] at this
theorem nxt_of {m s : Nat} (hm : m < 256) (hs : s < 256) (h : inB s m = true) : bits .and .i64 ((s : Int) - (m : Int)) (m : Int) = ((nxtB m s : Nat) : Int) := by
 have := nxt_table ⟨m, hm⟩ ⟨s, hs⟩
 simp only [h, Bool.not_true, Bool.false_or, beq_iff_eq] at this
 exact this
theorem subB_gap (m : Nat) : ∀ d k, (∀ u, k ≤ u → u < k + d → inB u m = false) → subB m (k + d) = subB m k
 | 0, k, _ => rfl
 | d + 1, k, h => by
  rw [← Nat.add_assoc]
  have ih := subB_gap m d k (fun u h1 h2 => h u h1 (by omega))
  unfold subB at *
  rw [List.range_succ, List.filter_append, ih]
  simp [h (k + d) (by omega) (by omega)]
theorem subB_next {m s : Nat} (hm : m < 256) (hs : s < 256) (h : inB s m = true) (hne : s ≠ m) : subB m (nxtB m s + 1) = subB m (s + 1) ++ [nxtB m s] := by
 obtain ⟨h1, _, h3, h4⟩ := gap_of hm hs h hne
 have hg := subB_gap m (nxtB m s - (s + 1)) (s + 1) (fun u a b => h4 u (by omega) (by omega))
 rw [show s + 1 + (nxtB m s - (s + 1)) = nxtB m s by omega] at hg
 rw [← hg]
 unfold subB
 rw [List.range_succ, List.filter_append]
 simp [h3]
theorem subB_mem {m k s : Nat} : s ∈ subB m k ↔ s < k ∧ inB s m = true := by simp [subB]
theorem subB_len (m k : Nat) : (subB m k).length ≤ k := by
 unfold subB
 exact Nat.le_trans (List.length_filter_le _ _) (by simp)
theorem inB_le {a m : Nat} (h : inB a m = true) : a ≤ m := by
 have := inB_and a m
 rw [h] at this
 have e : a &&& m = a := by simpa using this.symm
 rw [← e]; exact Nat.and_le_right
theorem inB_zero (m : Nat) : inB 0 m = true := by rw [inB_iff]; intro i h; simp at h
def antiC (b : List Nat) (s : Nat) : Bool := (memB s).all fun x => b.getD x 0 &&& s == 2 ^ x
def okW (b : List Nat) (s : Nat) : Bool := antiC b s && (List.range b.length).any fun x => inB s (b.getD x 0)
def widT (b : List Nat) : Nat → Nat
 | 0 => 0
 | k + 1 => max (widT b k) (if okW b k then cntB k else 0)
def widB (b : List Nat) : Nat := widT b 256
theorem widT_ge {b : List Nat} : ∀ {k s : Nat}, s < k → okW b s = true → cntB s ≤ widT b k
 | 0, s, h, _ => by omega
 | k + 1, s, h, ho => by
  unfold widT
  by_cases e : s = k
  ·subst e; rw [if_pos ho]; omega
  ·have := widT_ge (k := k) (show s < k by omega) ho; omega
theorem widT_le {b : List Nat} {v : Nat} : ∀ k, (∀ s, s < k → okW b s = true → cntB s ≤ v) → widT b k ≤ v
 | 0, _ => Nat.zero_le _
 | k + 1, h => by
  have := widT_le k (fun s h1 h2 => h s (by omega) h2)
  unfold widT
  by_cases ho : okW b k = true
  ·rw [if_pos ho]; have := h k (by omega) ho; omega
  ·rw [if_neg ho]; omega
def WidAt (b : List Nat) (v : Nat) : Prop := v = 0 ∨ ∃ s, s < 256 ∧ okW b s = true ∧ cntB s = v
theorem WidAt.eq {b : List Nat} {v : Nat} (h : WidAt b v) (ha : ∀ s, s < 256 → okW b s = true → cntB s ≤ v) : v = widB b := by
 have h1 : widB b ≤ v := widT_le 256 ha
 rcases h with rfl | ⟨s, hs, ho, rfl⟩
 ·omega
 ·have : cntB s ≤ widB b := widT_ge hs ho
  omega
theorem WidAt.max {b : List Nat} {v s : Nat} (h : WidAt b v) (hs : s < 256) (ho : okW b s = true) : WidAt b (max v (cntB s)) := by
 by_cases hl : v ≤ cntB s
 ·right; exact ⟨s, hs, ho, by omega⟩
 ·rw [show Max.max v (cntB s) = v by omega]; exact h
theorem okW_lt {b : List Nat} (hb : Bnd b.length b) {s : Nat} (h : okW b s = true) : s < 2 ^ b.length := by
 unfold okW at h
 rw [Bool.and_eq_true, List.any_eq_true] at h
 obtain ⟨x, _, hx⟩ := h.2
 exact Nat.lt_of_le_of_lt (inB_le hx) (hb x)
def mxT (b : List Nat) : Nat → Nat
 | 0 => 0
 | k + 1 => if b.getD k 0 == 2 ^ k then mxT b k ||| 2 ^ k else mxT b k
theorem mxT_lt (b : List Nat) : ∀ i, mxT b i < 2 ^ i
 | 0 => by simp [mxT]
 | i + 1 => by
  have h := mxT_lt b i
  have h2 : 2 ^ i < 2 ^ (i + 1) := Nat.pow_lt_pow_right (by omega) (by omega)
  unfold mxT
  split
  ·exact Nat.or_lt_two_pow (by omega) h2
  ·omega
theorem mxT_bit (b : List Nat) : ∀ k i, (mxT b k).testBit i = (decide (i < k) && (b.getD i 0 == 2 ^ i))
 | 0, i => by simp [mxT]
 | k + 1, i => by
  have ih := mxT_bit b k i
  unfold mxT
  split
  ·rename_i h
   rw [Nat.testBit_or, ih, Nat.testBit_two_pow]
   by_cases e : k = i
   ·subst e; simp at h; simp [h]
   ·by_cases h1 : i < k
    ·simp [h1, e, Nat.lt_succ_of_lt h1]
    ·simp [h1, e, show ¬ i < k + 1 by omega]
  ·rename_i h
   rw [ih]
   by_cases e : k = i
   ·subst e; simp at h; simp [h]
   ·by_cases h1 : i < k
    ·simp [h1, Nat.lt_succ_of_lt h1]
    ·simp [h1, show ¬ i < k + 1 by omega]
def mxB (b : List Nat) : Nat := mxT b b.length
end Go.Proofs.YtfmmajgkjkmghaaGreatDoor
namespace Go.Proofs.YtfmmajgkjkmghaaGreatDoor
def supD (f : Nat → Nat) (m x : Nat) : Nat → Nat
 | 0 => 0
 | k + 1 => if m.testBit k && !(k == x) then max (supD f m x k) (f k) else supD f m x k
def dptF (b : List Nat) : Nat → Nat → Nat
 | 0, _ => 1
 | f + 1, x => supD (dptF b f) (b.getD x 0) x 8 + 1
def dptB (b : List Nat) (x : Nat) : Nat := dptF b 8 x
theorem supD_congr {f g : Nat → Nat} {m x : Nat} : ∀ k, (∀ y, y < k → m.testBit y = true → y ≠ x → f y = g y) → supD f m x k = supD g m x k
 | 0, _ => rfl
 | k + 1, h => by
  have ih := supD_congr k (fun y h1 => h y (by omega))
  unfold supD
  by_cases c : (m.testBit k && !(k == x)) = true
  ·rw [if_pos c, if_pos c, ih]
   simp only [Bool.and_eq_true, Bool.not_eq_true', beq_eq_false_iff_ne] at c
   rw [h k (by omega) c.1 c.2]
  ·rw [if_neg c, if_neg c, ih]
theorem supD_ge {f : Nat → Nat} {m x : Nat} : ∀ {k y : Nat}, y < k → m.testBit y = true → y ≠ x → f y ≤ supD f m x k
 | 0, y, h, _, _ => by omega
 | k + 1, y, h, h1, h2 => by
  unfold supD
  by_cases e : y = k
  ·subst e
   rw [if_pos (by simp [h1, h2])]; omega
  ·have := supD_ge (f := f) (m := m) (x := x) (show y < k by omega) h1 h2
   split <;> omega
theorem supD_le {f : Nat → Nat} {m x v : Nat} : ∀ k, (∀ y, y < k → m.testBit y = true → y ≠ x → f y ≤ v) → supD f m x k ≤ v
 | 0, _ => Nat.zero_le _
 | k + 1, h => by
  have ih := supD_le k (fun y h1 => h y (by omega))
  unfold supD
  by_cases c : (m.testBit k && !(k == x)) = true
  ·rw [if_pos c]
   simp only [Bool.and_eq_true, Bool.not_eq_true', beq_eq_false_iff_ne] at c
   have := h k (by omega) c.1 c.2
   omega
  ·rw [if_neg c]; exact ih
theorem supD_met {f : Nat → Nat} {m x : Nat} : ∀ k, supD f m x k = 0 ∨ ∃ y, y < k ∧ m.testBit y = true ∧ y ≠ x ∧ f y = supD f m x k
 | 0 => .inl rfl
 | k + 1 => by
  have ih := supD_met (f := f) (m := m) (x := x) k
  unfold supD
  by_cases c : (m.testBit k && !(k == x)) = true
  ·rw [if_pos c]
   simp only [Bool.and_eq_true, Bool.not_eq_true', beq_eq_false_iff_ne] at c
   by_cases hl : supD f m x k ≤ f k
   ·right; exact ⟨k, by omega, c.1, c.2, by omega⟩
   ·rcases ih with h | ⟨y, h1, h2, h3, h4⟩
    ·omega
    ·right; exact ⟨y, by omega, h2, h3, by omega⟩
  ·rw [if_neg c]
   rcases ih with h | ⟨y, h1, h2, h3, h4⟩
   ·exact .inl h
   ·right; exact ⟨y, by omega, h2, h3, h4⟩
theorem anti_of {b : List Nat} (h : antiB b = true) {x y : Nat} (hx : x < b.length) (hy : y < b.length) (h1 : (b.getD x 0).testBit y = true) (h2 : (b.getD y 0).testBit x = true) : x = y := by
 unfold antiB at h
 have := List.all_eq_true.1 (List.all_eq_true.1 h x (by simpa using hx)) y (by simpa using hy)
 unfold antiQ at this
 rw [h1, h2] at this
 simpa using this
theorem memB_sub {a m : Nat} (hs : ∀ i, a.testBit i = true → m.testBit i = true) {x : Nat} (hx : m.testBit x = true) (hxa : a.testBit x = false) (h8 : x < 8) : cntB a < cntB m := by
 unfold cntB memB lowB
 have h1 : ((List.range 8).filter fun j => a.testBit j) = ((List.range 8).filter fun j => m.testBit j).filter fun j => a.testBit j := by
  rw [List.filter_filter]
  apply List.filter_congr
  intro j _
  cases e : a.testBit j
  ·rfl
  ·simp [hs j e]
 rw [h1]
 have hm : x ∈ (List.range 8).filter fun j => m.testBit j := List.mem_filter.2 ⟨List.mem_range.2 h8, hx⟩
 have hle := List.length_filter_le (fun j => a.testBit j) ((List.range 8).filter fun j => m.testBit j)
 rcases Nat.lt_or_ge (((List.range 8).filter fun j => m.testBit j).filter fun j => a.testBit j).length ((List.range 8).filter fun j => m.testBit j).length with h | h
 ·exact h
 ·have := List.length_filter_eq_length_iff.1 (Nat.le_antisymm hle h) x hm
  rw [hxa] at this; cases this
section
variable {b : List Nat} (hb : b.length ≤ 8) (hbm : Bnd b.length b) (hr : reflB b = true) (ht : transB b = true) (ha : antiB b = true)
include hb hbm hr ht ha
theorem above_less {x y : Nat} (hx : x < b.length) (hxy : (b.getD x 0).testBit y = true) (hne : y ≠ x) : cntB (b.getD y 0) < cntB (b.getD x 0) := by
 have hy := bit_lt hbm hxy
 refine memB_sub (x := x) (fun i hi => trans_of hbm ht hx hxy hi) (refl_of hr hx) ?_ (by omega)
 cases e : (b.getD y 0).testBit x
 ·rfl
 ·exact absurd (anti_of ha hy hx e hxy) hne
theorem dptF_stable : ∀ c x, x < b.length → cntB (b.getD x 0) ≤ c → ∀ f, c ≤ f + 1 → dptF b (f + 1) x = dptF b f x := by
 intro c
 induction c with
 | zero =>
  intro x hx hc f _
  have : x ∈ memB (b.getD x 0) := List.mem_filter.2 ⟨List.mem_range.2 (by omega), refl_of hr hx⟩
  have h0 : 0 < (memB (b.getD x 0)).length := List.length_pos_of_mem this
  unfold cntB at hc
  omega
 | succ c ih =>
  intro x hx hc f hf
  have hstep : ∀ f, c ≤ f + 1 → ∀ y, y < 8 → (b.getD x 0).testBit y = true → y ≠ x → dptF b (f + 1) y = dptF b f y := fun f hf y _ hy hne => by
   have := above_less hb hbm hr ht ha hx hy hne
   exact ih y (bit_lt hbm hy) (by omega) f hf
  cases f with
  | zero =>
   -- c = 0: nothing lies strictly above
   have hc0 : c = 0 := by omega
   have : supD (dptF b 0) (b.getD x 0) x 8 = 0 := by
    rcases supD_met (f := dptF b 0) (m := b.getD x 0) (x := x) 8 with h | ⟨y, h1, h2, h3, _⟩
    ·exact h
    ·have h4 := above_less hb hbm hr ht ha hx h2 h3
     have h5 : y ∈ memB (b.getD y 0) := List.mem_filter.2 ⟨List.mem_range.2 h1, refl_of hr (bit_lt hbm h2)⟩
     have h6 : 0 < (memB (b.getD y 0)).length := List.length_pos_of_mem h5
     unfold cntB at hc h4
     omega
   show supD (dptF b 0) (b.getD x 0) x 8 + 1 = 1
   rw [this]
  | succ f =>
   show supD (dptF b (f + 1)) (b.getD x 0) x 8 + 1 = supD (dptF b f) (b.getD x 0) x 8 + 1
   rw [supD_congr 8 (hstep f (by omega))]
theorem dptB_eq {x : Nat} (hx : x < b.length) : dptB b x = supD (dptB b) (b.getD x 0) x 8 + 1 := by
 have h := dptF_stable hb hbm hr ht ha 8 x hx (cntB_le _) 8 (by omega)
 unfold dptB
 rw [← h]
 rfl
theorem dptB_above {x y : Nat} (hx : x < b.length) (hy : (b.getD x 0).testBit y = true) (hne : y ≠ x) : dptB b y + 1 ≤ dptB b x := by
 have hy8 : y < 8 := by have := bit_lt hbm hy; omega
 rw [dptB_eq hb hbm hr ht ha hx]
 have := supD_ge (f := dptB b) (m := b.getD x 0) (x := x) hy8 hy hne
 omega
theorem dptB_le : ∀ c x, x < b.length → cntB (b.getD x 0) ≤ c → dptB b x ≤ c := by
 intro c
 induction c with
 | zero =>
  intro x hx hc
  have : x ∈ memB (b.getD x 0) := List.mem_filter.2 ⟨List.mem_range.2 (by omega), refl_of hr hx⟩
  have h0 : 0 < (memB (b.getD x 0)).length := List.length_pos_of_mem this
  unfold cntB at hc
  omega
 | succ c ih =>
  intro x hx hc
  rw [dptB_eq hb hbm hr ht ha hx]
  have : supD (dptB b) (b.getD x 0) x 8 ≤ c := supD_le 8 (fun y _ hy hne => by
   have h1 := above_less hb hbm hr ht ha hx hy hne
   exact ih y (bit_lt hbm hy) (by omega))
  omega
theorem dptB_pos {x : Nat} (hx : x < b.length) : 1 ≤ dptB b x := by rw [dptB_eq hb hbm hr ht ha hx]; omega
theorem dptB_8 {x : Nat} (hx : x < b.length) : dptB b x ≤ 8 := dptB_le hb hbm hr ht ha 8 x hx (cntB_le _)
theorem fstE_none {k : Nat} (hk : k < b.length) : ∀ j, j ≤ k → fstE b k j = none
 | 0, _ => by have _u := And.intro hb (And.intro hbm (And.intro hr ht)); rfl
 | j + 1, hj => by
  have ih := fstE_none hk j (by omega)
  show (match fstE b k j with | some y => some y | none => if eqvB b k j then some j else none) = none
  rw [ih]
  have : eqvB b k j = false := by
   cases e : eqvB b k j
   ·rfl
   ·unfold eqvB at e
    rw [Bool.and_eq_true] at e
    have := anti_of ha hk (by omega) e.1 e.2
    omega
  simp [this]
theorem clS_range : ∀ k, k ≤ b.length → clS b k = (List.range k, k)
 | 0, _ => rfl
 | k + 1, hk => by
  have ih := clS_range k (by omega)
  rw [clS_none (fstE_none hb hbm hr ht ha (by omega) k (Nat.le_refl _)), ih, List.range_succ]
theorem clB_range : clB b = List.range b.length := by
 unfold clB
 rw [clS_range hb hbm hr ht ha b.length (Nat.le_refl _)]
end
def RndA (b : List Nat) (a : List Nat) (r : Nat) : Prop := a.length = b.length ∧ (∀ i, i < b.length → 1 ≤ a.getD i 0 ∧ a.getD i 0 ≤ dptB b i) ∧ (∀ i, i < b.length → dptB b i ≤ r → a.getD i 0 = dptB b i)
def dptL (b : List Nat) : List Nat := (List.range b.length).map (dptB b)
theorem dptL_len (b : List Nat) : (dptL b).length = b.length := by simp [dptL]
theorem dptL_get {b : List Nat} {i : Nat} (h : i < b.length) : (dptL b).getD i 0 = dptB b i := by simp [dptL, List.getD_eq_getElem?_getD, h]
theorem RndA.done {b a : List Nat} {r : Nat} (h : RndA b a r) (h8 : ∀ i, i < b.length → dptB b i ≤ r) : a = dptL b := by
 apply List.ext_getElem
 ·rw [h.1, dptL_len]
 ·intro i h1 h2
  have hi : i < b.length := by rw [← h.1]; exact h1
  have e1 := h.2.2 i hi (h8 i hi)
  rw [getD_get h1] at e1
  have e2 := dptL_get hi
  rw [getD_get h2] at e2
  rw [e1, e2]
end Go.Proofs.YtfmmajgkjkmghaaGreatDoor
namespace Go.Proofs.YtfmmajgkjkmghaaGreatDoor
def MidA (b : List Nat) (t k : Nat) (a : List Nat) : Prop := RndA b a (t + 1) ∧ ∀ i, i < b.length → i < k → dptB b i ≤ t + 2 → a.getD i 0 = dptB b i
def InnA (b : List Nat) (t x : Nat) (l : List Nat) (j : Nat) (a : List Nat) : Prop := MidA b t x a ∧ ∀ s (h : s < l.length), s < j → l[s] ≠ x → dptB b l[s] ≤ t + 1 → dptB b l[s] + 1 ≤ a.getD x 0
theorem mid_start {b : List Nat} {t : Nat} {a : List Nat} (h : RndA b a (t + 1)) : MidA b t 0 a := ⟨h, fun i _ h2 => by omega⟩
theorem mid_end {b : List Nat} {t : Nat} {a : List Nat} (h : MidA b t b.length a) : RndA b a (t + 1 + 1) := ⟨h.1.1, h.1.2.1, fun i hi hd => h.2 i hi hi hd⟩
theorem inn_start {b : List Nat} {t x : Nat} {l a : List Nat} (h : MidA b t x a) : InnA b t x l 0 a := ⟨h, fun s _ h2 => by omega⟩
theorem inn_skip {b : List Nat} {t x j : Nat} {l a : List Nat} (h : InnA b t x l j a) (hj : j < l.length) (he : l[j] = x) : InnA b t x l (j + 1) a := ⟨h.1, fun s hs h2 hne hd => by
 by_cases e : s = j
 ·subst e; exact absurd he hne
 ·exact h.2 s hs (by omega) hne hd⟩
section
variable {b : List Nat} (hb : b.length ≤ 8) (hbm : Bnd b.length b) (hr : reflB b = true) (ht : transB b = true) (ha : antiB b = true)
include hb hbm hr ht ha
theorem inn_step {t x j : Nat} {l a : List Nat} (h : InnA b t x l j a) (hx : x < b.length) (hj : j < l.length) (hbit : (b.getD x 0).testBit l[j] = true) (hne : l[j] ≠ x) :
  InnA b t x l (j + 1) (a.set x (max (a.getD x 0) (a.getD l[j] 0 + 1))) := by
 obtain ⟨⟨⟨h1, h2, h3⟩, h4⟩, h5⟩ := h
 have hxa : x < a.length := by rw [h1]; exact hx
 have hy := bit_lt hbm hbit
 have hab := dptB_above hb hbm hr ht ha hx hbit hne
 obtain ⟨b1, b2⟩ := h2 x hx
 obtain ⟨c1, c2⟩ := h2 l[j] hy
 refine ⟨⟨⟨by rw [List.length_set]; exact h1, fun i hi => ?_, fun i hi hd => ?_⟩, fun i hi hk hd => ?_⟩, fun s hs hsj hsne hd => ?_⟩
 ·rw [getD_set _ _ _ _ hxa]
  split
  ·rename_i e; subst e; omega
  ·exact h2 i hi
 ·rw [getD_set _ _ _ _ hxa]
  split
  ·rename_i e; subst e
   have := h3 x hx hd
   omega
  ·exact h3 i hi hd
 ·rw [getD_set _ _ _ _ hxa, if_neg (by omega)]
  exact h4 i hi hk hd
 ·rw [getD_set _ _ _ _ hxa, if_pos rfl]
  by_cases e : s = j
  ·subst e
   have := h3 l[s] hy hd
   omega
  ·have := h5 s hs (by omega) hsne hd
   omega
theorem inn_end {t x : Nat} {a : List Nat} (h : InnA b t x (memB (b.getD x 0)) (memB (b.getD x 0)).length a) (hx : x < b.length) : MidA b t (x + 1) a := by
 obtain ⟨hm, h5⟩ := h
 obtain ⟨⟨h1, h2, h3⟩, h4⟩ := id hm
 refine ⟨hm.1, fun i hi hk hd => ?_⟩
 by_cases e : i = x
 ·subst e
  obtain ⟨b1, b2⟩ := h2 i hi
  have he := dptB_eq hb hbm hr ht ha hi
  rcases supD_met (f := dptB b) (m := b.getD i 0) (x := i) 8 with h0 | ⟨y, y1, y2, y3, y4⟩
  ·omega
  ·have hmem : y ∈ memB (b.getD i 0) := List.mem_filter.2 ⟨List.mem_range.2 y1, y2⟩
   obtain ⟨s, hs, rfl⟩ := List.getElem_of_mem hmem
   have := h5 s hs hs y3 (by omega)
   omega
 ·exact h4 i hi (by omega) hd
theorem cntB_le_len {x : Nat} : cntB (b.getD x 0) ≤ b.length := by
 have _u := And.intro hr (And.intro ht ha)
 have h := lowB_more (b.getD x 0) b.length (hbm x) (8 - b.length)
 rw [show b.length + (8 - b.length) = 8 by omega] at h
 unfold cntB memB
 rw [h]
 exact lowB_len _ _
theorem rnd_start : RndA b (List.replicate b.length 1) 1 := by
 have hg : ∀ i, i < b.length → (List.replicate b.length 1).getD i 0 = 1 := fun i hi => by simp [List.getD_eq_getElem?_getD, hi]
 refine ⟨by simp, fun i hi => ?_, fun i hi hd => ?_⟩
 ·rw [hg i hi]
  exact ⟨Nat.le_refl _, dptB_pos hb hbm hr ht ha hi⟩
 ·rw [hg i hi]
  have := dptB_pos hb hbm hr ht ha hi
  omega
theorem rnd_end {a : List Nat} (h : RndA b a (b.length + 1)) : a = dptL b := h.done (fun i hi => by
 have := dptB_le hb hbm hr ht ha (b.length) i hi (cntB_le_len hb hbm hr ht ha)
 omega)
end
end Go.Proofs.YtfmmajgkjkmghaaGreatDoor
namespace Go.Proofs.YtfmmajgkjkmghaaGreatDoor
open Go.RowKit
set_option maxRecDepth 20000 in
set_option maxHeartbeats 4000000 in
theorem l05Flag0_any (b : List Nat) (v : Value) (w : World) (hv : Ints w v (zs b)) (hb : b.length ≤ 8) (hbm : Bnd b.length b) :
  Calls Tryz.prog 119 #[.agg #[.int .i64 b.length, v], .int .i64 0] w fun e w' => e = .returned (.bool (reflB b)) ∧ Keeps w w' := by
 have hv0 := hv
 obtain ⟨p, cap, rfl, hle, hmx, hat0, hlen⟩ := hv
 clear hat0
 unfold maxLen at hmx
 rw [zs_length] at *
 have h256 := two8 hb
 have kA := (Keeps.refl w).alloc (.cells #[.int .i64 b.length, .slice p b.length cap] 57)
 have HB := hid (fun i j w2 (hj : j ≤ 8) => l01BitB_any (b.getD i 0) j w2 (Nat.lt_of_lt_of_le (hbm i) h256) hj)
 have HP : Hid (reflB b = (List.range b.length).all (fun x => (b.getD x 0).testBit x)) := hid rfl
 obtain ⟨G, hG⟩ : ∃ G : Nat → Nat, ∀ i, G i = b.getD i 0 := ⟨fun i => b.getD i 0, fun _ => rfl⟩
 simp only [← hG] at HB HP
 generalize hn : b.length = n at hle hmx hlen hb kA hv0 ⊢
 generalize hP : (fun x => (G x).testBit x) = P at HP
 have HG := hid hG; clear hG
 have HPP := hid hP; clear hP
 have HV0 := hid hv0; clear hv0
 have HN := hid hn; clear hn
 clear h256 hbm
 go_enter Tryz.func119, Tryz.ntmps119
 go_wp2_with fail
 go_quiet (fail)
 go_wp2
 go_loopw [4, 7] (fun r x' wr => ∃ x : Nat, x ≤ n ∧ x' = .int .i64 x ∧ r = .bool false ∧ (∀ j, j < x → P j = true) ∧ Keeps w wr) (fun _ x' _ => n - (intOf x').toNat)
 case atStart => exact ⟨0, by omega, rfl, rfl, fun j h => by omega, kA.drewN _⟩
 case round =>
  obtain ⟨x, hx, rfl, rfl, hall, kw⟩ := hrel
  have HA := hid hall; clear hall
  by_cases hlt : x < n
  ·have hlt' : (x : Int) < n := by omega
   have hread : ∀ (j : Nat) (wq : World), Keeps w wq → j < n → ∃ b1 o1, p = some ⟨b1, o1, none⟩ ∧ wq.cell? ⟨b1, o1 + j, none⟩ = some (.int .i64 (G j : Nat)) := by
    intro j wq kq hj
    obtain ⟨_, _, e1, _, _, hat, _⟩ := HV0.out.keeps kq
    rw [zs_length, HN.out] at e1
    cases e1
    obtain ⟨b1, o1, e, h1⟩ := hat.int j (by rw [zs_length, HN.out]; omega)
    rw [zs_get, ← getD_get, ← HG.out] at h1
    exact ⟨b1, o1, e, h1⟩
   have HR := hid hread; clear hread
   obtain ⟨b1, o1, rfl, h1⟩ := HR.out x wr kw hlt
   have hpx : P x = (G x).testBit x := by rw [← HPP.out]
   have HH := hid (HB.out x x wr (by omega))
   have KW := hid kw; clear kw
   cases hbit : (G x).testBit x
   ·rw [hbit] at HH hpx
    have HPx := hid hpx; clear hpx
    clear hbit
    go_wp2_with fail
    refine HH.out.mono ?_; rintro e w' ⟨rfl, rfl⟩
    go_wp2_with fail
    go_ret
    refine ⟨ret_bool ?_, KW.out⟩
    rw [HP.out]
    exact (all_false (x := x) (by have := HN.out; omega) HPx.out).symm
   ·rw [hbit] at HH hpx
    have HPx := hid hpx; clear hpx
    clear hbit
    go_wp2_with fail
    refine HH.out.mono ?_; rintro e w' ⟨rfl, rfl⟩
    go_wp2_with fail
    clear HH
    go_loopw [4, 8] (fun r y' wr' => ∃ y : Nat, y ≤ n ∧ y' = .int .i64 y ∧ r = .bool false ∧ Keeps w wr') (fun _ y' _ => n - (intOf y').toNat)
    case atStart => exact ⟨0, by omega, rfl, rfl, KW.out⟩
    case round =>
     obtain ⟨y, hy, rfl, rfl, kw⟩ := hrel
     clear KW
     by_cases hyt : y < n
     ·have hyt' : (y : Int) < n := by omega
      obtain ⟨_, _, e, h1⟩ := HR.out x wr kw hlt
      cases e
      have HH := hid (HB.out x y wr (by omega))
      have KW := hid kw; clear kw
      cases hbit : (G x).testBit y
      ·rw [hbit] at HH
       clear hbit
       go_wp2_with fail
       refine HH.out.mono ?_; rintro e w' ⟨rfl, rfl⟩
       go_wp2_with fail
       go_roundw
       case rel => exact ⟨y + 1, by omega, by go_num, rfl, KW.out⟩
       case measure => simp [intOf]; omega
      ·rw [hbit] at HH
       clear hbit
       go_wp2_with fail
       refine HH.out.mono ?_; rintro e w' ⟨rfl, rfl⟩
       go_wp2_with fail
       go_loopw [4, 9] (fun r z' wr' => ∃ z : Nat, z ≤ n ∧ z' = .int .i64 z ∧ r = .bool false ∧ Keeps w wr') (fun _ z' _ => n - (intOf z').toNat)
       case atStart => exact ⟨0, by omega, rfl, rfl, KW.out⟩
       case round =>
        obtain ⟨z, hz, rfl, rfl, kw⟩ := hrel
        clear KW HH
        by_cases hzt : z < n
        ·have hzt' : (z : Int) < n := by omega
         obtain ⟨_, _, e, h1⟩ := HR.out x wr kw hlt
         cases e
         have HH := hid (HB.out x z wr (by omega))
         have KW := hid kw; clear kw
         cases hbit : (G x).testBit z
         ·rw [hbit] at HH
          clear hbit
          go_wp2_with fail
          refine HH.out.mono ?_; rintro e w' ⟨rfl, rfl⟩
          go_wp2_with fail
          go_roundw
          case rel => exact ⟨z + 1, by omega, by go_num, rfl, KW.out⟩
          case measure => simp [intOf]; omega
         ·rw [hbit] at HH
          clear hbit
          go_wp2_with fail
          refine HH.out.mono ?_; rintro e w' ⟨rfl, rfl⟩
          go_wp2_with fail
          go_quiet (fail)
          go_wp2_with fail
          go_roundw
          case rel => exact ⟨z + 1, by omega, by go_num, rfl, KW.out.drewN _⟩
          case measure => simp [intOf]; omega
        ·obtain rfl : z = n := by omega
         have hzt' : ¬ (z : Int) < z := by omega
         go_wp2_with fail
         go_roundw
         case rel => exact ⟨y + 1, by omega, by go_num, rfl, kw⟩
         case measure => simp [intOf]; omega
     ·obtain rfl : y = n := by omega
      have hyt' : ¬ (y : Int) < y := by omega
      go_wp2_with fail
      go_roundw
      case rel => exact ⟨x + 1, by omega, by go_num, rfl, nextQ HA.out HPx.out, kw⟩
      case measure => simp [intOf]; omega
  ·obtain rfl : x = n := by omega
   have hlt' : ¬ (x : Int) < x := by omega
   go_wp2_with fail
   go_ret
   refine ⟨ret_bool ?_, kw⟩
   rw [HP.out]
   exact (all_true (fun j hj => HA.out j (by have := HN.out; omega))).symm
end Go.Proofs.YtfmmajgkjkmghaaGreatDoor
