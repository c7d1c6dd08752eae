/- Plain mathematics: clusters of a preorder, images of masks under the numbers of clusters, boxes, the quotient. No program in sight. -/
import Derived.Test.YtolepbiepebclaaQD
namespace Go.Proofs.Ytolepbiepebclaa
theorem refl_of {b : List Nat} (h : reflB b = true) {x : Nat} (hx : x < b.length) : (b.getD x 0).testBit x = true := by
  unfold reflB at h
  exact List.all_eq_true.1 h x (by simpa using hx)
theorem trans_of {b : List Nat} (hb : Bnd b.length b) (h : transB b = true) {i j k : Nat} (hi : i < b.length) (h1 : (b.getD i 0).testBit j = true) (h2 : (b.getD j 0).testBit k = true) : (b.getD i 0).testBit k = true := by
  unfold transB at h
  have := List.all_eq_true.1 h i (by simpa using hi)
  rw [inB_iff] at this
  exact this k ((imgL_bit _ _ _ _).2 ⟨j, bit_lt hb h1, h1, h2⟩)
theorem closed_of {b : List Nat} (hb : Bnd b.length b) (h : transB b = true) : wAll b b.length b.length = b := by
  have := trans_eq b hb
  rw [h, decide_eq_true_eq] at this
  exact this
theorem or_pow_self {m x : Nat} (h : m.testBit x = true) : m ||| 2 ^ x = m := by
  apply Nat.eq_of_testBit_eq
  intro i
  rw [Nat.testBit_or, Nat.testBit_two_pow]
  by_cases e : x = i
  · subst e; simp [h]
  · simp [e]
/-- two elements see each other -/
def eqvB (b : List Nat) (x y : Nat) : Bool := (b.getD x 0).testBit y && (b.getD y 0).testBit x
theorem eqv_row {b : List Nat} (hb : Bnd b.length b) (h : transB b = true) {x y : Nat} (hx : x < b.length) (hy : y < b.length) (e : eqvB b x y = true) : b.getD x 0 = b.getD y 0 := by
  unfold eqvB at e
  rw [Bool.and_eq_true] at e
  apply Nat.eq_of_testBit_eq
  intro i
  rw [Bool.eq_iff_iff]
  exact ⟨fun k => trans_of hb h hy e.2 k, fun k => trans_of hb h hx e.1 k⟩
/-- the least element below j in the cluster of x -/
def fstE (b : List Nat) (x : Nat) : Nat → Option Nat
  | 0 => none
  | j + 1 => match fstE b x j with
    | some y => some y
    | none => if eqvB b x j then some j else none
theorem fstE_some {b : List Nat} {x : Nat} : ∀ {j y : Nat}, fstE b x j = some y → y < j ∧ eqvB b x y = true
  | 0, y, h => by simp [fstE] at h
  | j + 1, y, h => by
    unfold fstE at h
    cases e : fstE b x j with
    | some z => rw [e] at h; simp at h; subst h; have := fstE_some e; exact ⟨by omega, this.2⟩
    | none =>
      rw [e] at h
      by_cases q : eqvB b x j
      · simp [q] at h; subst h; exact ⟨by omega, q⟩
      · simp [q] at h
theorem fstE_stay {b : List Nat} {x y : Nat} : ∀ {j : Nat} (d : Nat), fstE b x j = some y → fstE b x (j + d) = some y
  | _, 0, h => h
  | j, d + 1, h => by
    have := fstE_stay d h
    show (match fstE b x (j + d) with | some y => some y | none => if eqvB b x (j + d) then some (j + d) else none) = some y
    rw [this]
/-- the numbers of the clusters of the first k elements, and how many there are -/
def clS (b : List Nat) : Nat → List Nat × Nat
  | 0 => ([], 0)
  | k + 1 => match fstE b k k with
    | some y => ((clS b k).1 ++ [(clS b k).1.getD y 0], (clS b k).2)
    | none => ((clS b k).1 ++ [(clS b k).2], (clS b k).2 + 1)
theorem clS_some {b : List Nat} {k y : Nat} (h : fstE b k k = some y) : clS b (k + 1) = ((clS b k).1 ++ [(clS b k).1.getD y 0], (clS b k).2) := by
  show (match fstE b k k with | some y => _ | none => _) = _
  rw [h]
theorem clS_none {b : List Nat} {k : Nat} (h : fstE b k k = none) : clS b (k + 1) = ((clS b k).1 ++ [(clS b k).2], (clS b k).2 + 1) := by
  show (match fstE b k k with | some y => _ | none => _) = _
  rw [h]
theorem clS_len (b : List Nat) : ∀ k, (clS b k).1.length = k
  | 0 => rfl
  | k + 1 => by
    cases h : fstE b k k with
    | some y => rw [clS_some h]; simp [clS_len b k]
    | none => rw [clS_none h]; simp [clS_len b k]
theorem clS_le (b : List Nat) : ∀ k, (clS b k).2 ≤ k
  | 0 => Nat.le_refl _
  | k + 1 => by
    have := clS_le b k
    cases h : fstE b k k with
    | some y => rw [clS_some h]; simp; omega
    | none => rw [clS_none h]; simp; omega
theorem getD_snoc (l : List Nat) (x i : Nat) : (l ++ [x]).getD i 0 = if i < l.length then l.getD i 0 else if i = l.length then x else 0 := by
  by_cases h : i < l.length
  · rw [if_pos h]; simp [List.getD_eq_getElem?_getD, List.getElem?_append_left h]
  · rw [if_neg h]
    by_cases e : i = l.length
    · subst e; simp [List.getD_eq_getElem?_getD]
    · rw [if_neg e]
      rw [List.getD_eq_getElem?_getD, List.getElem?_eq_none (by simp; omega)]; rfl
theorem clS_lt (b : List Nat) : ∀ k i, i < k → (clS b k).1.getD i 0 < (clS b k).2
  | 0, i, h => by omega
  | k + 1, i, h => by
    have hl := clS_len b k
    cases e : fstE b k k with
    | some y =>
      rw [clS_some e]
      have hy := (fstE_some e).1
      rw [getD_snoc, hl]
      by_cases hi : i < k
      · rw [if_pos hi]; exact clS_lt b k i hi
      · rw [if_neg hi, if_pos (by omega)]; exact clS_lt b k y hy
    | none =>
      rw [clS_none e]
      rw [getD_snoc, hl]
      show _ < (clS b k).2 + 1
      by_cases hi : i < k
      · rw [if_pos hi]; have := clS_lt b k i hi; omega
      · rw [if_neg hi, if_pos (by omega)]; omega
/-- later elements change nothing of the earlier numbers -/
theorem clS_keep (b : List Nat) (k i : Nat) (hi : i < k) : ∀ d, (clS b (k + d)).1.getD i 0 = (clS b k).1.getD i 0
  | 0 => rfl
  | d + 1 => by
    have ih := clS_keep b k i hi d
    have hl := clS_len b (k + d)
    rw [← Nat.add_assoc]
    cases e : fstE b (k + d) (k + d) with
    | some y => rw [clS_some e, getD_snoc, hl, if_pos (by omega), ih]
    | none => rw [clS_none e, getD_snoc, hl, if_pos (by omega), ih]
def clB (b : List Nat) : List Nat := (clS b b.length).1
theorem clB_len (b : List Nat) : (clB b).length = b.length := clS_len b _
theorem clB_get (b : List Nat) {i k : Nat} (hi : i < k) (hk : k ≤ b.length) : (clB b).getD i 0 = (clS b k).1.getD i 0 := by
  have := clS_keep b k i hi (b.length - k)
  rw [show k + (b.length - k) = b.length by omega] at this
  exact this
theorem clB_lt (b : List Nat) (i : Nat) (hi : i < b.length) : (clB b).getD i 0 < (clS b b.length).2 := clS_lt b _ i hi
/-- the image of a mask under numbers -/
def foldM (c : List Nat) (l : List Nat) : Nat := l.foldl (fun acc i => acc ||| 2 ^ c.getD i 0) 0
theorem foldM_snoc (c l : List Nat) (x : Nat) : foldM c (l ++ [x]) = foldM c l ||| 2 ^ c.getD x 0 := by simp [foldM, List.foldl_append]
theorem foldM_lt {c : List Nat} {n : Nat} (l : List Nat) (h : ∀ x ∈ l, c.getD x 0 < n) : foldM c l < 2 ^ n := by
  have : ∀ (l : List Nat) (acc : Nat), (∀ x ∈ l, c.getD x 0 < n) → acc < 2 ^ n → l.foldl (fun acc i => acc ||| 2 ^ c.getD i 0) acc < 2 ^ n := by
    intro l
    induction l with
    | nil => intro acc _ h; exact h
    | cons x l ih => intro acc h hacc; exact ih _ (fun y hy => h y (List.mem_cons_of_mem _ hy)) (Nat.or_lt_two_pow hacc (Nat.pow_lt_pow_right (by omega) (h x (List.mem_cons_self ..))))
  exact this l 0 h (Nat.two_pow_pos n)
def mapM (c : List Nat) (m : Nat) : Nat := foldM c (memB m)
/-- what sees a mask alone -/
def boxB (b : List Nat) (m : Nat) : Nat → Nat
  | 0 => 0
  | i + 1 => if inB (b.getD i 0) m then boxB b m i ||| 2 ^ i else boxB b m i
theorem boxB_lt (b : List Nat) (m : Nat) : ∀ i, boxB b m i < 2 ^ i
  | 0 => by simp [boxB]
  | i + 1 => by
    have h := boxB_lt b m i
    have h2 : 2 ^ i < 2 ^ (i + 1) := Nat.pow_lt_pow_right (by omega) (by omega)
    unfold boxB
    split
    · exact Nat.or_lt_two_pow (by omega) h2
    · omega
theorem inB_and (a m : Nat) : inB a m = (a &&& m == a) := by
  rw [Bool.eq_iff_iff, inB_iff, beq_iff_eq]
  constructor
  · intro h
    apply Nat.eq_of_testBit_eq
    intro i
    rw [Nat.testBit_and]
    cases e : a.testBit i
    · rfl
    · simp [h i e]
  · intro h i hi
    have := congrArg (fun n => n.testBit i) h
    simp only [Nat.testBit_and, hi, Bool.true_and] at this
    exact this
/-- the quotient, told by the first elements of the clusters -/
def qL (b : List Nat) : Nat → List Nat
  | 0 => []
  | k + 1 => match fstE b k k with
    | some _ => qL b k
    | none => qL b k ++ [mapM (clB b) (b.getD k 0)]
theorem qL_some {b : List Nat} {k y : Nat} (h : fstE b k k = some y) : qL b (k + 1) = qL b k := by
  show (match fstE b k k with | some _ => _ | none => _) = _
  rw [h]
theorem qL_none {b : List Nat} {k : Nat} (h : fstE b k k = none) : qL b (k + 1) = qL b k ++ [mapM (clB b) (b.getD k 0)] := by
  show (match fstE b k k with | some _ => _ | none => _) = _
  rw [h]
theorem qL_len (b : List Nat) : ∀ k, (qL b k).length = (clS b k).2
  | 0 => rfl
  | k + 1 => by
    cases h : fstE b k k with
    | some y => rw [qL_some h, clS_some h]; exact qL_len b k
    | none => rw [qL_none h, clS_none h]; simp [qL_len b k]
theorem qL_get {b : List Nat} (hb : Bnd b.length b) (ht : transB b = true) : ∀ k, k ≤ b.length → ∀ i, i < k → (qL b k).getD ((clB b).getD i 0) 0 = mapM (clB b) (b.getD i 0)
  | 0, _, i, h => by omega
  | k + 1, hk, i, h => by
    have ih := qL_get hb ht k (by omega)
    have hl := qL_len b k
    have hcl := clS_len b k
    cases e : fstE b k k with
    | some y =>
      rw [qL_some e]
      obtain ⟨hy, he⟩ := fstE_some e
      by_cases hi : i < k
      · exact ih i hi
      · obtain rfl : i = k := by omega
        have h1 : (clB b).getD i 0 = (clB b).getD y 0 := by
          rw [clB_get b (Nat.lt_succ_self i) hk, clS_some e, getD_snoc, hcl, if_neg (by omega), if_pos rfl, clB_get b hy (by omega)]
        rw [h1, ih y hy, eqv_row hb ht (by omega) (by omega) he]
    | none =>
      rw [qL_none e]
      by_cases hi : i < k
      · rw [getD_snoc]
        have h2 : (clB b).getD i 0 < (qL b k).length := by rw [hl, clB_get b hi (by omega)]; exact clS_lt b k i hi
        rw [if_pos h2]; exact ih i hi
      · obtain rfl : i = k := by omega
        have h1 : (clB b).getD i 0 = (qL b i).length := by
          rw [clB_get b (Nat.lt_succ_self i) hk, clS_none e, getD_snoc, hcl, if_neg (by omega), if_pos rfl, hl]
        rw [getD_snoc, h1, if_neg (by omega), if_pos rfl]
theorem getD_appL {l r : List Nat} {i : Nat} (h : i < l.length) : (l ++ r).getD i 0 = l.getD i 0 := by
  simp [List.getD_eq_getElem?_getD, List.getElem?_append_left h]
/-- the row of the program while the quotient is made: the quotient so far, and zeros behind -/
def qRow (b : List Nat) (k : Nat) : List Nat := qL b k ++ List.replicate ((clS b b.length).2 - (clS b k).2) 0
theorem clS_mono (b : List Nat) (k : Nat) : ∀ d, (clS b k).2 ≤ (clS b (k + d)).2
  | 0 => Nat.le_refl _
  | d + 1 => by
    have := clS_mono b k d
    rw [← Nat.add_assoc]
    cases e : fstE b (k + d) (k + d) with
    | some y => rw [clS_some e]; exact this
    | none => rw [clS_none e]; show _ ≤ _ + 1; omega
theorem qRow_len {b : List Nat} {k : Nat} (hk : k ≤ b.length) : (qRow b k).length = (clS b b.length).2 := by
  have := clS_mono b k (b.length - k)
  rw [show k + (b.length - k) = b.length by omega] at this
  unfold qRow
  rw [List.length_append, qL_len, List.length_replicate]; omega
theorem qRow_end (b : List Nat) : qRow b b.length = qL b b.length := by simp [qRow]
theorem qRow_start (b : List Nat) : qRow b 0 = List.replicate (clS b b.length).2 0 := by simp [qRow, qL, clS]
theorem set_getD_self {l : List Nat} {i x : Nat} (hi : i < l.length) (h : x = l.getD i 0) : l.set i x = l := by
  apply List.ext_getElem (by simp)
  intro j h1 h2
  rw [List.getElem_set]
  split
  · rename_i e; subst e; rw [h]; simp [List.getD_eq_getElem?_getD, hi]
  · rfl
theorem qRow_step {b : List Nat} (hb : Bnd b.length b) (ht : transB b = true) {k : Nat} (hk : k < b.length) :
    (qRow b k).set ((clB b).getD k 0) ((qRow b k).getD ((clB b).getD k 0) 0 ||| mapM (clB b) (b.getD k 0)) = qRow b (k + 1) := by
  have hl := qL_len b k
  have hcl := clS_len b k
  have hml : (clS b (k + 1)).2 ≤ (clS b b.length).2 := by
    have := clS_mono b (k + 1) (b.length - (k + 1))
    rwa [show k + 1 + (b.length - (k + 1)) = b.length by omega] at this
  cases e : fstE b k k with
  | some y =>
    obtain ⟨hy, he⟩ := fstE_some e
    have hq := qL_get hb ht (k + 1) hk k (Nat.lt_succ_self k)
    rw [qL_some e] at hq
    have h1 : (clB b).getD k 0 < (qL b k).length := by
      rw [clB_get b (Nat.lt_succ_self k) hk, clS_some e, getD_snoc, hcl, if_neg (by omega), if_pos rfl, hl]
      exact clS_lt b k y hy
    have h2 : (qRow b k).getD ((clB b).getD k 0) 0 = mapM (clB b) (b.getD k 0) := by
      rw [← hq]; unfold qRow
      exact getD_appL h1
    have h3 : qRow b (k + 1) = qRow b k := by unfold qRow; rw [qL_some e, clS_some e]
    rw [h2, Nat.or_self, h3]
    exact set_getD_self (by unfold qRow; rw [List.length_append]; omega) h2.symm
  | none =>
    have h1 : (clB b).getD k 0 = (qL b k).length := by
      rw [clB_get b (Nat.lt_succ_self k) hk, clS_none e, getD_snoc, hcl, if_neg (by omega), if_pos rfl, hl]
    have h4 : (clS b (k + 1)).2 = (clS b k).2 + 1 := by rw [clS_none e]
    rw [h1]
    unfold qRow
    rw [qL_none e, h4]
    obtain ⟨d, hd⟩ : ∃ d, (clS b b.length).2 - (clS b k).2 = d + 1 := ⟨(clS b b.length).2 - (clS b k).2 - 1, by omega⟩
    rw [hd, show (clS b b.length).2 - ((clS b k).2 + 1) = d by omega, List.replicate_succ]
    have h5 : (qL b k ++ 0 :: List.replicate d 0).getD (qL b k).length 0 = 0 := by simp [List.getD_eq_getElem?_getD]
    rw [h5, Nat.zero_or, List.set_append_right _ _ (Nat.le_refl _)]
    simp
/-- the greatest number of clusters' numbers, and one -/
theorem clB_max {b : List Nat} (h : 0 < b.length) : ∃ i, i < b.length ∧ (clB b).getD i 0 + 1 = (clS b b.length).2 := by
  have : ∀ k, 0 < k → ∃ i, i < k ∧ (clS b k).1.getD i 0 + 1 = (clS b k).2 := by
    intro k
    induction k with
    | zero => intro h; omega
    | succ k ih =>
      intro _
      have hcl := clS_len b k
      cases e : fstE b k k with
      | some y =>
        have hk : 0 < k := by have := (fstE_some e).1; omega
        obtain ⟨i, hi, h1⟩ := ih hk
        exact ⟨i, by omega, by rw [clS_some e, getD_snoc, hcl, if_pos hi]; exact h1⟩
      | none => exact ⟨k, by omega, by rw [clS_none e, getD_snoc, hcl, if_neg (by omega), if_pos rfl]⟩
  exact this _ h
end Go.Proofs.Ytolepbiepebclaa
