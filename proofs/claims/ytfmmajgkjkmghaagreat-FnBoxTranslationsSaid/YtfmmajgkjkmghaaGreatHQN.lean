import Derived.Test.YtfmmajgkjkmghaaGreatHK1
import Derived.Test.YtfmmajgkjkmghaaGreatHK8
import Derived.Test.YtfmmajgkjkmghaaGreatHQU
/- Plain: box translations: truth on a model with a preorder is forcing on its skeleton. -/
namespace Go.Proofs.YtfmmajgkjkmghaaGreat
theorem mapM_bit (c : List Nat) (m j : Nat) : (mapM c m).testBit j = true ↔ ∃ i, i < 8 ∧ m.testBit i = true ∧ c.getD i 0 = j := by
 have h : ∀ (l : List Nat) (acc : Nat), (l.foldl (fun acc i => acc ||| 2 ^ c.getD i 0) acc).testBit j = true ↔ acc.testBit j = true ∨ ∃ i ∈ l, c.getD i 0 = j := by
  intro l
  induction l with
  | nil => intro acc; simp
  | cons x l ih =>
   intro acc
   rw [List.foldl_cons, ih, Nat.testBit_or, Bool.or_eq_true, Nat.testBit_two_pow, decide_eq_true_eq]
   constructor
   ·rintro ((h1 | h1) | ⟨i, h1, h2⟩)
    ·exact .inl h1
    ·exact .inr ⟨x, by simp, h1⟩
    ·exact .inr ⟨i, by simp [h1], h2⟩
   ·rintro (h1 | ⟨i, h1, h2⟩)
    ·exact .inl (.inl h1)
    ·rcases List.mem_cons.1 h1 with rfl | h1
     ·exact .inl (.inr h2)
     ·exact .inr ⟨i, h1, h2⟩
 unfold mapM foldM
 rw [h]
 simp only [Nat.zero_testBit, Bool.false_eq_true, false_or]
 constructor
 ·rintro ⟨i, h1, h2⟩; exact ⟨i, (memB_mem h1).1, (memB_mem h1).2, h2⟩
 ·rintro ⟨i, h1, h2, h3⟩; exact ⟨i, by unfold memB lowB; exact List.mem_filter.2 ⟨List.mem_range.2 h1, h2⟩, h3⟩
theorem cl_row {b : List Nat} (hb : Bnd b.length b) (ht : transB b = true) : ∀ k, k ≤ b.length → ∀ i j, i < k → j < k → (clS b k).1.getD i 0 = (clS b k).1.getD j 0 → b.getD i 0 = b.getD j 0
 | 0, _, i, _, h, _, _ => by omega
 | k + 1, hk, i, j, hi, hj, he => by
  have ih := cl_row hb ht k (by omega)
  have hl := clS_len b k
  cases e : fstE b k k with
  | some y =>
   obtain ⟨hy, hq⟩ := fstE_some e
   have hr := eqv_row hb ht (show k < b.length by omega) (show y < b.length by omega) hq
   rw [clS_some e, getD_snoc, getD_snoc, hl] at he
   by_cases h1 : i < k
   ·rw [if_pos h1] at he
    by_cases h2 : j < k
    ·rw [if_pos h2] at he; exact ih i j h1 h2 he
    ·obtain rfl : j = k := by omega
     rw [if_neg (by omega), if_pos rfl] at he
     rw [hr]; exact ih i y h1 hy he
   ·obtain rfl : i = k := by omega
    rw [if_neg (by omega), if_pos rfl] at he
    by_cases h2 : j < i
    ·rw [if_pos h2] at he
     rw [hr]; exact ih y j hy h2 he
    ·obtain rfl : j = i := by omega
     rfl
  | none =>
   rw [clS_none e, getD_snoc, getD_snoc, hl] at he
   by_cases h1 : i < k
   ·rw [if_pos h1] at he
    have h3 := clS_lt b k i h1
    by_cases h2 : j < k
    ·rw [if_pos h2] at he; exact ih i j h1 h2 he
    ·obtain rfl : j = k := by omega
     rw [if_neg (by omega), if_pos rfl] at he
     omega
   ·obtain rfl : i = k := by omega
    rw [if_neg (by omega), if_pos rfl] at he
    by_cases h2 : j < i
    ·rw [if_pos h2] at he
     have h3 := clS_lt b i j h2
     omega
    ·obtain rfl : j = i := by omega
     rfl
theorem clB_row {b : List Nat} (hb : Bnd b.length b) (ht : transB b = true) {i j : Nat} (hi : i < b.length) (hj : j < b.length) (h : (clB b).getD i 0 = (clB b).getD j 0) : b.getD i 0 = b.getD j 0 :=
 cl_row hb ht _ (Nat.le_refl _) i j hi hj h
theorem cl_onto (b : List Nat) : ∀ k j, j < (clS b k).2 → ∃ i, i < k ∧ (clS b k).1.getD i 0 = j
 | 0, j, h => by simp [clS] at h
 | k + 1, j, h => by
  have hl := clS_len b k
  cases e : fstE b k k with
  | some y =>
   rw [clS_some e] at h ⊢
   obtain ⟨i, h1, h2⟩ := cl_onto b k j h
   exact ⟨i, by omega, by rw [getD_snoc, hl, if_pos h1]; exact h2⟩
  | none =>
   rw [clS_none e] at h ⊢
   have h' : j < (clS b k).2 + 1 := h
   by_cases hj : j = (clS b k).2
   ·exact ⟨k, by omega, by rw [getD_snoc, hl, if_neg (by omega), if_pos rfl]; exact hj.symm⟩
   ·obtain ⟨i, h1, h2⟩ := cl_onto b k j (by omega)
    exact ⟨i, by omega, by rw [getD_snoc, hl, if_pos h1]; exact h2⟩
theorem clB_onto (b : List Nat) {j : Nat} (h : j < (qL b b.length).length) : ∃ i, i < b.length ∧ (clB b).getD i 0 = j := cl_onto b _ j (by rwa [qL_len] at h)
theorem fstE_no {b : List Nat} {x : Nat} : ∀ {j : Nat}, fstE b x j = none → ∀ y, y < j → eqvB b x y = false
 | 0, _, y, h => by omega
 | j + 1, h, y, hy => by
  unfold fstE at h
  cases e : fstE b x j with
  | some z => rw [e] at h; cases h
  | none =>
   rw [e] at h
   by_cases q : eqvB b x j = true
   ·simp [q] at h
   ·by_cases h1 : y = j
    ·subst h1; exact Bool.eq_false_iff.2 q
    ·exact fstE_no e y (by omega)
theorem eqv_symm {b : List Nat} {x y : Nat} (h : eqvB b x y = true) : eqvB b y x = true := by
 unfold eqvB at *
 rw [Bool.and_eq_true] at *
 exact ⟨h.2, h.1⟩
theorem eqv_trans {b : List Nat} (hb : Bnd b.length b) (ht : transB b = true) {x y z : Nat} (hx : x < b.length) (hz : z < b.length) (h : eqvB b x y = true) (k : eqvB b y z = true) : eqvB b x z = true := by
 unfold eqvB at *
 rw [Bool.and_eq_true] at *
 exact ⟨trans_of hb ht hx h.1 k.1, trans_of hb ht hz k.2 h.2⟩
theorem cl_eqv {b : List Nat} (hb : Bnd b.length b) (ht : transB b = true) : ∀ k, k ≤ b.length → ∀ i j, i < k → j < k → eqvB b i j = true → (clS b k).1.getD i 0 = (clS b k).1.getD j 0
 | 0, _, i, _, h, _, _ => by omega
 | k + 1, hk, i, j, hi, hj, he => by
  have ih := cl_eqv hb ht k (by omega)
  have hl := clS_len b k
  cases e : fstE b k k with
  | some y =>
   obtain ⟨hy, hq⟩ := fstE_some e
   rw [clS_some e, getD_snoc, getD_snoc, hl]
   by_cases h1 : i < k
   ·rw [if_pos h1]
    by_cases h2 : j < k
    ·rw [if_pos h2]; exact ih i j h1 h2 he
    ·obtain rfl : j = k := by omega
     rw [if_neg (by omega), if_pos rfl]
     exact ih i y h1 hy (eqv_trans hb ht (by omega) (by omega) he hq)
   ·obtain rfl : i = k := by omega
    rw [if_neg (by omega), if_pos rfl]
    by_cases h2 : j < i
    ·rw [if_pos h2]
     exact ih y j hy h2 (eqv_trans hb ht (by omega) (by omega) (eqv_symm hq) he)
    ·obtain rfl : j = i := by omega
     rw [if_neg (by omega), if_pos rfl]
  | none =>
   rw [clS_none e, getD_snoc, getD_snoc, hl]
   have hno := fstE_no e
   by_cases h1 : i < k
   ·rw [if_pos h1]
    by_cases h2 : j < k
    ·rw [if_pos h2]; exact ih i j h1 h2 he
    ·obtain rfl : j = k := by omega
     have h3 := hno i h1
     rw [eqv_symm he] at h3; cases h3
   ·obtain rfl : i = k := by omega
    by_cases h2 : j < i
    ·have h3 := hno j h2
     rw [he] at h3; cases h3
    ·obtain rfl : j = i := by omega
     rfl
theorem clB_eqv {b : List Nat} (hb : Bnd b.length b) (ht : transB b = true) {i j : Nat} (hi : i < b.length) (hj : j < b.length) (h : eqvB b i j = true) : (clB b).getD i 0 = (clB b).getD j 0 :=
 cl_eqv hb ht _ (Nat.le_refl _) i j hi hj h
theorem sk_sees {b : List Nat} (h8 : b.length ≤ 8) (hb : Bnd b.length b) (ht : transB b = true) {i j : Nat} (hi : i < b.length) :
  ((qL b b.length).getD ((clB b).getD i 0) 0).testBit j = true ↔ ∃ u, u < b.length ∧ (b.getD i 0).testBit u = true ∧ (clB b).getD u 0 = j := by
 rw [qL_get hb ht _ (Nat.le_refl _) i hi, mapM_bit]
 constructor
 ·rintro ⟨u, _, h2, h3⟩; exact ⟨u, bit_lt hb h2, h2, h3⟩
 ·rintro ⟨u, h1, h2, h3⟩; exact ⟨u, by omega, h2, h3⟩
theorem qL_Pos {b : List Nat} (h8 : b.length ≤ 8) (hb : Bnd b.length b) (hr : reflB b = true) (ht : transB b = true) : Pos (qL b b.length) := by
 have hlen : (qL b b.length).length ≤ b.length := by rw [qL_len]; exact clS_le b _
 have hlt : ∀ u, u < b.length → (clB b).getD u 0 < (qL b b.length).length := fun u hu => by rw [qL_len]; exact clB_lt b u hu
 have hbn : Bnd (qL b b.length).length (qL b b.length) := by
  intro j
  by_cases hj : j < (qL b b.length).length
  ·obtain ⟨i, hi, rfl⟩ := clB_onto b hj
   rw [qL_get hb ht _ (Nat.le_refl _) i hi]
   exact foldM_lt _ fun x hx => hlt x (bit_lt hb (memB_mem hx).2)
  ·rw [List.getD_eq_getElem?_getD, List.getElem?_eq_none (by omega)]
   exact Nat.two_pow_pos _
 refine ⟨by omega, hbn, ?_, ?_, ?_⟩
 ·unfold reflB
  rw [List.all_eq_true]
  intro j hj
  obtain ⟨i, hi, rfl⟩ := clB_onto b (List.mem_range.1 hj)
  exact (sk_sees h8 hb ht hi).2 ⟨i, hi, refl_of hr hi, rfl⟩
 ·unfold transB
  rw [List.all_eq_true]
  intro x hx
  obtain ⟨i, hi, rfl⟩ := clB_onto b (List.mem_range.1 hx)
  rw [inB_iff]
  intro z hz
  obtain ⟨y, hy, h1, h2⟩ := (imgL_bit _ _ _ _).1 hz
  obtain ⟨u, hu, h3, rfl⟩ := (sk_sees h8 hb ht hi).1 h1
  obtain ⟨v, hv, h4, rfl⟩ := (sk_sees h8 hb ht hu).1 h2
  exact (sk_sees h8 hb ht hi).2 ⟨v, hv, trans_of hb ht hi h3 h4, rfl⟩
 ·unfold antiB
  rw [List.all_eq_true]
  intro x hx
  rw [List.all_eq_true]
  intro y hy
  obtain ⟨i, hi, rfl⟩ := clB_onto b (List.mem_range.1 hx)
  obtain ⟨k, hk, rfl⟩ := clB_onto b (List.mem_range.1 hy)
  unfold antiQ
  cases h1 : ((qL b b.length).getD ((clB b).getD i 0) 0).testBit ((clB b).getD k 0)
  ·rfl
  ·cases h2 : ((qL b b.length).getD ((clB b).getD k 0) 0).testBit ((clB b).getD i 0)
   ·simp
   ·obtain ⟨u, hu, h3, h4⟩ := (sk_sees h8 hb ht hi).1 h1
    obtain ⟨v, hv, h5, h6⟩ := (sk_sees h8 hb ht hk).1 h2
    have r1 := clB_row hb ht hu hk h4
    have r2 := clB_row hb ht hv hi h6
    have e : eqvB b i k = true := by
     unfold eqvB
     rw [Bool.and_eq_true]
     constructor
     ·exact trans_of hb ht hi h3 (by rw [r1]; exact refl_of hr hk)
     ·exact trans_of hb ht hk h5 (by rw [r2]; exact refl_of hr hi)
    rw [clB_eqv hb ht hi hk e, beq_self_eq_true]
    rfl
def trB (b vs : List Nat) : Fm → Nat
 | .var p => vs.getD p 0
 | .fls => 0
 | .and x y => trB b vs x &&& trB b vs y
 | .or x y => trB b vs x ||| trB b vs y
 | .imp x y => ((2 ^ b.length - 1) ^^^ ((2 ^ b.length - 1) &&& trB b vs x)) ||| trB b vs y
 | .box x => boxB b (trB b vs x) b.length
 | .dia x => (2 ^ b.length - 1) ^^^ ((2 ^ b.length - 1) &&& boxB b ((2 ^ b.length - 1) ^^^ ((2 ^ b.length - 1) &&& trB b vs x)) b.length)
def mfc (R A : Nat → Nat → Prop) : Nat → Fm → Prop
 | w, .var p => A w p
 | _, .fls => False
 | w, .and x y => mfc R A w x ∧ mfc R A w y
 | w, .or x y => mfc R A w x ∨ mfc R A w y
 | w, .imp x y => mfc R A w x → mfc R A w y
 | w, .box x => ∀ u, R w u → mfc R A u x
 | w, .dia x => ∃ u, R w u ∧ mfc R A u x
theorem off_bit (n m x : Nat) (hx : x < n) : ((2 ^ n - 1) ^^^ ((2 ^ n - 1) &&& m)).testBit x = !m.testBit x := by
 rw [Nat.testBit_xor, Nat.testBit_and, full_bit, decide_eq_true hx]
 cases m.testBit x <;> rfl
theorem trB_bit (b vs : List Nat) (hb : Bnd b.length b) : ∀ (t : Fm) (w : Nat), w < b.length → ((trB b vs t).testBit w = true ↔ mfc (fun x y => (b.getD x 0).testBit y = true) (fun x p => (vs.getD p 0).testBit x = true) w t)
 | .var p, w, _ => Iff.rfl
 | .fls, w, _ => by simp [trB, mfc]
 | .and x y, w, hw => by rw [trB, Nat.testBit_and, Bool.and_eq_true, trB_bit b vs hb x w hw, trB_bit b vs hb y w hw]; rfl
 | .or x y, w, hw => by rw [trB, Nat.testBit_or, Bool.or_eq_true, trB_bit b vs hb x w hw, trB_bit b vs hb y w hw]; rfl
 | .imp x y, w, hw => by
  rw [trB, Nat.testBit_or, off_bit _ _ _ hw, Bool.or_eq_true, Bool.not_eq_true', trB_bit b vs hb y w hw]
  have h := trB_bit b vs hb x w hw
  constructor
  ·rintro (h1 | h1) h2
   ·rw [h.2 h2] at h1; cases h1
   ·exact h1
  ·intro h1
   cases h2 : (trB b vs x).testBit w
   ·exact .inl rfl
   ·exact .inr (h1 (h.1 h2))
 | .box x, w, hw => by
  rw [trB, boxB_bit, decide_eq_true hw, Bool.true_and, inB_iff]
  exact forall_congr' fun u => ⟨fun h k => (trB_bit b vs hb x u (bit_lt hb k)).1 (h k), fun h k => (trB_bit b vs hb x u (bit_lt hb k)).2 (h k)⟩
 | .dia x, w, hw => by
  rw [trB, off_bit _ _ _ hw, boxB_bit, decide_eq_true hw, Bool.true_and, Bool.not_eq_true', Bool.eq_false_iff, ne_eq, inB_iff]
  constructor
  ·intro h
   simp only [Classical.not_forall] at h
   obtain ⟨u, h1, h2⟩ := h
   have hu := bit_lt hb h1
   rw [off_bit _ _ _ hu, Bool.not_eq_true', Bool.not_eq_false] at h2
   exact ⟨u, h1, (trB_bit b vs hb x u hu).1 h2⟩
  ·rintro ⟨u, h1, h2⟩ h
   have hu := bit_lt hb h1
   have h3 := h u h1
   rw [off_bit _ _ _ hu, Bool.not_eq_true', (trB_bit b vs hb x u hu).2 h2] at h3
   cases h3
theorem outr_bxt (R A : Nat → Nat → Prop) (D : Nat → Prop) (hD : ∀ x y, D x → R x y → D y) (hr : ∀ x, D x → R x x) (ht : ∀ x y z, D x → R x y → R y z → R x z) : ∀ (t : Fm), t.plain = true → ∀ w, D w → (mfc R A w (bxt t) ↔ ∀ u, R w u → mfc R A u (outr t))
 | .var p, _, w, _ => Iff.rfl
 | .fls, _, w, hw => ⟨fun h => h.elim, fun h => h w (hr w hw)⟩
 | .and x y, h, w, hw => by
  simp only [Fm.plain, Bool.and_eq_true] at h
  have h1 := outr_bxt R A D hD hr ht x h.1 w hw
  have h2 := outr_bxt R A D hD hr ht y h.2 w hw
  constructor
  ·intro k u hu; exact ⟨h1.1 k.1 u hu, h2.1 k.2 u hu⟩
  ·intro k; exact ⟨h1.2 fun u hu => (k u hu).1, h2.2 fun u hu => (k u hu).2⟩
 | .or x y, h, w, hw => by
  simp only [Fm.plain, Bool.and_eq_true] at h
  have h1 := outr_bxt R A D hD hr ht x h.1
  have h2 := outr_bxt R A D hD hr ht y h.2
  constructor
  ·rintro (k | k) u hu
   ·exact .inl fun v hv => (h1 w hw).1 k v (ht _ _ _ hw hu hv)
   ·exact .inr fun v hv => (h2 w hw).1 k v (ht _ _ _ hw hu hv)
  ·intro k
   rcases k w (hr w hw) with k | k
   ·exact .inl ((h1 w hw).2 k)
   ·exact .inr ((h2 w hw).2 k)
 | .imp x y, h, w, hw => by
  simp only [Fm.plain, Bool.and_eq_true] at h
  have h1 := outr_bxt R A D hD hr ht x h.1
  have h2 := outr_bxt R A D hD hr ht y h.2
  constructor
  ·intro k u hu hx
   have hu' := hD _ _ hw hu
   exact (h2 u hu').1 (k u hu ((h1 u hu').2 hx)) u (hr u hu')
  ·intro k u hu hx
   have hu' := hD _ _ hw hu
   refine (h2 u hu').2 fun v hv => ?_
   have hv' := hD _ _ hu' hv
   exact k v (ht _ _ _ hw hu hv) fun z hz => (h1 u hu').1 hx z (ht _ _ _ hu' hv hz)
 | .box x, h, _, _ => by simp [Fm.plain] at h
 | .dia x, h, _, _ => by simp [Fm.plain] at h
theorem bxt_km (R A : Nat → Nat → Prop) (D : Nat → Prop) (hD : ∀ x y, D x → R x y → D y) (M : KM) (c : Nat → M.W) (hc : ∀ x, D x → ∀ j, M.le (c x) j ↔ ∃ u, R x u ∧ c u = j) (hA : ∀ x, D x → ∀ p, (M.V (c x) p ↔ ∀ u, R x u → A u p)) :
  ∀ (t : Fm), t.plain = true → ∀ w, D w → (mfc R A w (bxt t) ↔ M.forces (c w) t)
 | .var p, _, w, hw => (hA w hw p).symm
 | .fls, _, w, _ => Iff.rfl
 | .and x y, h, w, hw => by
  simp only [Fm.plain, Bool.and_eq_true] at h
  exact and_congr (bxt_km R A D hD M c hc hA x h.1 w hw) (bxt_km R A D hD M c hc hA y h.2 w hw)
 | .or x y, h, w, hw => by
  simp only [Fm.plain, Bool.and_eq_true] at h
  exact or_congr (bxt_km R A D hD M c hc hA x h.1 w hw) (bxt_km R A D hD M c hc hA y h.2 w hw)
 | .imp x y, h, w, hw => by
  simp only [Fm.plain, Bool.and_eq_true] at h
  have h1 := bxt_km R A D hD M c hc hA x h.1
  have h2 := bxt_km R A D hD M c hc hA y h.2
  constructor
  ·intro k j hj hx
   obtain ⟨u, hu, rfl⟩ := (hc w hw j).1 hj
   have hu' := hD _ _ hw hu
   exact (h2 u hu').1 (k u hu ((h1 u hu').2 hx))
  ·intro k u hu hx
   have hu' := hD _ _ hw hu
   exact (h2 u hu').2 (k (c u) ((hc w hw _).2 ⟨u, hu, rfl⟩) ((h1 u hu').1 hx))
 | .box x, h, _, _ => by simp [Fm.plain] at h
 | .dia x, h, _, _ => by simp [Fm.plain] at h
theorem off_lt (n m : Nat) : (2 ^ n - 1) ^^^ ((2 ^ n - 1) &&& m) < 2 ^ n := by
 have h := Nat.two_pow_pos n
 exact Nat.xor_lt_two_pow (by omega) (Nat.lt_of_le_of_lt Nat.and_le_left (by omega))
theorem trB_lt {b vs : List Nat} (hv : Bnd b.length vs) : ∀ t : Fm, trB b vs t < 2 ^ b.length
 | .var p => hv p
 | .fls => Nat.two_pow_pos _
 | .and x _ => Nat.lt_of_le_of_lt Nat.and_le_left (trB_lt hv x)
 | .or x y => Nat.or_lt_two_pow (trB_lt hv x) (trB_lt hv y)
 | .imp _ y => Nat.or_lt_two_pow (off_lt _ _) (trB_lt hv y)
 | .box _ => boxB_lt _ _ _
 | .dia _ => off_lt _ _
theorem bits_eq {n a c : Nat} (ha : a < 2 ^ n) (hc : c < 2 ^ n) (h : ∀ x, x < n → (a.testBit x = true ↔ c.testBit x = true)) : a = c := by
 apply Nat.eq_of_testBit_eq
 intro x
 by_cases hx : x < n
 ·rw [Bool.eq_iff_iff]; exact h x hx
 ·have hp : 2 ^ n ≤ 2 ^ x := Nat.pow_le_pow_right (by omega) (by omega)
  rw [Nat.testBit_lt_two_pow (Nat.lt_of_lt_of_le ha hp), Nat.testBit_lt_two_pow (Nat.lt_of_lt_of_le hc hp)]
theorem tr_outer {b vs : List Nat} (hb : Bnd b.length b) (hr : reflB b = true) (ht : transB b = true) (hv : Bnd b.length vs) (t : Fm) (hp : t.plain = true) : trB b vs (.box (outr t)) = trB b vs (bxt t) := by
 refine bits_eq (boxB_lt _ _ _) (trB_lt hv _) fun x hx => ?_
 rw [trB_bit b vs hb _ x hx, trB_bit b vs hb _ x hx]
 exact (outr_bxt _ _ (fun x => x < b.length) (fun _ _ _ h => bit_lt hb h) (fun x h => refl_of hr h) (fun _ _ _ h h1 h2 => trans_of hb ht h h1 h2) t hp x hx).symm
theorem tr_order {b vs : List Nat} (hp : Pos b) (hv : ∀ p, vs.getD p 0 ∈ upL b) (t : Fm) (hw : t.wf) (hpl : t.plain = true) : trB b vs (bxt t) = frcP b vs t := by
 have hvb : Bnd b.length vs := fun p => ((mem_upL hp.2.2.1).1 (hv p)).1
 refine bits_eq (trB_lt hvb _) (frcP_lt hvb _) fun x hx => ?_
 have hA : ∀ x y p, x < b.length → (b.getD x 0).testBit y = true → (vs.getD p 0).testBit x = true → (vs.getD p 0).testBit y = true :=
  fun x y p hx hxy h => ((mem_upL hp.2.2.1).1 (hv p)).2 x y hx h hxy
 rw [trB_bit b vs hp.2.1 _ x hx, ← frc_km b hp (fun x p => (vs.getD p 0).testBit x = true) hA (varL t) vs hvb (fun _ _ _ _ => Iff.rfl) t (inV_varL hw) x hx]
 let c : Nat → (kmA b hp (fun x p => (vs.getD p 0).testBit x = true) hA).W := fun y => if h : y < b.length then ⟨y, h⟩ else ⟨x, hx⟩
 have hcv : ∀ y (h : y < b.length), c y = ⟨y, h⟩ := fun y h => dif_pos h
 have h := bxt_km (fun x y => (b.getD x 0).testBit y = true) (fun x p => (vs.getD p 0).testBit x = true) (fun x => x < b.length) (fun _ _ _ h => bit_lt hp.2.1 h) (kmA b hp _ hA) c (fun y hy j => by
  rw [hcv y hy]
  constructor
  ·intro h
   exact ⟨j.1, h, hcv j.1 j.2⟩
  ·rintro ⟨u, h1, h2⟩
   rw [hcv u (bit_lt hp.2.1 h1)] at h2
   subst h2
   exact h1) (fun y hy p => by
  rw [hcv y hy]
  constructor
  ·intro h u hu; exact hA y u p hy hu h
  ·intro h; exact h y (refl_of hp.2.2.1 hy)) t hpl x hx
 rw [hcv x hx] at h
 exact h
theorem sk_val {b : List Nat} (h8 : b.length ≤ 8) (hb : Bnd b.length b) (ht : transB b = true) {i m : Nat} (hi : i < b.length) : (mapM (clB b) (boxB b m b.length)).testBit ((clB b).getD i 0) = true ↔ (boxB b m b.length).testBit i = true := by
 rw [mapM_bit]
 constructor
 ·rintro ⟨u, _, h2, h3⟩
  have hu : u < b.length := by
   by_cases h : u < b.length
   ·exact h
   ·rw [boxB_bit, decide_eq_false h] at h2; cases h2
  rw [boxB_bit, decide_eq_true hu, Bool.true_and] at h2
  rw [boxB_bit, decide_eq_true hi, Bool.true_and, ← clB_row hb ht hu hi h3]
  exact h2
 ·intro h; exact ⟨i, by omega, h, rfl⟩
theorem tr_skel {b vs : List Nat} (h8 : b.length ≤ 8) (hb : Bnd b.length b) (hr : reflB b = true) (ht : transB b = true) (h6 : vs.length = 6) (t : Fm) (hw : t.wf) (hpl : t.plain = true) (x : Nat) (hx : x < b.length) :
  (trB b vs (bxt t)).testBit x = (frcP (qL b b.length) (vs.map fun m => mapM (clB b) (boxB b m b.length)) t).testBit ((clB b).getD x 0) := by
 have hq := qL_Pos h8 hb hr ht
 have hlt : ∀ u, u < b.length → (clB b).getD u 0 < (qL b b.length).length := fun u hu => by rw [qL_len]; exact clB_lt b u hu
 have hA : ∀ x y p, x < (qL b b.length).length → ((qL b b.length).getD x 0).testBit y = true → (mapM (clB b) (boxB b (vs.getD p 0) b.length)).testBit x = true → (mapM (clB b) (boxB b (vs.getD p 0) b.length)).testBit y = true := by
  intro x y p hx hxy hv
  obtain ⟨i, hi, rfl⟩ := clB_onto b hx
  obtain ⟨u, hu, h1, rfl⟩ := (sk_sees h8 hb ht hi).1 hxy
  rw [sk_val h8 hb ht hi, boxB_bit, decide_eq_true hi, Bool.true_and, inB_iff] at hv
  rw [sk_val h8 hb ht hu, boxB_bit, decide_eq_true hu, Bool.true_and, inB_iff]
  exact fun k hk => hv k (trans_of hb ht hi h1 hk)
 have hvl : ∀ p, p < 6 → (vs.map fun m => mapM (clB b) (boxB b m b.length)).getD p 0 = mapM (clB b) (boxB b (vs.getD p 0) b.length) := fun p hp => by
  simp [List.getD_eq_getElem?_getD, h6, hp]
 have hvb : Bnd (qL b b.length).length (vs.map fun m => mapM (clB b) (boxB b m b.length)) := mem_bnd fun y hy => by
  obtain ⟨m, _, rfl⟩ := List.mem_map.1 hy
  exact foldM_lt _ fun z hz => hlt z (memB_lt (boxB_lt b m b.length) hz)
 rw [Bool.eq_iff_iff, trB_bit b vs hb _ x hx, ← frc_km (qL b b.length) hq (fun x p => (mapM (clB b) (boxB b (vs.getD p 0) b.length)).testBit x = true) hA (varL t) _ hvb (fun p hp _ _ => by rw [hvl p (varL_lt hp)]) t (inV_varL hw) _ (hlt x hx)]
 let c : Nat → (kmA (qL b b.length) hq (fun x p => (mapM (clB b) (boxB b (vs.getD p 0) b.length)).testBit x = true) hA).W := fun y => if h : y < b.length then ⟨(clB b).getD y 0, hlt y h⟩ else ⟨(clB b).getD x 0, hlt x hx⟩
 have hcv : ∀ y (h : y < b.length), c y = ⟨(clB b).getD y 0, hlt y h⟩ := fun y h => dif_pos h
 have h := bxt_km (fun x y => (b.getD x 0).testBit y = true) (fun x p => (vs.getD p 0).testBit x = true) (fun x => x < b.length) (fun _ _ _ h => bit_lt hb h) (kmA (qL b b.length) hq _ hA) c (fun y hy j => by
  rw [hcv y hy]
  constructor
  ·intro h
   obtain ⟨u, hu, h1, h2⟩ := (sk_sees h8 hb ht hy).1 h
   exact ⟨u, h1, by rw [hcv u hu]; exact Subtype.ext h2⟩
  ·rintro ⟨u, h1, h2⟩
   have hu := bit_lt hb h1
   rw [hcv u hu] at h2
   subst h2
   exact (sk_sees h8 hb ht hy).2 ⟨u, hu, h1, rfl⟩) (fun y hy p => by
  rw [hcv y hy]
  show (mapM (clB b) (boxB b (vs.getD p 0) b.length)).testBit ((clB b).getD y 0) = true ↔ _
  rw [sk_val h8 hb ht hy, boxB_bit, decide_eq_true hy, Bool.true_and, inB_iff]) t hpl x hx
 rw [hcv x hx] at h
 exact h
theorem sk_up {b : List Nat} (h8 : b.length ≤ 8) (hb : Bnd b.length b) (hr : reflB b = true) (ht : transB b = true) (m : Nat) : mapM (clB b) (boxB b m b.length) ∈ upL (qL b b.length) := by
 have hlt : ∀ u, u < b.length → (clB b).getD u 0 < (qL b b.length).length := fun u hu => by rw [qL_len]; exact clB_lt b u hu
 rw [mem_upL (qL_Pos h8 hb hr ht).2.2.1]
 refine ⟨foldM_lt _ fun z hz => hlt z (memB_lt (boxB_lt b m b.length) hz), fun x y hx hv hxy => ?_⟩
 obtain ⟨i, hi, rfl⟩ := clB_onto b hx
 obtain ⟨u, hu, h1, rfl⟩ := (sk_sees h8 hb ht hi).1 hxy
 rw [sk_val h8 hb ht hi, boxB_bit, decide_eq_true hi, Bool.true_and, inB_iff] at hv
 rw [sk_val h8 hb ht hu, boxB_bit, decide_eq_true hu, Bool.true_and, inB_iff]
 exact fun k hk => hv k (trans_of hb ht hi h1 hk)
end Go.Proofs.YtfmmajgkjkmghaaGreat
namespace Go.Proofs.YtfmmajgkjkmghaaGreat
open Go.RowKit
def isFra (n : Int) (a : List Int) : Bool := inR n 0 8 && (decide ((a.length : Int) = n) && a.all (isM a.length))
def isMod (n : Int) (a vs : List Int) : Bool := isFra n a && (decide (vs.length = 6) && vs.all (isM a.length))
theorem isFra_iff (n : Int) (a : List Int) : isFra n a = true ↔ ∃ b : List Nat, a = zs b ∧ n = b.length ∧ b.length ≤ 8 ∧ Bnd b.length b := by
 unfold isFra
 rw [Bool.and_eq_true, Bool.and_eq_true, decide_eq_true_eq]
 constructor
 ·rintro ⟨h1, h2, h3⟩
  obtain ⟨b, rfl, hb⟩ := all_isM h3
  rw [zs_length] at *
  simp [inR] at h1
  exact ⟨b, rfl, h2.symm, by omega, mem_bnd hb⟩
 ·rintro ⟨b, rfl, rfl, h8, hb⟩
  rw [zs_length]
  exact ⟨by simp [inR]; omega, rfl, isM_all (bnd_mem hb)⟩
set_option maxRecDepth 20000 in
set_option maxHeartbeats 1000000 in
theorem isFrame_any (n : Int) (a : List Int) (v : Value) (w : World) (hv : Ints w v a) : Calls Tryz.prog 112 #[.agg #[.int .i64 n, v]] w fun e w' => e = .returned (.bool (isFra n a)) ∧ Keeps w w' := by
 have kA := (Keeps.refl w).alloc (.cells #[.int .i64 n, v] 35)
 have hc := BoxF.made w n v 35
 have HN := hid (fun w2 => inRange_any n 0 8 w2)
 have HS := hid (fun w2 (k : Keeps w w2) => sizeI_any a v w2 (hv.keeps k))
 have HR := hid (fun w2 (k : Keeps w w2) => isRelation_any a v w2 (hv.keeps k))
 have HP : Hid (isFra n a = (inR n 0 8 && (decide ((a.length : Int) = n) && a.all (isM a.length)))) := hid rfl
 obtain ⟨c0, c1⟩ := hc
 obtain ⟨p, cap, rfl, _⟩ := hv
 cases h1 : inR n 0 8
 ·rw [h1] at HN HP
  simp only [Bool.false_and] at HP
  clear h1
  go_enter Tryz.func112, Tryz.ntmps112
  go_wp2_with fail
  go_quiet (first | (go_at_call 167; refine quietS (HN.out _)))
  go_wp2_with fail
  go_ret
  exact ⟨by rw [HP.out]; rfl, kA.drewN _⟩
 ·rw [h1] at HN HP
  have h8 : n ≤ 8 := by simp [inR] at h1; omega
  clear h1
  by_cases h2 : (a.length : Int) = n
  ·have hd : ((a.length : Int) == n) = true := by simp [h2]
   rw [decide_eq_true h2] at HP
   have hl8 : a.length ≤ 8 := by omega
   replace HR := hid (fun w2 k => HR.out w2 k hl8)
   subst h2
   have kd0 := (Keeps.refl (w.alloc (.cells #[.int .i64 a.length, .slice p a.length cap] 35))).drew
   have kD := kA.drew
   have e0 := kd0.cell c0
   have e1 := kd0.cell c1
   simp only [Bool.true_and] at HP
   generalize a.all (isM a.length) = r at *
   go_enter Tryz.func112, Tryz.ntmps112
   go_wp2_with fail
   go_region_held3 (fun w' => w'.cell? ⟨w.heap.size, 0, none⟩ = some (.int .i64 a.length) ∧ w'.cell? ⟨w.heap.size, 1, none⟩ = some (.slice p a.length cap)) (first | exact ⟨e0, e1⟩ | exact ⟨z0, z1⟩) (first | (go_at_call 167; refine (HN.out _).mono ?_; rintro e w' ⟨rfl, rfl⟩) | (go_at_call 99; refine (HS.out _ kD).mono ?_; rintro e w' ⟨rfl, rfl⟩) | (go_at_call 168; refine (HR.out _ kD).mono ?_; rintro e w2 ⟨rfl, k2⟩; have z0 := k2.cell e0; have z1 := k2.cell e1))
   go_wp2_with fail
   go_ret
   exact ⟨by rw [HP.out]; cases r <;> rfl, kD.trans k2⟩
  ·have hd : ((a.length : Int) == n) = false := by simp [h2]
   rw [decide_eq_false h2] at HP
   simp only [Bool.and_false, Bool.false_and] at HP
   clear h2
   go_enter Tryz.func112, Tryz.ntmps112
   go_wp2_with fail
   go_quiet (first | (go_at_call 167; refine quietS (HN.out _)) | (go_at_call 99; refine quietS (HS.out _ (kA.drewN _))))
   go_wp2_with fail
   go_ret
   exact ⟨by rw [HP.out]; rfl, kA.drewN _⟩
set_option maxRecDepth 20000 in
set_option maxHeartbeats 1000000 in
theorem l05Is_any (n : Int) (a : List Int) (v : Value) (w : World) (hv : Ints w v a) : Calls Tryz.prog 49 #[.agg #[.int .i64 n, v]] w fun e w' => e = .returned (.bool (isFra n a)) ∧ Keeps w w' := by
 have kA := (Keeps.refl w).alloc (.cells #[.int .i64 n, v] 35)
 have hc := BoxF.made w n v 35
 have HN := hid (fun w2 => l01In_any n 0 8 w2)
 have HR := hid (fun w2 m (hm : m ≤ 8) (k : Keeps w w2) => l01Masks_any m a v w2 hm (hv.keeps k))
 have HP : Hid (isFra n a = (inR n 0 8 && (decide ((a.length : Int) = n) && a.all (isM a.length)))) := hid rfl
 obtain ⟨c0, c1⟩ := hc
 obtain ⟨p, cap, rfl, _, hmx, _⟩ := hv
 unfold maxLen at hmx
 cases h1 : inR n 0 8
 ·rw [h1] at HN HP
  simp only [Bool.false_and] at HP
  clear h1
  go_enter Tryz.func49, Tryz.ntmps49
  go_wp2_with fail
  refine (HN.out _).mono ?_; rintro e w2 ⟨rfl, rfl⟩
  go_wp2_with fail
  go_ret
  exact ⟨by rw [HP.out]; rfl, kA⟩
 ·rw [h1] at HN HP
  have h8 : n ≤ 8 := by simp [inR] at h1; omega
  clear h1
  by_cases h2 : (a.length : Int) = n
  ·have hd : ((a.length : Int) == n) = true := by simp [h2]
   rw [decide_eq_true h2] at HP
   have hl8 : a.length ≤ 8 := by omega
   replace HR := hid (fun w2 k => HR.out w2 a.length hl8 k)
   subst h2
   simp only [Bool.true_and] at HP
   generalize a.all (isM a.length) = r at *
   go_enter Tryz.func49, Tryz.ntmps49
   go_wp2_with fail
   refine (HN.out _).mono ?_; rintro e w2 ⟨rfl, rfl⟩
   go_wp2_with fail
   refine (HR.out _ kA).mono ?_; rintro e w3 ⟨rfl, k3⟩
   go_wp2_with fail
   go_ret
   exact ⟨by rw [HP.out]; cases r <;> rfl, kA.trans k3⟩
  ·have hd : ((a.length : Int) == n) = false := by simp [h2]
   rw [decide_eq_false h2] at HP
   simp only [Bool.and_false, Bool.false_and] at HP
   clear h2
   go_enter Tryz.func49, Tryz.ntmps49
   go_wp2_with fail
   refine (HN.out _).mono ?_; rintro e w2 ⟨rfl, rfl⟩
   go_wp2_with fail
   go_ret
   exact ⟨by rw [HP.out]; rfl, kA⟩
def BoxM (w : World) (B : Nat) (n : Int) (v u : Value) : Prop := w.cell? ⟨B, 0, none⟩ = some (.int .i64 n) ∧ w.cell? ⟨B, 1, none⟩ = some v ∧ w.cell? ⟨B, 2, none⟩ = some u
theorem BoxM.keeps {w w' : World} {B : Nat} {n : Int} {v u : Value} (h : BoxM w B n v u) (k : Keeps w w') : BoxM w' B n v u := ⟨k.cell h.1, k.cell h.2.1, k.cell h.2.2⟩
theorem BoxM.made (w : World) (n : Int) (v u : Value) (t : TypeId) : BoxM (w.alloc (.cells #[.int .i64 n, v, u] t)) w.heap.size n v u := by
 refine ⟨?_, ?_, ?_⟩ <;> simp
set_option maxRecDepth 20000 in
theorem isModel_1_any (m : Nat) (x : Int) (v u : Value) (B : Nat) (w : World) (hc : BoxM w B m v u) (hm : m ≤ 8) :
  Calls Tryz.prog 113 #[.int .i64 x, .pointer (some ⟨B, 0, none⟩)] w fun e w' => e = .returned (.bool (!isM m x)) ∧ Keeps w w' := by
 have HM := hid (isMask_any m x w hm)
 obtain ⟨c0, c1, c2⟩ := hc
 generalize isM m x = r at *
 go_enter Tryz.func113, Tryz.ntmps113
 go_wp2_with fail
 refine HM.out.mono ?_; rintro e w2 ⟨rfl, rfl⟩
 go_wp2_with fail
 go_ret
 exact ⟨rfl, Keeps.refl _⟩
theorem enters_isModel_1 : Enters 113 := fun _ _ => by kernel_rfl
set_option maxRecDepth 20000 in
set_option maxHeartbeats 1000000 in
theorem isModel_any (n : Int) (a vs : List Int) (v u : Value) (w : World) (hv : Ints w v a) (hu : Ints w u vs) :
  Calls Tryz.prog 54 #[.agg #[.int .i64 n, v, u]] w fun e w' => e = .returned (.bool (isMod n a vs)) ∧ Keeps w w' := by
 have kA := (Keeps.refl w).alloc (.cells #[.int .i64 n, v, u] 37)
 have hbx := BoxM.made w n v u 37
 have HP := hid (isFrame_any n a v _ (hv.keeps kA))
 have HV : Hid (isMod n a vs = (isFra n a && (decide (vs.length = 6) && vs.all (isM a.length)))) := hid rfl
 cases h1 : isFra n a
 ·rw [h1] at HP HV
  simp only [Bool.false_and] at HV
  clear h1
  obtain ⟨c0, c1, c2⟩ := hbx
  obtain ⟨p, cap, rfl, _⟩ := hv
  obtain ⟨q, cap2, rfl, _⟩ := hu
  go_enter Tryz.func54, Tryz.ntmps54
  go_wp2_with fail
  refine HP.out.mono ?_; rintro e w2 ⟨rfl, k2⟩
  go_wp2_with fail
  go_ret
  exact ⟨by rw [HV.out]; rfl, kA.trans k2⟩
 ·rw [h1] at HP HV
  obtain ⟨b, rfl, rfl, h8, hbm⟩ := (isFra_iff n a).1 h1
  rw [zs_length] at HV
  clear h1
  by_cases h6 : vs.length = 6
  ·rw [decide_eq_true h6] at HV
   have HC := hid (fun w1 (k : Keeps (w.alloc (.cells #[.int .i64 b.length, v, u] 37)) w1) => containsFuncI (fun x => !isM b.length x) 113 #[.pointer (some ⟨w.heap.size, 0, none⟩)] vs u w1 (hu.keeps (kA.trans k)) enters_isModel_1 (fun x w2 _ k2 => isModel_1_any b.length x v u w.heap.size w2 (hbx.keeps (k.trans k2)) h8))
   have he : (!(vs.any fun x => !isM b.length x)) = vs.all (isM b.length) := by rw [List.all_eq_not_any_not]
   have HE := hid he; clear he
   obtain ⟨c0, c1, c2⟩ := hbx
   obtain ⟨p, cap, rfl, _⟩ := hv
   obtain ⟨q, cap2, rfl, _⟩ := hu
   rw [h6] at *
   rw [zs_length] at *
   generalize (vs.any fun x => !isM b.length x) = r at *
   clear hbm h6
   go_enter Tryz.func54, Tryz.ntmps54
   go_wp2_with fail
   refine HP.out.mono ?_; rintro e w2 ⟨rfl, k2⟩
   have z2 := k2.cell c2
   go_wp2_with fail
   refine (HC.out _ k2).mono ?_; rintro e w3 ⟨rfl, k3⟩
   go_wp2_with fail
   go_ret
   exact ⟨by rw [HV.out, ← HE.out]; cases r <;> rfl, kA.trans (k2.trans k3)⟩
  ·rw [decide_eq_false h6] at HV
   simp only [Bool.false_and, Bool.and_false] at HV
   have hd : ((vs.length : Int) == 6) = false := by rw [beq_eq_false_iff_ne]; omega
   obtain ⟨c0, c1, c2⟩ := hbx
   obtain ⟨p, cap, rfl, _⟩ := hv
   obtain ⟨q, cap2, rfl, _, hmx, _⟩ := hu
   unfold maxLen at hmx
   clear h6
   go_enter Tryz.func54, Tryz.ntmps54
   go_wp2_with fail
   refine HP.out.mono ?_; rintro e w2 ⟨rfl, k2⟩
   have z2 := k2.cell c2
   go_wp2_with fail
   go_ret
   exact ⟨by rw [HV.out]; rfl, kA.trans k2⟩
end Go.Proofs.YtfmmajgkjkmghaaGreat
