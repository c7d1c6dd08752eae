import Derived.Test.YtfmmajgkjkmghaaGreatEJB
import Derived.Test.YtfmmajgkjkmghaaGreatEPD
import Derived.Test.YtfmmajgkjkmghaaGreatETU
import Derived.Test.YtfmmajgkjkmghaaGreatEQU
import Derived.Test.YtfmmajgkjkmghaaGreatEPP
import Derived.Lib.LaidTab
import Derived.Test.YtfmmajgkjkmghaaGreatEW7
import Derived.Test.YtfmmajgkjkmghaaGreatEM2
import Derived.Deep.RegionHeld3
/- Plain: validity on an order, by Kripke models over its elements. -/
namespace Go.Proofs.YtfmmajgkjkmghaaGreat
def kmA (b : List Nat) (hp : Pos b) (A : Nat → Nat → Prop) (hA : ∀ x y p, x < b.length → (b.getD x 0).testBit y = true → A x p → A y p) : KM where
 W := { x : Nat // x < b.length }
 le x y := (b.getD x.1 0).testBit y.1 = true
 refl x := refl_of hp.2.2.1 x.2
 trans a _ _ h1 h2 := trans_of hp.2.1 hp.2.2.2.1 a.2 h1 h2
 V x p := A x.1 p
 mono a c p h1 h2 := hA a.1 c.1 p a.2 h1 h2
theorem boxB_bit (b : List Nat) (m : Nat) : ∀ i x, (boxB b m i).testBit x = (decide (x < i) && inB (b.getD x 0) m)
 | 0, x => by simp [boxB]
 | i + 1, x => by
  have ih := boxB_bit b m i x
  unfold boxB
  by_cases e : x = i
  ·subst e
   split
   ·next h => rw [Nat.testBit_or, ih, Nat.testBit_two_pow, h, decide_eq_true rfl, decide_eq_true (by omega : x < x + 1), Bool.or_true]; rfl
   ·next h => rw [ih, Bool.eq_false_iff.2 h, Bool.and_false, Bool.and_false]
  ·have h1 : decide (x < i + 1) = decide (x < i) := by
    by_cases h : x < i
    ·rw [decide_eq_true h, decide_eq_true (by omega)]
    ·rw [decide_eq_false h, decide_eq_false (by omega)]
   rw [h1, ← ih]
   split
   ·rw [Nat.testBit_or, Nat.testBit_two_pow, decide_eq_false (Ne.symm e), Bool.or_false]
   ·rfl
theorem full_bit (n x : Nat) : (2 ^ n - 1).testBit x = decide (x < n) := Nat.testBit_two_pow_sub_one n x
theorem frc_km (b : List Nat) (hp : Pos b) (A : Nat → Nat → Prop) (hA) (V vs : List Nat) (hvs : Bnd b.length vs) (hv : ∀ p ∈ V, ∀ x, x < b.length → ((vs.getD p 0).testBit x = true ↔ A x p)) :
  ∀ (t : Fm), inV V t → ∀ (x : Nat) (hx : x < b.length), ((kmA b hp A hA).forces ⟨x, hx⟩ t ↔ (frcP b vs t).testBit x = true)
 | .var p, ht, x, hx => (hv p ht x hx).symm
 | .fls, _, x, hx => by simp [KM.forces, frcP]
 | .and s t, ht, x, hx => by
  have h1 := frc_km b hp A hA V vs hvs hv s ht.1 x hx
  have h2 := frc_km b hp A hA V vs hvs hv t ht.2 x hx
  rw [frcP, Nat.testBit_and, Bool.and_eq_true, ← h1, ← h2]; rfl
 | .or s t, ht, x, hx => by
  have h1 := frc_km b hp A hA V vs hvs hv s ht.1 x hx
  have h2 := frc_km b hp A hA V vs hvs hv t ht.2 x hx
  rw [frcP, Nat.testBit_or, Bool.or_eq_true, ← h1, ← h2]; rfl
 | .imp s t, ht, x, hx => by
  rw [frcP, impB, boxB_bit, decide_eq_true hx, Bool.true_and, inB_iff]
  constructor
  ·intro h y hy
   have hyl := bit_lt hp.2.1 hy
   have h1 := frc_km b hp A hA V vs hvs hv s ht.1 y hyl
   have h2 := frc_km b hp A hA V vs hvs hv t ht.2 y hyl
   rw [Nat.testBit_or, Nat.testBit_xor, Nat.testBit_and, full_bit, decide_eq_true hyl, Bool.true_and]
   cases hs : (frcP b vs s).testBit y
   ·rfl
   ·have := h2.1 (h ⟨y, hyl⟩ hy (h1.2 hs))
    rw [this]; rfl
  ·rintro h ⟨y, hyl⟩ hy hs
   have h1 := frc_km b hp A hA V vs hvs hv s ht.1 y hyl
   have h2 := frc_km b hp A hA V vs hvs hv t ht.2 y hyl
   have h3 := h y hy
   rw [Nat.testBit_or, Nat.testBit_xor, Nat.testBit_and, full_bit, decide_eq_true hyl, Bool.true_and, h1.1 hs] at h3
   exact h2.2 (by simpa using h3)
 | .box s, _, x, hx => by simp [KM.forces, frcP]
 | .dia s, _, x, hx => by simp [KM.forces, frcP]
theorem vm_fold_bit : ∀ (a : List Nd) (m i : Nat), (a.foldl (fun m n => if n.k = 0 then m ||| 2 ^ n.s.toNat else m) m).testBit i = true ↔ m.testBit i = true ∨ ∃ n ∈ a, n.k = 0 ∧ n.s.toNat = i
 | [], m, i => by simp
 | n :: a, m, i => by
  rw [List.foldl_cons, vm_fold_bit a _ i]
  by_cases h : n.k = 0
  ·rw [if_pos h, Nat.testBit_or, Bool.or_eq_true, Nat.testBit_two_pow, decide_eq_true_eq]
   constructor
   ·rintro ((h1 | h1) | ⟨n', h1, h2⟩)
    ·exact .inl h1
    ·exact .inr ⟨n, by simp, h, h1⟩
    ·exact .inr ⟨n', by simp [h1], h2⟩
   ·rintro (h1 | ⟨n', h1, h2, h3⟩)
    ·exact .inl (.inl h1)
    ·rcases List.mem_cons.1 h1 with rfl | h1
     ·exact .inl (.inr h3)
     ·exact .inr ⟨n', h1, h2, h3⟩
  ·rw [if_neg h]
   constructor
   ·rintro (h1 | ⟨n', h1, h2⟩)
    ·exact .inl h1
    ·exact .inr ⟨n', by simp [h1], h2⟩
   ·rintro (h1 | ⟨n', h1, h2, h3⟩)
    ·exact .inl h1
    ·rcases List.mem_cons.1 h1 with rfl | h1
     ·exact absurd h2 h
     ·exact .inr ⟨n', h1, h2, h3⟩
theorem vm_bit (a : List Nd) (i : Nat) : (vm a).testBit i = true ↔ ∃ n ∈ a, n.k = 0 ∧ n.s.toNat = i := by
 unfold vm
 rw [vm_fold_bit]
 simp
theorem inV_of (V : List Nat) : ∀ t : Fm, (∀ n ∈ t.enc, n.k = 0 → n.s.toNat ∈ V) → inV V t
 | .var p, h => by
  have h1 := h ⟨0, p⟩ (by simp [Fm.enc]) rfl
  exact h1
 | .fls, _ => trivial
 | .and a b, h => ⟨inV_of V a fun n hn => h n (by simp [Fm.enc, hn]), inV_of V b fun n hn => h n (by simp [Fm.enc, hn])⟩
 | .or a b, h => ⟨inV_of V a fun n hn => h n (by simp [Fm.enc, hn]), inV_of V b fun n hn => h n (by simp [Fm.enc, hn])⟩
 | .imp a b, h => ⟨inV_of V a fun n hn => h n (by simp [Fm.enc, hn]), inV_of V b fun n hn => h n (by simp [Fm.enc, hn])⟩
 | .box _, _ => trivial
 | .dia _, _ => trivial
theorem inV_varL {t : Fm} (hw : t.wf) : inV (varL t) t := by
 refine inV_of _ t fun n hn hk => ?_
 have ho := okNd_enc hw n hn
 unfold okNd at ho
 rw [if_pos hk, decide_eq_true_eq] at ho
 unfold varL lowB
 rw [List.mem_filter]
 exact ⟨by rw [List.mem_range]; omega, (vm_bit _ _).2 ⟨n, hn, hk, rfl⟩⟩
theorem vldL_iff {P : List Nat → Bool} {U : List Nat} : ∀ {V vs0 : List Nat}, (∀ v ∈ V, v < vs0.length) → (vldL P U V vs0 = true ↔ ∀ vs, Off6 V vs vs0 → (∀ j ∈ V, vs.getD j 0 ∈ U) → P vs = true)
 | [], vs0, _ => by
  constructor
  ·intro h vs ho _
   rw [ho.nil]; exact h
  ·intro h
   exact h vs0 (Off6.refl _ _) (fun j hj => by cases hj)
 | v :: V, vs0, hl => by
  have hv : v < vs0.length := hl v (by simp)
  unfold vldL
  rw [List.all_eq_true]
  constructor
  ·intro h vs ho hU
   have h1 := h _ (hU v (by simp))
   rw [vldL_iff (fun j hj => by rw [List.length_set]; exact hl j (by simp [hj]))] at h1
   refine h1 vs ⟨by rw [List.length_set]; exact ho.1, fun j hj => ?_⟩ (fun j hj => hU j (by simp [hj]))
   by_cases e : v = j
   ·subst e
    simp [List.getD_eq_getElem?_getD, hv]
   ·rw [ho.2 j (by simp; exact ⟨Ne.symm e, hj⟩)]
    simp only [List.getD_eq_getElem?_getD, List.getElem?_set_ne e]
  ·intro h u hu
   rw [vldL_iff (fun j hj => by rw [List.length_set]; exact hl j (by simp [hj]))]
   intro vs ho hU
   refine h vs ((ho.mono (fun x hx => by simp [hx])).trans (off_set V vs0 v u).symm) (fun j hj => ?_)
   rcases List.mem_cons.1 hj with rfl | hj
   ·by_cases hm : j ∈ V
    ·exact hU j hm
    ·rw [ho.2 j hm]
     have : (vs0.set j u).getD j 0 = u := by simp [List.getD_eq_getElem?_getD, hv]
     rw [this]; exact hu
   ·exact hU j hj
theorem vldR_iff (b : List Nat) (t : Fm) : vldR b t = true ↔ ∀ vs, Off6 (varL t) vs (List.replicate 6 0) → (∀ j ∈ varL t, vs.getD j 0 ∈ upL b) → frcP b vs t = 2 ^ b.length - 1 := by
 have h1 := vld_eq (P := fun vs => frcP b vs t == 2 ^ b.length - 1) (U := upL b) (V := varL t) (upL_pos b) (varL_nodup t)
 have h2 : vldR b t = true ↔ ∀ N, N < (upL b).length ^ (varL t).length → (frcP b (numL (upL b) (varL t) N) t == 2 ^ b.length - 1) = true := by
  unfold vldR okV
  rw [List.all_eq_true]
  exact ⟨fun h N hN => h N (by simpa using hN), fun h N hN => h N (by simpa using hN)⟩
 rw [h2, ← h1, vldL_iff (fun v hv => by simpa using varL_lt hv)]
 simp only [beq_iff_eq]
theorem isUp_iff {b : List Nat} {m : Nat} (hr : reflB b = true) (hm : m < 2 ^ b.length) : isUp b m = true ↔ ∀ x y, x < b.length → m.testBit x = true → (b.getD x 0).testBit y = true → m.testBit y = true := by
 unfold isUp
 rw [beq_iff_eq]
 constructor
 ·intro h x y hx hmx hy
  rw [← h]
  exact (imgL_bit b m b.length y).2 ⟨x, hx, hmx, hy⟩
 ·intro h
  apply Nat.eq_of_testBit_eq
  intro y
  rw [Bool.eq_iff_iff]
  constructor
  ·intro hy
   obtain ⟨x, hx, hmx, hxy⟩ := (imgL_bit b m b.length y).1 hy
   exact h x y hx hmx hxy
  ·intro hy
   have hyl : y < b.length := by
    by_cases hl : y < b.length
    ·exact hl
    ·rw [Nat.testBit_lt_two_pow (Nat.lt_of_lt_of_le hm (Nat.pow_le_pow_right (by omega) (by omega)))] at hy; cases hy
   exact (imgL_bit b m b.length y).2 ⟨y, hyl, hy, refl_of hr hyl⟩
theorem mem_upL {b : List Nat} (hr : reflB b = true) {m : Nat} : m ∈ upL b ↔ m < 2 ^ b.length ∧ ∀ x y, x < b.length → m.testBit x = true → (b.getD x 0).testBit y = true → m.testBit y = true := by
 unfold upL upK
 rw [List.mem_filter, List.mem_range]
 constructor
 ·rintro ⟨h1, h2⟩; exact ⟨h1, (isUp_iff hr h1).1 h2⟩
 ·rintro ⟨h1, h2⟩; exact ⟨h1, (isUp_iff hr h1).2 h2⟩
theorem zeros_get (n j : Nat) : (List.replicate n 0).getD j 0 = 0 := by rw [List.getD_eq_getElem?_getD, List.getElem?_replicate]; split <;> rfl
theorem vld_km (b : List Nat) (hp : Pos b) (t : Fm) (hw : t.wf) : vldR b t = true ↔ ∀ A hA x hx, (kmA b hp A hA).forces ⟨x, hx⟩ t := by
 rw [vldR_iff]
 constructor
 ·intro h A hA x hx
  have hm : ∀ p, ∃ m, m < 2 ^ b.length ∧ ∀ k, k < b.length → (m.testBit k = true ↔ A k p) := fun p => bits_of (fun x => A x p) b.length
  let M : Nat → Nat := fun p => Classical.choose (hm p)
  have hM : ∀ p, M p < 2 ^ b.length ∧ ∀ k, k < b.length → ((M p).testBit k = true ↔ A k p) := fun p => Classical.choose_spec (hm p)
  let vs : List Nat := (List.range 6).map fun p => if p ∈ varL t then M p else 0
  have hg : ∀ p, p ∈ varL t → vs.getD p 0 = M p := fun p hp => by
   have h6 := varL_lt hp
   simp [vs, List.getD_eq_getElem?_getD, h6, hp]
  have hg0 : ∀ p, p ∉ varL t → vs.getD p 0 = 0 := fun p hp => by
   by_cases h6 : p < 6
   ·simp [vs, List.getD_eq_getElem?_getD, h6, hp]
   ·simp [vs, List.getD_eq_getElem?_getD, h6]
  have hf := h vs ⟨by simp [vs], fun j hj => by rw [hg0 j hj, zeros_get]⟩ (fun j hj => by
   rw [hg j hj, mem_upL hp.2.2.1]
   refine ⟨(hM j).1, fun x y hx hmx hxy => ?_⟩
   have hy := bit_lt hp.2.1 hxy
   exact ((hM j).2 y hy).2 (hA x y j hx hxy (((hM j).2 x hx).1 hmx)))
  rw [frc_km b hp A hA (varL t) vs (fun i => by
   by_cases hi : i ∈ varL t
   ·rw [hg i hi]; exact (hM i).1
   ·rw [hg0 i hi]; exact Nat.two_pow_pos _) (fun p hpv x hx => by rw [hg p hpv]; exact (hM p).2 x hx) t (inV_varL hw) x hx, hf, full_bit, decide_eq_true hx]
 ·intro h vs ho hU
  have hb : Bnd b.length vs := fun i => by
   by_cases hi : i ∈ varL t
   ·exact ((mem_upL hp.2.2.1).1 (hU i hi)).1
   ·rw [ho.2 i hi, zeros_get]; exact Nat.two_pow_pos _
  have hA : ∀ x y p, x < b.length → (b.getD x 0).testBit y = true → (vs.getD p 0).testBit x = true → (vs.getD p 0).testBit y = true := by
   intro x y p hx hxy hv
   by_cases hi : p ∈ varL t
   ·exact ((mem_upL hp.2.2.1).1 (hU p hi)).2 x y hx hv hxy
   ·rw [ho.2 p hi, zeros_get] at hv; simp at hv
  apply Nat.eq_of_testBit_eq
  intro x
  rw [full_bit]
  by_cases hx : x < b.length
  ·rw [decide_eq_true hx]
   exact (frc_km b hp (fun x p => (vs.getD p 0).testBit x = true) hA (varL t) vs hb (fun p _ x _ => Iff.rfl) t (inV_varL hw) x hx).1 (h _ hA x hx)
  ·rw [decide_eq_false hx]
   exact Nat.testBit_lt_two_pow (Nat.lt_of_lt_of_le (frcP_lt hb t) (Nat.pow_le_pow_right (by omega) (by omega)))
end Go.Proofs.YtfmmajgkjkmghaaGreat
namespace Go.Proofs.YtfmmajgkjkmghaaGreat
open Go.RowKit
theorem plainL_enc (t : Fm) : plainL t.enc = t.plain := by
 unfold plainL
 induction t with
 | var v => simp [Fm.enc, Fm.plain]
 | fls => simp [Fm.enc, Fm.plain]
 | and a b iha ihb => simp only [Fm.enc, Fm.plain, List.all_cons, List.all_append, iha, ihb]; simp
 | or a b iha ihb => simp only [Fm.enc, Fm.plain, List.all_cons, List.all_append, iha, ihb]; simp
 | imp a b iha ihb => simp only [Fm.enc, Fm.plain, List.all_cons, List.all_append, iha, ihb]; simp
 | box a iha => simp [Fm.enc, Fm.plain]
 | dia a iha => simp [Fm.enc, Fm.plain]
theorem plainErrs_one (a : List Nd) : plainErrs [a] = plainErr a := by
 unfold plainErrs plainErr allFm allPlainL
 cases h1 : isFm a <;> cases h2 : plainL a <;> simp [h1, h2]
def TrIs (F : Fm → Fm) (a r : List Nd) (c : Int) : Prop := (∃ t : Fm, t.wf ∧ a = t.enc ∧ t.plain = true ∧ a.length ≤ 40 ∧ plainErr a = 0 ∧ r = (madeL (F t).enc).1 ∧ c = (madeL (F t).enc).2) ∨ (plainErr a ≠ 0 ∧ r = [] ∧ c = plainErr a)
def OneIs (Q : Fm → Bool → Int → Prop) (a : List Nd) (b : Bool) (c : Int) : Prop := (∃ t : Fm, t.wf ∧ a = t.enc ∧ t.plain = true ∧ a.length ≤ 40 ∧ plainErr a = 0 ∧ Q t b c) ∨ (plainErr a ≠ 0 ∧ b = false ∧ c = plainErr a)
theorem plain_tree {a : List Nd} (h : plainErr a = 0) : ∃ t : Fm, t.wf ∧ a = t.enc ∧ t.plain = true ∧ a.length ≤ 40 := by
 unfold plainErr at h
 by_cases hf : isFm a = true
 ·by_cases hp : plainL a = true
  ·have hf' := hf
   simp only [isFm, Bool.and_eq_true, decide_eq_true_eq] at hf'
   obtain ⟨t, hw, rfl⟩ := isTree_enc hf'.2
   exact ⟨t, hw, rfl, by rw [← plainL_enc]; exact hp, hf'.1⟩
  ·rw [if_pos hf, if_neg hp] at h; simp at h
 ·rw [if_neg hf] at h; simp at h
theorem plainErr_ne {a : List Nd} (h : plainErr a ≠ 0) : plainErr a = 1 ∨ plainErr a = 5 := by
 unfold plainErr at *
 split
 ·split
  ·rename_i h1 h2; simp [h1, h2] at h
  ·right; rfl
 ·left; rfl
end Go.Proofs.YtfmmajgkjkmghaaGreat
namespace Go.Proofs.YtfmmajgkjkmghaaGreat
open Go.RowKit
def kol : Fm → Fm
 | .var v => (Fm.var v).not.not
 | .fls => .fls
 | .and a b => (Fm.and (kol a) (kol b)).not.not
 | .or a b => (Fm.or (kol a) (kol b)).not.not
 | .imp a b => (Fm.imp (kol a) (kol b)).not.not
 | .box _ => .fls
 | .dia _ => .fls
def gen : Fm → Fm
 | .var v => (Fm.var v).not.not
 | .fls => .fls
 | .and a b => .and (gen a) (gen b)
 | .or a b => (Fm.and (gen a).not (gen b).not).not
 | .imp a b => .imp (gen a) (gen b)
 | .box _ => .fls
 | .dia _ => .fls
theorem kol_len (t : Fm) : (kol t).enc.length ≤ 9 * t.enc.length := by
 induction t <;> simp [kol, Fm.not, Fm.enc] at * <;> omega
theorem gen_len (t : Fm) : (gen t).enc.length ≤ 9 * t.enc.length := by
 induction t <;> simp [gen, Fm.not, Fm.enc] at * <;> omega
end Go.Proofs.YtfmmajgkjkmghaaGreat
