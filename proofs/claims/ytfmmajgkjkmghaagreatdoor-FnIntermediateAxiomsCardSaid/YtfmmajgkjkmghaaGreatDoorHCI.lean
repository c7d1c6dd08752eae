import Derived.Test.YtfmmajgkjkmghaaGreatDoorHQE0
import Derived.Test.YtfmmajgkjkmghaaGreatDoorHPK
import Derived.Test.YtfmmajgkjkmghaaGreatDoorHQT
import Derived.Test.YtfmmajgkjkmghaaGreatDoorHOQ
import Derived.BigQuiet
import Derived.Test.YtfmmajgkjkmghaaGreatDoorHBase
/- Plain mathematics: the value of a plain formula in an order; all valuations with values of some variables, made in two ways. -/
namespace Go.Proofs.YtfmmajgkjkmghaaGreatDoor
def impB (b : List Nat) (x y : Nat) : Nat := boxB b (((2 ^ b.length - 1) ^^^ ((2 ^ b.length - 1) &&& x)) ||| y) b.length
def frcP (b vs : List Nat) : Fm → Nat
 | .var p => vs.getD p 0
 | .fls => 0
 | .and x y => frcP b vs x &&& frcP b vs y
 | .or x y => frcP b vs x ||| frcP b vs y
 | .imp x y => impB b (frcP b vs x) (frcP b vs y)
 | .box _ => 0
 | .dia _ => 0
theorem frcP_lt {b vs : List Nat} (h : Bnd b.length vs) : ∀ t : Fm, frcP b vs t < 2 ^ b.length
 | .var p => h p
 | .fls => Nat.two_pow_pos _
 | .and x _y => Nat.lt_of_le_of_lt Nat.and_le_left (frcP_lt h x)
 | .or x y => Nat.or_lt_two_pow (frcP_lt h x) (frcP_lt h y)
 | .imp _x _y => boxB_lt _ _ _
 | .box _ => Nat.two_pow_pos _
 | .dia _ => Nat.two_pow_pos _
def sufF : Fm → Nat → List Fm
 | t, 0 => [t]
 | .var _, _ + 1 => []
 | .fls, _ + 1 => []
 | .and x y, i + 1 => if i < x.enc.length then sufF x i ++ [y] else sufF y (i - x.enc.length)
 | .or x y, i + 1 => if i < x.enc.length then sufF x i ++ [y] else sufF y (i - x.enc.length)
 | .imp x y, i + 1 => if i < x.enc.length then sufF x i ++ [y] else sufF y (i - x.enc.length)
 | .box x, i + 1 => sufF x i
 | .dia x, i + 1 => sufF x i
theorem sufF_zero (t : Fm) : sufF t 0 = [t] := by cases t <;> rfl
theorem sufF_end : ∀ t : Fm, sufF t t.enc.length = []
 | .var _ => rfl
 | .fls => rfl
 | .and x y => by
  have h : (Fm.and x y).enc.length = (x.enc.length + y.enc.length) + 1 := by simp [Fm.enc]
  rw [h, sufF, if_neg (by omega), show x.enc.length + y.enc.length - x.enc.length = y.enc.length by omega]
  exact sufF_end y
 | .or x y => by
  have h : (Fm.or x y).enc.length = (x.enc.length + y.enc.length) + 1 := by simp [Fm.enc]
  rw [h, sufF, if_neg (by omega), show x.enc.length + y.enc.length - x.enc.length = y.enc.length by omega]
  exact sufF_end y
 | .imp x y => by
  have h : (Fm.imp x y).enc.length = (x.enc.length + y.enc.length) + 1 := by simp [Fm.enc]
  rw [h, sufF, if_neg (by omega), show x.enc.length + y.enc.length - x.enc.length = y.enc.length by omega]
  exact sufF_end y
 | .box x => by
  have h : (Fm.box x).enc.length = x.enc.length + 1 := by simp [Fm.enc]
  rw [h, sufF]
  exact sufF_end x
 | .dia x => by
  have h : (Fm.dia x).enc.length = x.enc.length + 1 := by simp [Fm.enc]
  rw [h, sufF]
  exact sufF_end x
def StepF (n : Nd) (F G : List Fm) : Prop :=
 (n.k = 0 ∧ ∃ v : Nat, n.s = v ∧ G = .var v :: F) ∨ (n.k = 1 ∧ G = .fls :: F) ∨ (n.k = 2 ∧ ∃ x y R, F = x :: y :: R ∧ G = .and x y :: R) ∨ (n.k = 3 ∧ ∃ x y R, F = x :: y :: R ∧ G = .or x y :: R) ∨
  (n.k = 4 ∧ ∃ x y R, F = x :: y :: R ∧ G = .imp x y :: R) ∨ (n.k = 5 ∧ ∃ x R, F = x :: R ∧ G = .box x :: R) ∨ (n.k = 6 ∧ ∃ x R, F = x :: R ∧ G = .dia x :: R)
theorem StepF.more {n : Nd} {F G : List Fm} (h : StepF n F G) (R : List Fm) : StepF n (F ++ R) (G ++ R) := by
 rcases h with ⟨h, v, e, rfl⟩ | ⟨h, rfl⟩ | ⟨h, x, y, S, rfl, rfl⟩ | ⟨h, x, y, S, rfl, rfl⟩ | ⟨h, x, y, S, rfl, rfl⟩ | ⟨h, x, S, rfl, rfl⟩ | ⟨h, x, S, rfl, rfl⟩
 ·exact .inl ⟨h, v, e, rfl⟩
 ·exact .inr (.inl ⟨h, rfl⟩)
 ·exact .inr (.inr (.inl ⟨h, x, y, S ++ R, rfl, rfl⟩))
 ·exact .inr (.inr (.inr (.inl ⟨h, x, y, S ++ R, rfl, rfl⟩)))
 ·exact .inr (.inr (.inr (.inr (.inl ⟨h, x, y, S ++ R, rfl, rfl⟩))))
 ·exact .inr (.inr (.inr (.inr (.inr (.inl ⟨h, x, S ++ R, rfl, rfl⟩)))))
 ·exact .inr (.inr (.inr (.inr (.inr (.inr ⟨h, x, S ++ R, rfl, rfl⟩)))))
theorem sufF_step : ∀ (t : Fm) (i : Nat), i < t.enc.length → StepF (t.enc.getD i ⟨0, 0⟩) (sufF t (i + 1)) (sufF t i)
 | .var v, i, h => by
  have : i = 0 := by simp [Fm.enc] at h; omega
  subst this
  exact .inl ⟨rfl, v, rfl, rfl⟩
 | .fls, i, h => by
  have : i = 0 := by simp [Fm.enc] at h; omega
  subst this
  exact .inr (.inl ⟨rfl, rfl⟩)
 | .and x y, i, h => by
  have hl : (Fm.and x y).enc.length = (x.enc.length + y.enc.length) + 1 := by simp [Fm.enc]
  cases i with
  | zero =>
   refine .inr (.inr (.inl (⟨rfl, x, y, [], ?_, rfl⟩)))
   have := Fm.enc_pos x
   rw [sufF, if_pos this, sufF_zero]; rfl
  | succ i =>
   have hb : ∀ n, (Fm.and x y).enc.getD (i + 1) n = (x.enc ++ y.enc).getD i n := fun n => rfl
   rw [hb, sufF, sufF]
   by_cases h1 : i < x.enc.length
   ·have hg : (x.enc ++ y.enc).getD i ⟨0, 0⟩ = x.enc.getD i ⟨0, 0⟩ := by simp [List.getD_eq_getElem?_getD, List.getElem?_append_left h1]
    rw [hg, if_pos h1]
    have ih := (sufF_step x i h1).more [y]
    by_cases h2 : i + 1 < x.enc.length
    ·rw [if_pos h2]; exact ih
    ·rw [if_neg h2]
     have e : i + 1 = x.enc.length := by omega
     rw [e, sufF_end] at ih
     rw [e, Nat.sub_self, sufF_zero]; exact ih
   ·have hg : (x.enc ++ y.enc).getD i ⟨0, 0⟩ = y.enc.getD (i - x.enc.length) ⟨0, 0⟩ := by simp [List.getD_eq_getElem?_getD, List.getElem?_append_right (Nat.le_of_not_lt h1)]
    rw [hg, if_neg h1, if_neg (by omega), show i + 1 - x.enc.length = (i - x.enc.length) + 1 by omega]
    exact sufF_step y (i - x.enc.length) (by omega)
 | .or x y, i, h => by
  have hl : (Fm.or x y).enc.length = (x.enc.length + y.enc.length) + 1 := by simp [Fm.enc]
  cases i with
  | zero =>
   refine .inr (.inr (.inr (.inl (⟨rfl, x, y, [], ?_, rfl⟩))))
   have := Fm.enc_pos x
   rw [sufF, if_pos this, sufF_zero]; rfl
  | succ i =>
   have hb : ∀ n, (Fm.or x y).enc.getD (i + 1) n = (x.enc ++ y.enc).getD i n := fun n => rfl
   rw [hb, sufF, sufF]
   by_cases h1 : i < x.enc.length
   ·have hg : (x.enc ++ y.enc).getD i ⟨0, 0⟩ = x.enc.getD i ⟨0, 0⟩ := by simp [List.getD_eq_getElem?_getD, List.getElem?_append_left h1]
    rw [hg, if_pos h1]
    have ih := (sufF_step x i h1).more [y]
    by_cases h2 : i + 1 < x.enc.length
    ·rw [if_pos h2]; exact ih
    ·rw [if_neg h2]
     have e : i + 1 = x.enc.length := by omega
     rw [e, sufF_end] at ih
     rw [e, Nat.sub_self, sufF_zero]; exact ih
   ·have hg : (x.enc ++ y.enc).getD i ⟨0, 0⟩ = y.enc.getD (i - x.enc.length) ⟨0, 0⟩ := by simp [List.getD_eq_getElem?_getD, List.getElem?_append_right (Nat.le_of_not_lt h1)]
    rw [hg, if_neg h1, if_neg (by omega), show i + 1 - x.enc.length = (i - x.enc.length) + 1 by omega]
    exact sufF_step y (i - x.enc.length) (by omega)
 | .imp x y, i, h => by
  have hl : (Fm.imp x y).enc.length = (x.enc.length + y.enc.length) + 1 := by simp [Fm.enc]
  cases i with
  | zero =>
   refine .inr (.inr (.inr (.inr (.inl (⟨rfl, x, y, [], ?_, rfl⟩)))))
   have := Fm.enc_pos x
   rw [sufF, if_pos this, sufF_zero]; rfl
  | succ i =>
   have hb : ∀ n, (Fm.imp x y).enc.getD (i + 1) n = (x.enc ++ y.enc).getD i n := fun n => rfl
   rw [hb, sufF, sufF]
   by_cases h1 : i < x.enc.length
   ·have hg : (x.enc ++ y.enc).getD i ⟨0, 0⟩ = x.enc.getD i ⟨0, 0⟩ := by simp [List.getD_eq_getElem?_getD, List.getElem?_append_left h1]
    rw [hg, if_pos h1]
    have ih := (sufF_step x i h1).more [y]
    by_cases h2 : i + 1 < x.enc.length
    ·rw [if_pos h2]; exact ih
    ·rw [if_neg h2]
     have e : i + 1 = x.enc.length := by omega
     rw [e, sufF_end] at ih
     rw [e, Nat.sub_self, sufF_zero]; exact ih
   ·have hg : (x.enc ++ y.enc).getD i ⟨0, 0⟩ = y.enc.getD (i - x.enc.length) ⟨0, 0⟩ := by simp [List.getD_eq_getElem?_getD, List.getElem?_append_right (Nat.le_of_not_lt h1)]
    rw [hg, if_neg h1, if_neg (by omega), show i + 1 - x.enc.length = (i - x.enc.length) + 1 by omega]
    exact sufF_step y (i - x.enc.length) (by omega)
 | .box x, i, h => by
  have hl : (Fm.box x).enc.length = x.enc.length + 1 := by simp [Fm.enc]
  cases i with
  | zero =>
   refine .inr (.inr (.inr (.inr (.inr (.inl (⟨rfl, x, [], ?_, rfl⟩))))))
   rw [sufF, sufF_zero]
  | succ i =>
   have hb : ∀ n, (Fm.box x).enc.getD (i + 1) n = x.enc.getD i n := fun n => rfl
   rw [hb, sufF, sufF]
   exact sufF_step x i (by omega)
 | .dia x, i, h => by
  have hl : (Fm.dia x).enc.length = x.enc.length + 1 := by simp [Fm.enc]
  cases i with
  | zero =>
   refine .inr (.inr (.inr (.inr (.inr (.inr (⟨rfl, x, [], ?_, rfl⟩))))))
   rw [sufF, sufF_zero]
  | succ i =>
   have hb : ∀ n, (Fm.dia x).enc.getD (i + 1) n = x.enc.getD i n := fun n => rfl
   rw [hb, sufF, sufF]
   exact sufF_step x i (by omega)
def vldL (P : List Nat → Bool) (U : List Nat) : List Nat → List Nat → Bool
 | [], vs => P vs
 | v :: V, vs => U.all fun u => vldL P U V (vs.set v u)
def Off6 (V : List Nat) (a c : List Nat) : Prop := a.length = c.length ∧ ∀ j, j ∉ V → a.getD j 0 = c.getD j 0
theorem Off6.refl (V a : List Nat) : Off6 V a a := ⟨rfl, fun _ _ => rfl⟩
theorem Off6.trans {V a b c : List Nat} (h : Off6 V a b) (g : Off6 V b c) : Off6 V a c := ⟨h.1.trans g.1, fun j hj => (h.2 j hj).trans (g.2 j hj)⟩
theorem Off6.symm {V a b : List Nat} (h : Off6 V a b) : Off6 V b a := ⟨h.1.symm, fun j hj => (h.2 j hj).symm⟩
theorem Off6.mono {V W a b : List Nat} (h : Off6 V a b) (hs : ∀ x ∈ V, x ∈ W) : Off6 W a b := ⟨h.1, fun j hj => h.2 j fun e => hj (hs j e)⟩
theorem ext_getD {a c : List Nat} (hl : a.length = c.length) (h : ∀ j, a.getD j 0 = c.getD j 0) : a = c := by
 refine List.ext_getElem hl fun i h1 h2 => ?_
 have := h i
 simpa [List.getD_eq_getElem?_getD, h1, h2] using this
theorem Off6.set {V a c : List Nat} {v : Nat} (h : Off6 (v :: V) a c) (u : Nat) : Off6 V (a.set v u) (c.set v u) := by
 refine ⟨by simp [h.1], fun j hj => ?_⟩
 by_cases e : v = j
 ·subst e
  simp only [List.getD_eq_getElem?_getD, List.getElem?_set, h.1, if_true]
 ·have := h.2 j (by simp; exact ⟨Ne.symm e, hj⟩)
  simp only [List.getD_eq_getElem?_getD, List.getElem?_set_ne e] at this ⊢
  exact this
theorem Off6.nil {a c : List Nat} (h : Off6 [] a c) : a = c := ext_getD h.1 fun j => h.2 j (by simp)
theorem off_set (V a : List Nat) (v u : Nat) : Off6 (v :: V) a (a.set v u) := by
 refine ⟨by simp, fun j hj => ?_⟩
 have : v ≠ j := fun e => hj (by simp [e])
 simp only [List.getD_eq_getElem?_getD, List.getElem?_set_ne this]
theorem vldL_off {P : List Nat → Bool} {U : List Nat} : ∀ {V a c : List Nat}, Off6 V a c → vldL P U V a = vldL P U V c
 | [], a, c, h => by rw [h.nil]
 | v :: V, a, c, h => by
  unfold vldL
  congr 1
  funext u
  exact vldL_off (h.set u)
def numL (U : List Nat) : List Nat → Nat → List Nat
 | [], _ => List.replicate 6 0
 | v :: V, N => (numL U V N).set v (U.getD (N / U.length ^ V.length % U.length) 0)
theorem numL_len (U : List Nat) : ∀ V N, (numL U V N).length = 6
 | [], _ => by simp [numL]
 | v :: V, N => by rw [numL, List.length_set, numL_len U V N]
theorem numL_mod (U : List Nat) (N M : Nat) : ∀ V : List Nat, (∀ k, k < V.length → N / U.length ^ k % U.length = M / U.length ^ k % U.length) → numL U V N = numL U V M
 | [], _ => rfl
 | v :: V, h => by
  rw [numL, numL, numL_mod U N M V (fun k hk => h k (by simp; omega)), h V.length (by simp)]
theorem numL_off (U : List Nat) : ∀ (V : List Nat) (N : Nat), Off6 V (numL U V N) (List.replicate 6 0)
 | [], N => Off6.refl _ _
 | v :: V, N => by
  rw [numL]
  have h1 := off_set V (numL U V N) v (U.getD (N / U.length ^ V.length % U.length) 0)
  have h2 := (numL_off U V N).mono (W := v :: V) (fun x hx => by simp [hx])
  exact h1.symm.trans h2
theorem mod_pow_digit (m N k n : Nat) (hk : k < n) : N % m ^ n / m ^ k % m = N / m ^ k % m := by
 have e : m ^ n = m ^ k * m ^ (n - k) := by rw [← Nat.pow_add]; congr 1; omega
 rw [e, Nat.mod_mul_right_div_self]
 have e2 : m ^ (n - k) = m * m ^ (n - k - 1) := by
  conv => lhs; rw [show n - k = (n - k - 1) + 1 by omega, Nat.pow_succ, Nat.mul_comm]
 rw [e2, Nat.mod_mul_right_mod]
theorem vld_num {P : List Nat → Bool} {U : List Nat} (hU : 0 < U.length) : ∀ (V : List Nat) (vs : List Nat), vs.length = 6 → V.Nodup →
  (vldL P U V vs = true ↔ ∀ N, N < U.length ^ V.length → ∀ c, Off6 V c vs → (∀ j ∈ V, c.getD j 0 = (numL U V N).getD j 0) → P c = true)
 | [], vs, hv, _ => by
  constructor
  ·intro h N _ c hc _
   rw [hc.nil]; exact h
  ·intro h
   exact h 0 (by simp) vs (Off6.refl _ _) (fun j hj => by simp at hj)
 | v :: V, vs, hv, hnd => by
  have hn := List.nodup_cons.1 hnd
  have hpw : 0 < U.length ^ V.length := Nat.pow_pos hU
  have hU2 : ∀ d, d < U.length → U.getD d 0 ∈ U := fun d hd => by simp [List.getD_eq_getElem?_getD, hd]
  unfold vldL
  rw [List.all_eq_true]
  have hget : ∀ N j, j ∈ V → (numL U (v :: V) N).getD j 0 = (numL U V N).getD j 0 := fun N j hj => by
   have hne : v ≠ j := fun e => hn.1 (e ▸ hj)
   rw [numL]
   simp only [List.getD_eq_getElem?_getD, List.getElem?_set_ne hne]
  constructor
  ·intro h N hN c hc hcv
   have hd : N / U.length ^ V.length < U.length := by
    rw [Nat.div_lt_iff_lt_mul hpw]
    rwa [List.length_cons, Nat.pow_succ, Nat.mul_comm] at hN
   have h1 := h _ (hU2 _ hd)
   rw [vld_num hU V _ (by simp [hv]) hn.2] at h1
   refine h1 (N % U.length ^ V.length) (Nat.mod_lt _ hpw) c ?_ ?_
   ·refine ⟨by simp [hc.1], fun j hj => ?_⟩
    by_cases e : v = j
    ·subst e
     have := hcv v (by simp)
     rw [numL, Nat.mod_eq_of_lt hd] at this
     rw [this]
     simp only [List.getD_eq_getElem?_getD, List.getElem?_set, if_true, numL_len, hv]
    ·have h2 := hc.2 j (by simp; exact ⟨Ne.symm e, hj⟩)
     simp only [List.getD_eq_getElem?_getD, List.getElem?_set_ne e] at h2 ⊢
     exact h2
   ·intro j hj
    rw [hcv j (by simp [hj]), hget N j hj]
    rw [numL_mod U (N % U.length ^ V.length) N V (fun k hk => mod_pow_digit _ _ _ _ hk)]
  ·intro h u hu
   obtain ⟨d, hd, rfl⟩ := List.getElem_of_mem hu
   rw [vld_num hU V _ (by simp [hv]) hn.2]
   intro N hN c hc hcv
   have e1 : (d * U.length ^ V.length + N) / U.length ^ V.length = d := by
    rw [Nat.mul_comm, Nat.mul_add_div hpw, Nat.div_eq_of_lt hN]; rfl
   have e2 : (d * U.length ^ V.length + N) % U.length ^ V.length = N := by
    rw [Nat.mul_comm, Nat.mul_add_mod, Nat.mod_eq_of_lt hN]
   refine h (d * U.length ^ V.length + N) ?_ c ?_ ?_
   ·rw [List.length_cons, Nat.pow_succ, Nat.mul_comm (U.length ^ V.length)]
    calc d * U.length ^ V.length + N < d * U.length ^ V.length + U.length ^ V.length := by omega
     _ = (d + 1) * U.length ^ V.length := by rw [Nat.add_mul, Nat.one_mul]
     _ ≤ U.length * U.length ^ V.length := Nat.mul_le_mul_right _ hd
   ·have h2 := off_set V vs v U[d]
    exact (hc.mono (W := v :: V) (fun x hx => by simp [hx])).trans h2.symm
   ·intro j hj
    rcases List.mem_cons.1 hj with rfl | hj
    ·have h3 := hc.2 j hn.1
     rw [h3, numL, e1, Nat.mod_eq_of_lt hd]
     simp only [List.getD_eq_getElem?_getD, List.getElem?_set, if_true, numL_len, hv]
     by_cases h6 : j < 6
     ·simp [h6, hd]
     ·simp [h6]
    ·rw [hcv j hj, hget _ j hj]
     rw [numL_mod U N (d * U.length ^ V.length + N) V (fun k hk => by rw [← mod_pow_digit U.length (d * U.length ^ V.length + N) k V.length hk, e2])]
theorem vld_eq {P : List Nat → Bool} {U V : List Nat} (hU : 0 < U.length) (hV : V.Nodup) : vldL P U V (List.replicate 6 0) = true ↔ ∀ N, N < U.length ^ V.length → P (numL U V N) = true := by
 rw [vld_num hU V _ (by simp) hV]
 constructor
 ·intro h N hN
  exact h N hN _ (numL_off U V N) (fun _ _ => rfl)
 ·intro h N hN c hc hcv
  have : c = numL U V N := ext_getD (by rw [numL_len, hc.1]; simp) fun j => by
   by_cases hj : j ∈ V
   ·exact hcv j hj
   ·rw [hc.2 j hj, (numL_off U V N).2 j hj]
  rw [this]; exact h N hN
end Go.Proofs.YtfmmajgkjkmghaaGreatDoor
namespace Go.Proofs.YtfmmajgkjkmghaaGreatDoor
open Go.RowKit
def isUp (b : List Nat) (m : Nat) : Bool := img b m == m
def upK (b : List Nat) (k : Nat) : List Nat := (List.range k).filter (isUp b)
def upL (b : List Nat) : List Nat := upK b (2 ^ b.length)
theorem upK_zero (b : List Nat) : upK b 0 = [] := rfl
theorem upK_succ (b : List Nat) (k : Nat) : upK b (k + 1) = if isUp b k then upK b k ++ [k] else upK b k := by
 unfold upK
 rw [List.range_succ, List.filter_append]
 cases h : isUp b k <;> simp [h]
theorem upK_len (b : List Nat) (k : Nat) : (upK b k).length ≤ k := by
 unfold upK
 exact Nat.le_trans (List.length_filter_le _ _) (by simp)
theorem upK_lt {b : List Nat} {k x : Nat} (h : x ∈ upK b k) : x < k := by
 unfold upK at h
 simpa using (List.mem_filter.1 h).1
theorem upL_pos (b : List Nat) : 0 < (upL b).length := by
 have : 0 ∈ upL b := by
  unfold upL upK
  rw [List.mem_filter]
  refine ⟨by simp [Nat.two_pow_pos], ?_⟩
  have : ∀ k, imgL b 0 k = 0 := by
   intro k
   induction k with
   | zero => rfl
   | succ k ih => rw [imgL]; simp [ih]
  simp [isUp, img, this]
 exact List.length_pos_of_mem this
set_option maxRecDepth 20000 in
theorem isUpset_any (b : List Nat) (m : Nat) (v : Value) (w : World) (hv : Ints w v (zs b)) (hb : b.length ≤ 8) (hbm : ∀ x ∈ b, x < 2 ^ b.length) (hm : m < 2 ^ b.length) :
  Calls Tryz.prog 68 #[.agg #[.int .i64 b.length, v], .int .i64 m] w fun e w' => e = .returned (.bool (isUp b m)) ∧ Keeps w w' := by
 have kA := (Keeps.refl w).alloc (.cells #[.int .i64 b.length, v] 26)
 obtain ⟨c0, c1⟩ := BoxF.made w b.length v 26
 have HM := hid (fun wz => isMask_any b.length (m : Int) wz hb)
 rw [(isM_iff b.length (m : Int)).2 ⟨m, rfl, hm⟩] at HM
 have HI := hid (fun wz (kz : Keeps w wz) => image_any b m v wz (hv.keeps kz) hb hbm hm)
 have HE : Hid (isUp b m = (((img b m : Nat) : Int) == (m : Int))) := hid (by unfold isUp; rw [Bool.eq_iff_iff]; simp; omega)
 rw [HE.out]
 obtain ⟨p, cap, rfl, _⟩ := hv
 rw [zs_length] at *
 clear hbm hm HE
 generalize img b m = im at *
 generalize b.length = n at *
 go_enter Tryz.func68, Tryz.ntmps68
 go_wp2_with fail
 refine (HM.out _).mono ?_; rintro e w' ⟨rfl, rfl⟩
 go_wp2_with fail
 refine (HI.out _ kA).mono ?_; rintro e w2 ⟨rfl, k2⟩
 go_wp2_with fail
 go_ret
 exact ⟨rfl, kA.trans k2⟩
set_option maxRecDepth 20000 in
set_option maxHeartbeats 1000000 in
theorem upsets_any (b : List Nat) (v : Value) (w : World) (hv : Ints w v (zs b)) (hb : b.length ≤ 8) (hbm : ∀ x ∈ b, x < 2 ^ b.length) :
  Calls Tryz.prog 22 #[.agg #[.int .i64 b.length, v]] w fun e w' => ∃ v', e = .returned v' ∧ OwnI w' w.heap.size v' (zs (upL b)) ∧ Keeps w w' := by
 have kA := (Keeps.refl w).alloc (.cells #[.int .i64 b.length, v] 26)
 obtain ⟨c0, c1⟩ := BoxF.made w b.length v 26
 have HAL := hid (fun wz (kz : Keeps w wz) => posetAll_any b v wz (hv.keeps kz) hb)
 have HU := hid (fun m (hm : m < 2 ^ b.length) wz (kz : Keeps w wz) => isUpset_any b m v wz (hv.keeps kz) hb hbm hm)
 have HR := hid (upK_succ b)
 have HRL := hid (upK_len b)
 have HRE : Hid (upL b = upK b (2 ^ b.length)) := hid rfl
 have HR0 := hid (upK_zero b)
 rw [HRE.out]
 have h256 := two8 hb
 have hpos : 0 < 2 ^ b.length := Nat.two_pow_pos _
 obtain ⟨p, cap, rfl, _⟩ := hv
 rw [zs_length] at *
 clear hbm HRE
 obtain ⟨U, hU⟩ : ∃ U : Nat → Bool, ∀ m, U m = isUp b m := ⟨_, fun _ => rfl⟩
 simp only [← hU] at *
 obtain ⟨R, hRR⟩ : ∃ R : Nat → List Nat, ∀ m, R m = upK b m := ⟨_, fun _ => rfl⟩
 simp only [← hRR] at *
 clear hU hRR
 generalize 2 ^ b.length = M at *
 generalize b.length = n at *
 have hM1 : ((M - 1 : Nat) : Int) + 1 = (M : Int) := by omega
 have HM1 := hid hM1; clear hM1
 go_enter Tryz.func22, Tryz.ntmps22
 go_wp2_with fail
 refine (HAL.out _ kA).mono ?_; rintro e w2 ⟨rfl, k2⟩
 have kw2 := kA.trans k2
 replace c0 := k2.cell c0
 replace c1 := k2.cell c1
 go_wp2_with fail
 go_loopw [3, 8] (fun s3 s8 wr => ∃ i : Nat, i ≤ M ∧ s8 = .int .i64 i ∧ OwnI wr w2.heap.size s3 (zs (R i)) ∧ Keeps w2 wr) (fun _ s8 _ => M - (intOf s8).toNat)
 case atStart => exact ⟨0, by omega, rfl, by rw [HR0.out]; exact OwnI.nil _ _, Keeps.refl w2⟩
 case round =>
  obtain ⟨i, hi, rfl, hown, kw⟩ := hrel
  replace c0 := kw.cell c0
  replace c1 := kw.cell c1
  by_cases hlt : i < M
  ·have hlt' : (i : Int) < ((M - 1 : Nat) : Int) + 1 := by omega
   have HS := hid (HU.out i hlt wr (kw2.trans kw))
   have HRI := hid (HR.out i)
   have hrl := HRL.out i
   have hzl := zs_length (R i)
   have hsz := kw.size
   have KW := hid kw; clear kw
   cases hu : U i
   ·rw [hu] at HS HRI
    clear hu
    go_wp2_with fail
    refine HS.out.mono ?_; rintro e w3 ⟨rfl, k3⟩
    go_wp2_with fail
    go_roundw
    case rel => exact ⟨i + 1, by omega, by go_num, by have h := HRI.out; simp only [Bool.false_eq_true, if_false] at h; rw [h]; exact hown.keeps k3, KW.out.trans k3⟩
    case measure => simp [intOf]; omega
   ·rw [hu] at HS HRI
    clear hu
    go_wp2_with fail
    refine HS.out.mono ?_; rintro e w3 ⟨rfl, k3⟩
    have hsz3 := k3.size
    have kA3 := (Keeps.refl w3).alloc (.cells #[.int .i64 (i : Int)] 2)
    go_wp2_with (at_builtin; refine appI rfl _ _ rfl w2.heap.size _ (zs (R i)) rfl ((hown.keeps k3).keeps kA3) _ [(i : Int)] rfl (Ints.lit1 w3 i) (by simp; omega) (by rw [hzl]; simp; omega) ?_; intro v1 w1 hv1 hg1 hr1)
    go_roundw
    case rel => exact ⟨i + 1, by omega, by go_num, by have h := HRI.out; simp only [if_true] at h; rw [h, zs_snoc]; exact hv1, ((KW.out.trans k3).trans kA3).grown hg1 hr1⟩
    case measure => simp [intOf]; omega
  ·have e : M = i := by omega
   subst e
   have hlt' : ¬ (M : Int) < ((M - 1 : Nat) : Int) + 1 := by omega
   go_wp2_with fail
   go_ret
   exact ⟨_, rfl, hown.mono kw2.size, kw2.trans kw⟩
end Go.Proofs.YtfmmajgkjkmghaaGreatDoor
namespace Go.Proofs.YtfmmajgkjkmghaaGreatDoor
open Go.RowKit
def impM (b : List Nat) (x y : Nat) : Nat := ((2 ^ b.length - 1) ^^^ ((2 ^ b.length - 1) &&& x)) ||| y
theorem impM_eq (b : List Nat) (x y : Nat) : impB b x y = boxB b (impM b x y) b.length := rfl
theorem impM_lt {b : List Nat} {x y : Nat} (hy : y < 2 ^ b.length) : impM b x y < 2 ^ b.length := by
 have hp : 0 < 2 ^ b.length := Nat.two_pow_pos _
 have h1 : 2 ^ b.length - 1 < 2 ^ b.length := by omega
 exact Nat.or_lt_two_pow (Nat.xor_lt_two_pow h1 (Nat.lt_of_le_of_lt Nat.and_le_left h1)) hy
theorem impM_int {b : List Nat} {x y : Nat} (hb : b.length ≤ 8) (hx : x < 2 ^ b.length) (hy : y < 2 ^ b.length) :
  bits .or .i64 (bits .andNot .i64 ((2 ^ b.length - 1 : Nat) : Int) (x : Int)) (y : Int) = ((impM b x y : Nat) : Int) := by
 have h256 := two8 hb
 have hp : 0 < 2 ^ b.length := Nat.two_pow_pos _
 rw [andNotN _ _ (by omega) (by omega)]
 have h1 : (2 ^ b.length - 1) ^^^ ((2 ^ b.length - 1) &&& x) < 2 ^ b.length := Nat.xor_lt_two_pow (by omega) (Nat.lt_of_le_of_lt Nat.and_le_left (by omega))
 rw [orN _ _ (by omega) (by omega)]; rfl
set_option maxRecDepth 20000 in
theorem imply_any (b : List Nat) (x y : Nat) (v : Value) (w : World) (hv : Ints w v (zs b)) (hb : b.length ≤ 8) (hbm : Bnd b.length b) (hx : x < 2 ^ b.length) (hy : y < 2 ^ b.length) :
  Calls Tryz.prog 170 #[.agg #[.int .i64 b.length, v], .int .i64 x, .int .i64 y] w fun e w' => e = .returned (.int .i64 (impB b x y)) ∧ Keeps w w' := by
 have kA := (Keeps.refl w).alloc (.cells #[.int .i64 b.length, v] 26)
 obtain ⟨c0, c1⟩ := BoxF.made w b.length v 26
 have HAL := hid (fun wz (kz : Keeps w wz) => posetAll_any b v wz (hv.keeps kz) hb)
 have HB := hid (fun wz (kz : Keeps w wz) => by
  have h := box_any b (impM b x y) v wz (hv.keeps kz) hb hbm (Nat.lt_of_lt_of_le (impM_lt hy) (two8 hb))
  rw [← impM_int hb hx hy] at h; exact h)
 have d0 := kA.drew
 have e0 := (Keeps.refl (w.alloc (.cells #[.int .i64 b.length, v] 26))).drew.cell c0
 have e1 := (Keeps.refl (w.alloc (.cells #[.int .i64 b.length, v] 26))).drew.cell c1
 rw [impM_eq]
 obtain ⟨p, cap, rfl, _⟩ := hv
 rw [zs_length] at *
 clear hbm hx hy
 generalize boxB b (impM b x y) b.length = r at *
 generalize 2 ^ b.length - 1 = M at *
 generalize b.length = n at *
 go_enter Tryz.func170, Tryz.ntmps170
 go_wp2_with fail
 go_region_held3 (fun w' => w'.cell? ⟨w.heap.size, 0, none⟩ = some (.int .i64 n) ∧ w'.cell? ⟨w.heap.size, 1, none⟩ = some (.slice p n cap)) (first | exact ⟨c0, c1⟩ | exact ⟨e0, e1⟩ | exact ⟨f0, f1⟩) (first
  | (go_at_call 52; refine (HAL.out _ d0).mono ?_; rintro e w6 ⟨rfl, k6⟩; have f0 := k6.cell e0; have f1 := k6.cell e1; have k7 := d0.trans k6)
  | (go_at_call 186; refine (HB.out _ k7).mono ?_; rintro e w8 ⟨rfl, rfl⟩))
 go_wp2_with fail
 go_ret
 exact ⟨rfl, k7⟩
end Go.Proofs.YtfmmajgkjkmghaaGreatDoor
namespace Go.Proofs.YtfmmajgkjkmghaaGreatDoor
open Go.RowKit
theorem OwnI.cutI {w : World} {B g cap : Nat} {a : List Int} (h : OwnI w B (.slice (some ⟨g, 0, none⟩) a.length cap) a) (k : Nat) (hk : k ≤ a.length) : OwnI w B (.slice (some ⟨g, 0, none⟩) k cap) (a.take k) := by
 rcases h with ⟨hl, ⟨e, _⟩ | ⟨g', cap', cur, e, hb, hg, hn, hm, hs, ht⟩⟩
 ·cases e
 ·cases e
  refine ⟨by simp [intCells], .inr ⟨g, cap, cur, ?_, hb, hg, ?_, hm, hs, ?_⟩⟩
  ·rw [List.length_take, Nat.min_eq_left hk]
  ·rw [List.length_take, Nat.min_eq_left hk]; exact Nat.le_trans hk hn
  ·rw [List.length_take, Nat.min_eq_left hk, show intCells (a.take k) = (intCells a).take k by simp [intCells, List.map_take], ← ht, List.take_take, Nat.mul_one, Nat.mul_one, Nat.min_eq_left hk]
end Go.Proofs.YtfmmajgkjkmghaaGreatDoor
