import Derived.Test.YtfmmajgkjkmghaaGreatEPC
/- Plain mathematics: the value of a plain formula in an order; all valuations with values of some variables, made in two ways. -/
namespace Go.Proofs.YtfmmajgkjkmghaaGreat
def impB (b : List Nat) (x y : Nat) : Nat := boxB b (((2 ^ b.length - 1) ^^^ ((2 ^ b.length - 1) &&& x)) ||| y) b.length
def frcP (b vs : List Nat) : Fm → Nat
 | .var p => vs.getD p 0
 | .fls => 0
 | .and x y => frcP b vs x &&& frcP b vs y
 | .or x y => frcP b vs x ||| frcP b vs y
 | .imp x y => impB b (frcP b vs x) (frcP b vs y)
 | .box _ => 0
 | .dia _ => 0
theorem frcP_lt {b vs : List Nat} (h : Bnd b.length vs) : ∀ t : Fm, frcP b vs t < 2 ^ b.length
 | .var p => h p
 | .fls => Nat.two_pow_pos _
 | .and x _y => Nat.lt_of_le_of_lt Nat.and_le_left (frcP_lt h x)
 | .or x y => Nat.or_lt_two_pow (frcP_lt h x) (frcP_lt h y)
 | .imp _x _y => boxB_lt _ _ _
 | .box _ => Nat.two_pow_pos _
 | .dia _ => Nat.two_pow_pos _
def sufF : Fm → Nat → List Fm
 | t, 0 => [t]
 | .var _, _ + 1 => []
 | .fls, _ + 1 => []
 | .and x y, i + 1 => if i < x.enc.length then sufF x i ++ [y] else sufF y (i - x.enc.length)
 | .or x y, i + 1 => if i < x.enc.length then sufF x i ++ [y] else sufF y (i - x.enc.length)
 | .imp x y, i + 1 => if i < x.enc.length then sufF x i ++ [y] else sufF y (i - x.enc.length)
 | .box x, i + 1 => sufF x i
 | .dia x, i + 1 => sufF x i
theorem sufF_zero (t : Fm) : sufF t 0 = [t] := by cases t <;> rfl
theorem sufF_end : ∀ t : Fm, sufF t t.enc.length = []
 | .var _ => rfl
 | .fls => rfl
 | .and x y => by
  have h : (Fm.and x y).enc.length = (x.enc.length + y.enc.length) + 1 := by simp [Fm.enc]
  rw [h, sufF, if_neg (by omega), show x.enc.length + y.enc.length - x.enc.length = y.enc.length by omega]
  exact sufF_end y
 | .or x y => by
  have h : (Fm.or x y).enc.length = (x.enc.length + y.enc.length) + 1 := by simp [Fm.enc]
  rw [h, sufF, if_neg (by omega), show x.enc.length + y.enc.length - x.enc.length = y.enc.length by omega]
  exact sufF_end y
 | .imp x y => by
  have h : (Fm.imp x y).enc.length = (x.enc.length + y.enc.length) + 1 := by simp [Fm.enc]
  rw [h, sufF, if_neg (by omega), show x.enc.length + y.enc.length - x.enc.length = y.enc.length by omega]
  exact sufF_end y
 | .box x => by
  have h : (Fm.box x).enc.length = x.enc.length + 1 := by simp [Fm.enc]
  rw [h, sufF]
  exact sufF_end x
 | .dia x => by
  have h : (Fm.dia x).enc.length = x.enc.length + 1 := by simp [Fm.enc]
  rw [h, sufF]
  exact sufF_end x
def StepF (n : Nd) (F G : List Fm) : Prop :=
 (n.k = 0 ∧ ∃ v : Nat, n.s = v ∧ G = .var v :: F) ∨ (n.k = 1 ∧ G = .fls :: F) ∨ (n.k = 2 ∧ ∃ x y R, F = x :: y :: R ∧ G = .and x y :: R) ∨ (n.k = 3 ∧ ∃ x y R, F = x :: y :: R ∧ G = .or x y :: R) ∨
  (n.k = 4 ∧ ∃ x y R, F = x :: y :: R ∧ G = .imp x y :: R) ∨ (n.k = 5 ∧ ∃ x R, F = x :: R ∧ G = .box x :: R) ∨ (n.k = 6 ∧ ∃ x R, F = x :: R ∧ G = .dia x :: R)
theorem StepF.more {n : Nd} {F G : List Fm} (h : StepF n F G) (R : List Fm) : StepF n (F ++ R) (G ++ R) := by
 rcases h with ⟨h, v, e, rfl⟩ | ⟨h, rfl⟩ | ⟨h, x, y, S, rfl, rfl⟩ | ⟨h, x, y, S, rfl, rfl⟩ | ⟨h, x, y, S, rfl, rfl⟩ | ⟨h, x, S, rfl, rfl⟩ | ⟨h, x, S, rfl, rfl⟩
 ·exact .inl ⟨h, v, e, rfl⟩
 ·exact .inr (.inl ⟨h, rfl⟩)
 ·exact .inr (.inr (.inl ⟨h, x, y, S ++ R, rfl, rfl⟩))
 ·exact .inr (.inr (.inr (.inl ⟨h, x, y, S ++ R, rfl, rfl⟩)))
 ·exact .inr (.inr (.inr (.inr (.inl ⟨h, x, y, S ++ R, rfl, rfl⟩))))
 ·exact .inr (.inr (.inr (.inr (.inr (.inl ⟨h, x, S ++ R, rfl, rfl⟩)))))
 ·exact .inr (.inr (.inr (.inr (.inr (.inr ⟨h, x, S ++ R, rfl, rfl⟩)))))
theorem sufF_step : ∀ (t : Fm) (i : Nat), i < t.enc.length → StepF (t.enc.getD i ⟨0, 0⟩) (sufF t (i + 1)) (sufF t i)
 | .var v, i, h => by
  have : i = 0 := by simp [Fm.enc] at h; omega
  subst this
  exact .inl ⟨rfl, v, rfl, rfl⟩
 | .fls, i, h => by
  have : i = 0 := by simp [Fm.enc] at h; omega
  subst this
  exact .inr (.inl ⟨rfl, rfl⟩)
 | .and x y, i, h => by
  have hl : (Fm.and x y).enc.length = (x.enc.length + y.enc.length) + 1 := by simp [Fm.enc]
  cases i with
  | zero =>
   refine .inr (.inr (.inl (⟨rfl, x, y, [], ?_, rfl⟩)))
   have := Fm.enc_pos x
   rw [sufF, if_pos this, sufF_zero]; rfl
  | succ i =>
   have hb : ∀ n, (Fm.and x y).enc.getD (i + 1) n = (x.enc ++ y.enc).getD i n := fun n => rfl
   rw [hb, sufF, sufF]
   by_cases h1 : i < x.enc.length
   ·have hg : (x.enc ++ y.enc).getD i ⟨0, 0⟩ = x.enc.getD i ⟨0, 0⟩ := by simp [List.getD_eq_getElem?_getD, List.getElem?_append_left h1]
    rw [hg, if_pos h1]
    have ih := (sufF_step x i h1).more [y]
    by_cases h2 : i + 1 < x.enc.length
    ·rw [if_pos h2]; exact ih
    ·rw [if_neg h2]
     have e : i + 1 = x.enc.length := by omega
     rw [e, sufF_end] at ih
     rw [e, Nat.sub_self, sufF_zero]; exact ih
   ·have hg : (x.enc ++ y.enc).getD i ⟨0, 0⟩ = y.enc.getD (i - x.enc.length) ⟨0, 0⟩ := by simp [List.getD_eq_getElem?_getD, List.getElem?_append_right (Nat.le_of_not_lt h1)]
    rw [hg, if_neg h1, if_neg (by omega), show i + 1 - x.enc.length = (i - x.enc.length) + 1 by omega]
    exact sufF_step y (i - x.enc.length) (by omega)
 | .or x y, i, h => by
  have hl : (Fm.or x y).enc.length = (x.enc.length + y.enc.length) + 1 := by simp [Fm.enc]
  cases i with
  | zero =>
   refine .inr (.inr (.inr (.inl (⟨rfl, x, y, [], ?_, rfl⟩))))
   have := Fm.enc_pos x
   rw [sufF, if_pos this, sufF_zero]; rfl
  | succ i =>
   have hb : ∀ n, (Fm.or x y).enc.getD (i + 1) n = (x.enc ++ y.enc).getD i n := fun n => rfl
   rw [hb, sufF, sufF]
   by_cases h1 : i < x.enc.length
   ·have hg : (x.enc ++ y.enc).getD i ⟨0, 0⟩ = x.enc.getD i ⟨0, 0⟩ := by simp [List.getD_eq_getElem?_getD, List.getElem?_append_left h1]
    rw [hg, if_pos h1]
    have ih := (sufF_step x i h1).more [y]
    by_cases h2 : i + 1 < x.enc.length
    ·rw [if_pos h2]; exact ih
    ·rw [if_neg h2]
     have e : i + 1 = x.enc.length := by omega
     rw [e, sufF_end] at ih
     rw [e, Nat.sub_self, sufF_zero]; exact ih
   ·have hg : (x.enc ++ y.enc).getD i ⟨0, 0⟩ = y.enc.getD (i - x.enc.length) ⟨0, 0⟩ := by simp [List.getD_eq_getElem?_getD, List.getElem?_append_right (Nat.le_of_not_lt h1)]
    rw [hg, if_neg h1, if_neg (by omega), show i + 1 - x.enc.length = (i - x.enc.length) + 1 by omega]
    exact sufF_step y (i - x.enc.length) (by omega)
 | .imp x y, i, h => by
  have hl : (Fm.imp x y).enc.length = (x.enc.length + y.enc.length) + 1 := by simp [Fm.enc]
  cases i with
  | zero =>
   refine .inr (.inr (.inr (.inr (.inl (⟨rfl, x, y, [], ?_, rfl⟩)))))
   have := Fm.enc_pos x
   rw [sufF, if_pos this, sufF_zero]; rfl
  | succ i =>
   have hb : ∀ n, (Fm.imp x y).enc.getD (i + 1) n = (x.enc ++ y.enc).getD i n := fun n => rfl
   rw [hb, sufF, sufF]
   by_cases h1 : i < x.enc.length
   ·have hg : (x.enc ++ y.enc).getD i ⟨0, 0⟩ = x.enc.getD i ⟨0, 0⟩ := by simp [List.getD_eq_getElem?_getD, List.getElem?_append_left h1]
    rw [hg, if_pos h1]
    have ih := (sufF_step x i h1).more [y]
    by_cases h2 : i + 1 < x.enc.length
    ·rw [if_pos h2]; exact ih
    ·rw [if_neg h2]
     have e : i + 1 = x.enc.length := by omega
     rw [e, sufF_end] at ih
     rw [e, Nat.sub_self, sufF_zero]; exact ih
   ·have hg : (x.enc ++ y.enc).getD i ⟨0, 0⟩ = y.enc.getD (i - x.enc.length) ⟨0, 0⟩ := by simp [List.getD_eq_getElem?_getD, List.getElem?_append_right (Nat.le_of_not_lt h1)]
    rw [hg, if_neg h1, if_neg (by omega), show i + 1 - x.enc.length = (i - x.enc.length) + 1 by omega]
    exact sufF_step y (i - x.enc.length) (by omega)
 | .box x, i, h => by
  have hl : (Fm.box x).enc.length = x.enc.length + 1 := by simp [Fm.enc]
  cases i with
  | zero =>
   refine .inr (.inr (.inr (.inr (.inr (.inl (⟨rfl, x, [], ?_, rfl⟩))))))
   rw [sufF, sufF_zero]
  | succ i =>
   have hb : ∀ n, (Fm.box x).enc.getD (i + 1) n = x.enc.getD i n := fun n => rfl
   rw [hb, sufF, sufF]
   exact sufF_step x i (by omega)
 | .dia x, i, h => by
  have hl : (Fm.dia x).enc.length = x.enc.length + 1 := by simp [Fm.enc]
  cases i with
  | zero =>
   refine .inr (.inr (.inr (.inr (.inr (.inr (⟨rfl, x, [], ?_, rfl⟩))))))
   rw [sufF, sufF_zero]
  | succ i =>
   have hb : ∀ n, (Fm.dia x).enc.getD (i + 1) n = x.enc.getD i n := fun n => rfl
   rw [hb, sufF, sufF]
   exact sufF_step x i (by omega)
def vldL (P : List Nat → Bool) (U : List Nat) : List Nat → List Nat → Bool
 | [], vs => P vs
 | v :: V, vs => U.all fun u => vldL P U V (vs.set v u)
def Off6 (V : List Nat) (a c : List Nat) : Prop := a.length = c.length ∧ ∀ j, j ∉ V → a.getD j 0 = c.getD j 0
theorem Off6.refl (V a : List Nat) : Off6 V a a := ⟨rfl, fun _ _ => rfl⟩
theorem Off6.trans {V a b c : List Nat} (h : Off6 V a b) (g : Off6 V b c) : Off6 V a c := ⟨h.1.trans g.1, fun j hj => (h.2 j hj).trans (g.2 j hj)⟩
theorem Off6.symm {V a b : List Nat} (h : Off6 V a b) : Off6 V b a := ⟨h.1.symm, fun j hj => (h.2 j hj).symm⟩
theorem Off6.mono {V W a b : List Nat} (h : Off6 V a b) (hs : ∀ x ∈ V, x ∈ W) : Off6 W a b := ⟨h.1, fun j hj => h.2 j fun e => hj (hs j e)⟩
theorem ext_getD {a c : List Nat} (hl : a.length = c.length) (h : ∀ j, a.getD j 0 = c.getD j 0) : a = c := by
 refine List.ext_getElem hl fun i h1 h2 => ?_
 have := h i
 simpa [List.getD_eq_getElem?_getD, h1, h2] using this
theorem Off6.set {V a c : List Nat} {v : Nat} (h : Off6 (v :: V) a c) (u : Nat) : Off6 V (a.set v u) (c.set v u) := by
 refine ⟨by simp [h.1], fun j hj => ?_⟩
 by_cases e : v = j
 ·subst e
  simp only [List.getD_eq_getElem?_getD, List.getElem?_set, h.1, if_true]
 ·have := h.2 j (by simp; exact ⟨Ne.symm e, hj⟩)
  simp only [List.getD_eq_getElem?_getD, List.getElem?_set_ne e] at this ⊢
  exact this
theorem Off6.nil {a c : List Nat} (h : Off6 [] a c) : a = c := ext_getD h.1 fun j => h.2 j (by simp)
theorem off_set (V a : List Nat) (v u : Nat) : Off6 (v :: V) a (a.set v u) := by
 refine ⟨by simp, fun j hj => ?_⟩
 have : v ≠ j := fun e => hj (by simp [e])
 simp only [List.getD_eq_getElem?_getD, List.getElem?_set_ne this]
theorem vldL_off {P : List Nat → Bool} {U : List Nat} : ∀ {V a c : List Nat}, Off6 V a c → vldL P U V a = vldL P U V c
 | [], a, c, h => by rw [h.nil]
 | v :: V, a, c, h => by
  unfold vldL
  congr 1
  funext u
  exact vldL_off (h.set u)
def numL (U : List Nat) : List Nat → Nat → List Nat
 | [], _ => List.replicate 6 0
 | v :: V, N => (numL U V N).set v (U.getD (N / U.length ^ V.length % U.length) 0)
theorem numL_len (U : List Nat) : ∀ V N, (numL U V N).length = 6
 | [], _ => by simp [numL]
 | v :: V, N => by rw [numL, List.length_set, numL_len U V N]
theorem numL_mod (U : List Nat) (N M : Nat) : ∀ V : List Nat, (∀ k, k < V.length → N / U.length ^ k % U.length = M / U.length ^ k % U.length) → numL U V N = numL U V M
 | [], _ => rfl
 | v :: V, h => by
  rw [numL, numL, numL_mod U N M V (fun k hk => h k (by simp; omega)), h V.length (by simp)]
theorem numL_off (U : List Nat) : ∀ (V : List Nat) (N : Nat), Off6 V (numL U V N) (List.replicate 6 0)
 | [], N => Off6.refl _ _
 | v :: V, N => by
  rw [numL]
  have h1 := off_set V (numL U V N) v (U.getD (N / U.length ^ V.length % U.length) 0)
  have h2 := (numL_off U V N).mono (W := v :: V) (fun x hx => by simp [hx])
  exact h1.symm.trans h2
theorem mod_pow_digit (m N k n : Nat) (hk : k < n) : N % m ^ n / m ^ k % m = N / m ^ k % m := by
 have e : m ^ n = m ^ k * m ^ (n - k) := by rw [← Nat.pow_add]; congr 1; omega
 rw [e, Nat.mod_mul_right_div_self]
 have e2 : m ^ (n - k) = m * m ^ (n - k - 1) := by
  conv => lhs; rw [show n - k = (n - k - 1) + 1 by omega, Nat.pow_succ, Nat.mul_comm]
 rw [e2, Nat.mod_mul_right_mod]
theorem vld_num {P : List Nat → Bool} {U : List Nat} (hU : 0 < U.length) : ∀ (V : List Nat) (vs : List Nat), vs.length = 6 → V.Nodup →
  (vldL P U V vs = true ↔ ∀ N, N < U.length ^ V.length → ∀ c, Off6 V c vs → (∀ j ∈ V, c.getD j 0 = (numL U V N).getD j 0) → P c = true)
 | [], vs, hv, _ => by
  constructor
  ·intro h N _ c hc _
   rw [hc.nil]; exact h
  ·intro h
   exact h 0 (by simp) vs (Off6.refl _ _) (fun j hj => by simp at hj)
 | v :: V, vs, hv, hnd => by
  have hn := List.nodup_cons.1 hnd
  have hpw : 0 < U.length ^ V.length := Nat.pow_pos hU
  have hU2 : ∀ d, d < U.length → U.getD d 0 ∈ U := fun d hd => by simp [List.getD_eq_getElem?_getD, hd]
  unfold vldL
  rw [List.all_eq_true]
  have hget : ∀ N j, j ∈ V → (numL U (v :: V) N).getD j 0 = (numL U V N).getD j 0 := fun N j hj => by
   have hne : v ≠ j := fun e => hn.1 (e ▸ hj)
   rw [numL]
   simp only [List.getD_eq_getElem?_getD, List.getElem?_set_ne hne]
  constructor
  ·intro h N hN c hc hcv
   have hd : N / U.length ^ V.length < U.length := by
    rw [Nat.div_lt_iff_lt_mul hpw]
    rwa [List.length_cons, Nat.pow_succ, Nat.mul_comm] at hN
   have h1 := h _ (hU2 _ hd)
   rw [vld_num hU V _ (by simp [hv]) hn.2] at h1
   refine h1 (N % U.length ^ V.length) (Nat.mod_lt _ hpw) c ?_ ?_
   ·refine ⟨by simp [hc.1], fun j hj => ?_⟩
    by_cases e : v = j
    ·subst e
     have := hcv v (by simp)
     rw [numL, Nat.mod_eq_of_lt hd] at this
     rw [this]
     simp only [List.getD_eq_getElem?_getD, List.getElem?_set, if_true, numL_len, hv]
    ·have h2 := hc.2 j (by simp; exact ⟨Ne.symm e, hj⟩)
     simp only [List.getD_eq_getElem?_getD, List.getElem?_set_ne e] at h2 ⊢
     exact h2
   ·intro j hj
    rw [hcv j (by simp [hj]), hget N j hj]
    rw [numL_mod U (N % U.length ^ V.length) N V (fun k hk => mod_pow_digit _ _ _ _ hk)]
  ·intro h u hu
   obtain ⟨d, hd, rfl⟩ := List.getElem_of_mem hu
   rw [vld_num hU V _ (by simp [hv]) hn.2]
   intro N hN c hc hcv
   have e1 : (d * U.length ^ V.length + N) / U.length ^ V.length = d := by
    rw [Nat.mul_comm, Nat.mul_add_div hpw, Nat.div_eq_of_lt hN]; rfl
   have e2 : (d * U.length ^ V.length + N) % U.length ^ V.length = N := by
    rw [Nat.mul_comm, Nat.mul_add_mod, Nat.mod_eq_of_lt hN]
   refine h (d * U.length ^ V.length + N) ?_ c ?_ ?_
   ·rw [List.length_cons, Nat.pow_succ, Nat.mul_comm (U.length ^ V.length)]
    calc d * U.length ^ V.length + N < d * U.length ^ V.length + U.length ^ V.length := by omega
     _ = (d + 1) * U.length ^ V.length := by rw [Nat.add_mul, Nat.one_mul]
     _ ≤ U.length * U.length ^ V.length := Nat.mul_le_mul_right _ hd
   ·have h2 := off_set V vs v U[d]
    exact (hc.mono (W := v :: V) (fun x hx => by simp [hx])).trans h2.symm
   ·intro j hj
    rcases List.mem_cons.1 hj with rfl | hj
    ·have h3 := hc.2 j hn.1
     rw [h3, numL, e1, Nat.mod_eq_of_lt hd]
     simp only [List.getD_eq_getElem?_getD, List.getElem?_set, if_true, numL_len, hv]
     by_cases h6 : j < 6
     ·simp [h6, hd]
     ·simp [h6]
    ·rw [hcv j hj, hget _ j hj]
     rw [numL_mod U N (d * U.length ^ V.length + N) V (fun k hk => by rw [← mod_pow_digit U.length (d * U.length ^ V.length + N) k V.length hk, e2])]
theorem vld_eq {P : List Nat → Bool} {U V : List Nat} (hU : 0 < U.length) (hV : V.Nodup) : vldL P U V (List.replicate 6 0) = true ↔ ∀ N, N < U.length ^ V.length → P (numL U V N) = true := by
 rw [vld_num hU V _ (by simp) hV]
 constructor
 ·intro h N hN
  exact h N hN _ (numL_off U V N) (fun _ _ => rfl)
 ·intro h N hN c hc hcv
  have : c = numL U V N := ext_getD (by rw [numL_len, hc.1]; simp) fun j => by
   by_cases hj : j ∈ V
   ·exact hcv j hj
   ·rw [hc.2 j hj, (numL_off U V N).2 j hj]
  rw [this]; exact h N hN
end Go.Proofs.YtfmmajgkjkmghaaGreat
namespace Go.Proofs.YtfmmajgkjkmghaaGreat
open Go.RowKit
set_option maxRecDepth 20000 in
set_option maxHeartbeats 4000000 in
theorem l05Flag0_any (b : List Nat) (v : Value) (w : World) (hv : Ints w v (zs b)) (hb : b.length ≤ 8) (hbm : Bnd b.length b) :
  Calls Tryz.prog 165 #[.agg #[.int .i64 b.length, v], .int .i64 0] w fun e w' => e = .returned (.bool (reflB b)) ∧ Keeps w w' := by
 have hv0 := hv
 obtain ⟨p, cap, rfl, hle, hmx, hat0, hlen⟩ := hv
 clear hat0
 unfold maxLen at hmx
 rw [zs_length] at *
 have h256 := two8 hb
 have kA := (Keeps.refl w).alloc (.cells #[.int .i64 b.length, .slice p b.length cap] 35)
 have HB := hid (fun i j w2 (hj : j ≤ 8) => l01BitB_any (b.getD i 0) j w2 (Nat.lt_of_lt_of_le (hbm i) h256) hj)
 have HP : Hid (reflB b = (List.range b.length).all (fun x => (b.getD x 0).testBit x)) := hid rfl
 obtain ⟨G, hG⟩ : ∃ G : Nat → Nat, ∀ i, G i = b.getD i 0 := ⟨fun i => b.getD i 0, fun _ => rfl⟩
 simp only [← hG] at HB HP
 generalize hn : b.length = n at hle hmx hlen hb kA hv0 ⊢
 generalize hP : (fun x => (G x).testBit x) = P at HP
 have HG := hid hG; clear hG
 have HPP := hid hP; clear hP
 have HV0 := hid hv0; clear hv0
 have HN := hid hn; clear hn
 clear h256 hbm
 go_enter Tryz.func165, Tryz.ntmps165
 go_wp2_with fail
 go_quiet (fail)
 go_wp2
 go_loopw [4, 7] (fun r x' wr => ∃ x : Nat, x ≤ n ∧ x' = .int .i64 x ∧ r = .bool false ∧ (∀ j, j < x → P j = true) ∧ Keeps w wr) (fun _ x' _ => n - (intOf x').toNat)
 case atStart => exact ⟨0, by omega, rfl, rfl, fun j h => by omega, kA.drewN _⟩
 case round =>
  obtain ⟨x, hx, rfl, rfl, hall, kw⟩ := hrel
  have HA := hid hall; clear hall
  by_cases hlt : x < n
  ·have hlt' : (x : Int) < n := by omega
   have hread : ∀ (j : Nat) (wq : World), Keeps w wq → j < n → ∃ b1 o1, p = some ⟨b1, o1, none⟩ ∧ wq.cell? ⟨b1, o1 + j, none⟩ = some (.int .i64 (G j : Nat)) := by
    intro j wq kq hj
    obtain ⟨_, _, e1, _, _, hat, _⟩ := HV0.out.keeps kq
    rw [zs_length, HN.out] at e1
    cases e1
    obtain ⟨b1, o1, e, h1⟩ := hat.int j (by rw [zs_length, HN.out]; omega)
    rw [zs_get, ← getD_get, ← HG.out] at h1
    exact ⟨b1, o1, e, h1⟩
   have HR := hid hread; clear hread
   obtain ⟨b1, o1, rfl, h1⟩ := HR.out x wr kw hlt
   have hpx : P x = (G x).testBit x := by rw [← HPP.out]
   have HH := hid (HB.out x x wr (by omega))
   have KW := hid kw; clear kw
   cases hbit : (G x).testBit x
   ·rw [hbit] at HH hpx
    have HPx := hid hpx; clear hpx
    clear hbit
    go_wp2_with fail
    refine HH.out.mono ?_; rintro e w' ⟨rfl, rfl⟩
    go_wp2_with fail
    go_ret
    refine ⟨ret_bool ?_, KW.out⟩
    rw [HP.out]
    exact (all_false (x := x) (by have := HN.out; omega) HPx.out).symm
   ·rw [hbit] at HH hpx
    have HPx := hid hpx; clear hpx
    clear hbit
    go_wp2_with fail
    refine HH.out.mono ?_; rintro e w' ⟨rfl, rfl⟩
    go_wp2_with fail
    clear HH
    go_loopw [4, 8] (fun r y' wr' => ∃ y : Nat, y ≤ n ∧ y' = .int .i64 y ∧ r = .bool false ∧ Keeps w wr') (fun _ y' _ => n - (intOf y').toNat)
    case atStart => exact ⟨0, by omega, rfl, rfl, KW.out⟩
    case round =>
     obtain ⟨y, hy, rfl, rfl, kw⟩ := hrel
     clear KW
     by_cases hyt : y < n
     ·have hyt' : (y : Int) < n := by omega
      obtain ⟨_, _, e, h1⟩ := HR.out x wr kw hlt
      cases e
      have HH := hid (HB.out x y wr (by omega))
      have KW := hid kw; clear kw
      cases hbit : (G x).testBit y
      ·rw [hbit] at HH
       clear hbit
       go_wp2_with fail
       refine HH.out.mono ?_; rintro e w' ⟨rfl, rfl⟩
       go_wp2_with fail
       go_roundw
       case rel => exact ⟨y + 1, by omega, by go_num, rfl, KW.out⟩
       case measure => simp [intOf]; omega
      ·rw [hbit] at HH
       clear hbit
       go_wp2_with fail
       refine HH.out.mono ?_; rintro e w' ⟨rfl, rfl⟩
       go_wp2_with fail
       go_loopw [4, 9] (fun r z' wr' => ∃ z : Nat, z ≤ n ∧ z' = .int .i64 z ∧ r = .bool false ∧ Keeps w wr') (fun _ z' _ => n - (intOf z').toNat)
       case atStart => exact ⟨0, by omega, rfl, rfl, KW.out⟩
       case round =>
        obtain ⟨z, hz, rfl, rfl, kw⟩ := hrel
        clear KW HH
        by_cases hzt : z < n
        ·have hzt' : (z : Int) < n := by omega
         obtain ⟨_, _, e, h1⟩ := HR.out x wr kw hlt
         cases e
         have HH := hid (HB.out x z wr (by omega))
         have KW := hid kw; clear kw
         cases hbit : (G x).testBit z
         ·rw [hbit] at HH
          clear hbit
          go_wp2_with fail
          refine HH.out.mono ?_; rintro e w' ⟨rfl, rfl⟩
          go_wp2_with fail
          go_roundw
          case rel => exact ⟨z + 1, by omega, by go_num, rfl, KW.out⟩
          case measure => simp [intOf]; omega
         ·rw [hbit] at HH
          clear hbit
          go_wp2_with fail
          refine HH.out.mono ?_; rintro e w' ⟨rfl, rfl⟩
          go_wp2_with fail
          go_quiet (fail)
          go_wp2_with fail
          go_roundw
          case rel => exact ⟨z + 1, by omega, by go_num, rfl, KW.out.drewN _⟩
          case measure => simp [intOf]; omega
        ·obtain rfl : z = n := by omega
         have hzt' : ¬ (z : Int) < z := by omega
         go_wp2_with fail
         go_roundw
         case rel => exact ⟨y + 1, by omega, by go_num, rfl, kw⟩
         case measure => simp [intOf]; omega
     ·obtain rfl : y = n := by omega
      have hyt' : ¬ (y : Int) < y := by omega
      go_wp2_with fail
      go_roundw
      case rel => exact ⟨x + 1, by omega, by go_num, rfl, nextQ HA.out HPx.out, kw⟩
      case measure => simp [intOf]; omega
  ·obtain rfl : x = n := by omega
   have hlt' : ¬ (x : Int) < x := by omega
   go_wp2_with fail
   go_ret
   refine ⟨ret_bool ?_, kw⟩
   rw [HP.out]
   exact (all_true (fun j hj => HA.out j (by have := HN.out; omega))).symm
end Go.Proofs.YtfmmajgkjkmghaaGreat
namespace Go.Proofs.YtfmmajgkjkmghaaGreat
open Go.RowKit
set_option maxRecDepth 20000 in
set_option maxHeartbeats 4000000 in
theorem l05Flag2_any (b : List Nat) (v : Value) (w : World) (hv : Ints w v (zs b)) (hb : b.length ≤ 8) (hbm : Bnd b.length b) :
  Calls Tryz.prog 165 #[.agg #[.int .i64 b.length, v], .int .i64 2] w fun e w' => e = .returned (.bool (transB b)) ∧ Keeps w w' := by
 have hv0 := hv
 obtain ⟨p, cap, rfl, hle, hmx, hat0, hlen⟩ := hv
 clear hat0
 unfold maxLen at hmx
 rw [zs_length] at *
 have h256 := two8 hb
 have kA := (Keeps.refl w).alloc (.cells #[.int .i64 b.length, .slice p b.length cap] 35)
 have HB := hid (fun i j w2 (hj : j ≤ 8) => l01BitB_any (b.getD i 0) j w2 (Nat.lt_of_lt_of_le (hbm i) h256) hj)
 have HG := hid (fun i w2 (k : Keeps w w2) => l01Image_any b (b.getD i 0) _ w2 (hv0.keeps k) hb (bnd_mem hbm) (hbm i))
 have HW := hid (fun i => withinN (img b (b.getD i 0)) (b.getD i 0) (Nat.lt_of_lt_of_le (img_lt (bnd_mem hbm) _) (by omega)) (Nat.lt_of_lt_of_le (hbm i) (by omega)))
 have HP : Hid (transB b = (List.range b.length).all (fun x => inB (img b (b.getD x 0)) (b.getD x 0))) := hid rfl
 obtain ⟨G, hGe⟩ : ∃ G : Nat → Nat, ∀ i, G i = b.getD i 0 := ⟨fun i => b.getD i 0, fun _ => rfl⟩
 simp only [← hGe] at HB HP HG HW
 obtain ⟨I, hIe⟩ : ∃ I : Nat → Nat, ∀ i, I i = img b (G i) := ⟨fun i => img b (G i), fun _ => rfl⟩
 simp only [← hIe] at HP HG HW
 generalize hn : b.length = n at hle hmx hlen hb kA hv0 HG ⊢
 generalize hP : (fun x => inB (I x) (G x)) = P at HP
 have HGe := hid hGe; clear hGe
 have HIe := hid hIe; clear hIe
 have HPP := hid hP; clear hP
 have HV0 := hid hv0; clear hv0
 have HN := hid hn; clear hn
 clear h256 hbm
 go_enter Tryz.func165, Tryz.ntmps165
 go_wp2_with fail
 go_quiet (fail)
 go_wp2
 go_loopw [4, 7] (fun r x' wr => ∃ x : Nat, x ≤ n ∧ x' = .int .i64 x ∧ r = .bool false ∧ (∀ j, j < x → P j = true) ∧ Keeps w wr) (fun _ x' _ => n - (intOf x').toNat)
 case atStart => exact ⟨0, by omega, rfl, rfl, fun j h => by omega, kA.drewN _⟩
 case round =>
  obtain ⟨x, hx, rfl, rfl, hall, kw⟩ := hrel
  have HA := hid hall; clear hall
  by_cases hlt : x < n
  ·have hlt' : (x : Int) < n := by omega
   have hread : ∀ (j : Nat) (wq : World), Keeps w wq → j < n → ∃ b1 o1, p = some ⟨b1, o1, none⟩ ∧ wq.cell? ⟨b1, o1 + j, none⟩ = some (.int .i64 (G j : Nat)) := by
    intro j wq kq hj
    obtain ⟨_, _, e1, _, _, hat, _⟩ := HV0.out.keeps kq
    rw [zs_length, HN.out] at e1
    cases e1
    obtain ⟨b1, o1, e, h1⟩ := hat.int j (by rw [zs_length, HN.out]; omega)
    rw [zs_get, ← getD_get, ← HGe.out] at h1
    exact ⟨b1, o1, e, h1⟩
   have HR := hid hread; clear hread
   obtain ⟨b1, o1, rfl, h1⟩ := HR.out x wr kw hlt
   have hpx : P x = inB (I x) (G x) := by rw [← HPP.out]
   have HH := hid (HG.out x wr kw)
   have hww := HW.out x
   have KW := hid kw; clear kw
   cases hbit : inB (I x) (G x)
   ·rw [hbit] at hpx hww
    have HPx := hid hpx; clear hpx
    have hwn : (bits .andNot .i64 ((I x : Nat) : Int) ((G x : Nat) : Int) != 0) = true := by rw [bne, hww]; rfl
    clear hbit hww
    go_wp2_with fail
    go_quiet (first | (go_at_call 201; refine quietS (HG.out x _ (KW.out.drewN _))))
    go_wp2_with fail
    go_ret
    refine ⟨ret_bool ?_, KW.out.drewN _⟩
    rw [HP.out]
    exact (all_false (x := x) (by have := HN.out; omega) HPx.out).symm
   ·rw [hbit] at hpx hww
    have HPx := hid hpx; clear hpx
    have hwn : (bits .andNot .i64 ((I x : Nat) : Int) ((G x : Nat) : Int) != 0) = false := by rw [bne, hww]; rfl
    clear hbit hww
    go_wp2_with fail
    go_quiet (first | (go_at_call 201; refine quietS (HG.out x _ (KW.out.drewN _))))
    go_wp2_with fail
    have KWn := hid (fun nn => KW.out.drewN nn)
    clear HH
    go_loopw [4, 8] (fun r y' wr' => ∃ y : Nat, y ≤ n ∧ y' = .int .i64 y ∧ r = .bool false ∧ Keeps w wr') (fun _ y' _ => n - (intOf y').toNat)
    case atStart => exact ⟨0, by omega, rfl, rfl, KWn.out _⟩
    case round =>
     obtain ⟨y, hy, rfl, rfl, kw⟩ := hrel
     clear KW
     by_cases hyt : y < n
     ·have hyt' : (y : Int) < n := by omega
      obtain ⟨_, _, e, h1⟩ := HR.out x wr kw hlt
      cases e
      have HH := hid (HB.out x y wr (by omega))
      have KW := hid kw; clear kw
      cases hbit : (G x).testBit y
      ·rw [hbit] at HH
       clear hbit
       go_wp2_with fail
       refine HH.out.mono ?_; rintro e w' ⟨rfl, rfl⟩
       go_wp2_with fail
       go_roundw
       case rel => exact ⟨y + 1, by omega, by go_num, rfl, KW.out⟩
       case measure => simp [intOf]; omega
      ·rw [hbit] at HH
       clear hbit
       go_wp2_with fail
       refine HH.out.mono ?_; rintro e w' ⟨rfl, rfl⟩
       go_wp2_with fail
       go_loopw [4, 9] (fun r z' wr' => ∃ z : Nat, z ≤ n ∧ z' = .int .i64 z ∧ r = .bool false ∧ Keeps w wr') (fun _ z' _ => n - (intOf z').toNat)
       case atStart => exact ⟨0, by omega, rfl, rfl, KW.out⟩
       case round =>
        obtain ⟨z, hz, rfl, rfl, kw⟩ := hrel
        clear KW HH
        by_cases hzt : z < n
        ·have hzt' : (z : Int) < n := by omega
         obtain ⟨_, _, e, h1⟩ := HR.out x wr kw hlt
         cases e
         have HH := hid (HB.out x z wr (by omega))
         have KW := hid kw; clear kw
         cases hbit : (G x).testBit z
         ·rw [hbit] at HH
          clear hbit
          go_wp2_with fail
          refine HH.out.mono ?_; rintro e w' ⟨rfl, rfl⟩
          go_wp2_with fail
          go_roundw
          case rel => exact ⟨z + 1, by omega, by go_num, rfl, KW.out⟩
          case measure => simp [intOf]; omega
         ·rw [hbit] at HH
          clear hbit
          go_wp2_with fail
          refine HH.out.mono ?_; rintro e w' ⟨rfl, rfl⟩
          go_wp2_with fail
          go_quiet (fail)
          go_wp2_with fail
          go_roundw
          case rel => exact ⟨z + 1, by omega, by go_num, rfl, KW.out.drewN _⟩
          case measure => simp [intOf]; omega
        ·obtain rfl : z = n := by omega
         have hzt' : ¬ (z : Int) < z := by omega
         go_wp2_with fail
         go_roundw
         case rel => exact ⟨y + 1, by omega, by go_num, rfl, kw⟩
         case measure => simp [intOf]; omega
     ·obtain rfl : y = n := by omega
      have hyt' : ¬ (y : Int) < y := by omega
      go_wp2_with fail
      go_roundw
      case rel => exact ⟨x + 1, by omega, by go_num, rfl, nextQ HA.out HPx.out, kw⟩
      case measure => simp [intOf]; omega
  ·obtain rfl : x = n := by omega
   have hlt' : ¬ (x : Int) < x := by omega
   go_wp2_with fail
   go_ret
   refine ⟨ret_bool ?_, kw⟩
   rw [HP.out]
   exact (all_true (fun j hj => HA.out j (by have := HN.out; omega))).symm
end Go.Proofs.YtfmmajgkjkmghaaGreat
namespace Go.Proofs.YtfmmajgkjkmghaaGreat
open Go.RowKit
set_option maxRecDepth 20000 in
set_option maxHeartbeats 4000000 in
theorem l05Flag8_any (b : List Nat) (v : Value) (w : World) (hv : Ints w v (zs b)) (hb : b.length ≤ 8) (hbm : Bnd b.length b) :
  Calls Tryz.prog 165 #[.agg #[.int .i64 b.length, v], .int .i64 8] w fun e w' => e = .returned (.bool (antiB b)) ∧ Keeps w w' := by
 have hv0 := hv
 obtain ⟨p, cap, rfl, hle, hmx, hat0, hlen⟩ := hv
 clear hat0
 unfold maxLen at hmx
 rw [zs_length] at *
 have h256 := two8 hb
 have kA := (Keeps.refl w).alloc (.cells #[.int .i64 b.length, .slice p b.length cap] 35)
 have HB := hid (fun i j w2 (hj : j ≤ 8) => l01BitB_any (b.getD i 0) j w2 (Nat.lt_of_lt_of_le (hbm i) h256) hj)
 have HP : Hid (antiB b = (List.range b.length).all (fun x => (List.range b.length).all fun y => antiQ b x y)) := hid rfl
 obtain ⟨G, hGe⟩ : ∃ G : Nat → Nat, ∀ i, G i = b.getD i 0 := ⟨fun i => b.getD i 0, fun _ => rfl⟩
 simp only [← hGe] at HB
 obtain ⟨Q, hQe⟩ : ∃ Q : Nat → Nat → Bool, ∀ i j, Q i j = antiQ b i j := ⟨fun i j => antiQ b i j, fun _ _ => rfl⟩
 simp only [← hQe] at HP
 generalize hn : b.length = n at hle hmx hlen hb kA hv0 ⊢
 generalize hP : (fun x => (List.range b.length).all fun y => Q x y) = P at HP
 have HGe := hid hGe; clear hGe
 have HQe := hid hQe; clear hQe
 have HPP := hid hP; clear hP
 have HV0 := hid hv0; clear hv0
 have HN := hid hn; clear hn
 clear h256 hbm
 go_enter Tryz.func165, Tryz.ntmps165
 go_wp2_with fail
 go_quiet (fail)
 go_wp2
 go_loopw [4, 7] (fun r x' wr => ∃ x : Nat, x ≤ n ∧ x' = .int .i64 x ∧ r = .bool false ∧ (∀ j, j < x → P j = true) ∧ Keeps w wr) (fun _ x' _ => n - (intOf x').toNat)
 case atStart => exact ⟨0, by omega, rfl, rfl, fun j h => by omega, kA.drewN _⟩
 case round =>
  obtain ⟨x, hx, rfl, rfl, hall, kw⟩ := hrel
  have HA := hid hall; clear hall
  by_cases hlt : x < n
  ·have hlt' : (x : Int) < n := by omega
   have hread : ∀ (j : Nat) (wq : World), Keeps w wq → j < n → ∃ b1 o1, p = some ⟨b1, o1, none⟩ ∧ wq.cell? ⟨b1, o1 + j, none⟩ = some (.int .i64 (G j : Nat)) := by
    intro j wq kq hj
    obtain ⟨_, _, e1, _, _, hat, _⟩ := HV0.out.keeps kq
    rw [zs_length, HN.out] at e1
    cases e1
    obtain ⟨b1, o1, e, h1⟩ := hat.int j (by rw [zs_length, HN.out]; omega)
    rw [zs_get, ← getD_get, ← HGe.out] at h1
    exact ⟨b1, o1, e, h1⟩
   have HR := hid hread; clear hread
   obtain ⟨b1, o1, rfl, h1⟩ := HR.out x wr kw hlt
   have KW := hid kw; clear kw
   go_wp2_with fail
   go_loopw [4, 8] (fun r y' wr' => ∃ y : Nat, y ≤ n ∧ y' = .int .i64 y ∧ r = .bool false ∧ Keeps w wr' ∧ (∀ j, j < y → Q x j = true)) (fun _ y' _ => n - (intOf y').toNat)
   case atStart => exact ⟨0, by omega, rfl, rfl, KW.out, fun j h => by omega⟩
   case round =>
    obtain ⟨y, hy, rfl, rfl, kw, hqs⟩ := hrel
    clear KW
    by_cases hyt : y < n
    ·have hyt' : (y : Int) < n := by omega
     obtain ⟨_, _, e, h1⟩ := HR.out x wr kw hlt
     cases e
     obtain ⟨_, _, e, h2⟩ := HR.out y wr kw hyt
     cases e
     have HQ := hid hqs; clear hqs
     have hq : Q x y = !((G x).testBit y && !(x == y) && (G y).testBit x) := by rw [HQe.out, HGe.out, HGe.out]; rfl
     have Hq := hid hq; clear hq
     have HH := hid (HB.out x y wr (by omega))
     have KW := hid kw; clear kw
     cases hbit : (G x).testBit y
     ·rw [hbit] at HH Hq
      clear hbit
      go_wp2_with fail
      refine HH.out.mono ?_; rintro e w' ⟨rfl, rfl⟩
      go_wp2_with fail
      go_roundw
      case rel => exact ⟨y + 1, by omega, by go_num, rfl, KW.out, nextQ HQ.out (by rw [Hq.out]; rfl)⟩
      case measure => simp [intOf]; omega
     ·rw [hbit] at HH Hq
      clear hbit
      by_cases hxy : x = y
      ·have hd : ((x : Int) != (y : Int)) = false := by simp [hxy]
       have hq1 : Q x y = true := by rw [Hq.out]; simp [hxy]
       have HQ1 := hid hq1; clear hq1 hxy
       go_wp2_with fail
       refine HH.out.mono ?_; rintro e w' ⟨rfl, rfl⟩
       go_wp2_with fail
       go_loopw [4, 9] (fun r z' wr' => ∃ z : Nat, z ≤ n ∧ z' = .int .i64 z ∧ r = .bool false ∧ Keeps w wr') (fun _ z' _ => n - (intOf z').toNat)
       case atStart => exact ⟨0, by omega, rfl, rfl, KW.out⟩
       case round =>
        obtain ⟨z, hz, rfl, rfl, kw⟩ := hrel
        clear KW HH
        by_cases hzt : z < n
        ·have hzt' : (z : Int) < n := by omega
         obtain ⟨_, _, e, h1⟩ := HR.out x wr kw hlt
         cases e
         have HH := hid (HB.out x z wr (by omega))
         have KW := hid kw; clear kw
         cases hbit : (G x).testBit z
         ·rw [hbit] at HH
          clear hbit
          go_wp2_with fail
          refine HH.out.mono ?_; rintro e w' ⟨rfl, rfl⟩
          go_wp2_with fail
          go_roundw
          case rel => exact ⟨z + 1, by omega, by go_num, rfl, KW.out⟩
          case measure => simp [intOf]; omega
         ·rw [hbit] at HH
          clear hbit
          go_wp2_with fail
          refine HH.out.mono ?_; rintro e w' ⟨rfl, rfl⟩
          go_wp2_with fail
          go_quiet (fail)
          go_wp2_with fail
          go_roundw
          case rel => exact ⟨z + 1, by omega, by go_num, rfl, KW.out.drewN _⟩
          case measure => simp [intOf]; omega
        ·obtain rfl : z = n := by omega
         have hzt' : ¬ (z : Int) < z := by omega
         go_wp2_with fail
         go_roundw
         case rel => exact ⟨y + 1, by omega, by go_num, rfl, kw, nextQ HQ.out HQ1.out⟩
         case measure => simp [intOf]; omega
      ·have hd : ((x : Int) != (y : Int)) = true := by simp; omega
       have HH2 := hid (HB.out y x wr (by omega))
       cases hbit2 : (G y).testBit x
       ·rw [hbit2] at HH2 Hq
        have hq1 : Q x y = true := by rw [Hq.out]; simp
        have HQ1 := hid hq1; clear hq1 hxy hbit2
        go_wp2_with fail
        refine HH.out.mono ?_; rintro e w' ⟨rfl, rfl⟩
        go_wp2_with fail
        refine HH2.out.mono ?_; rintro e w' ⟨rfl, rfl⟩
        go_wp2_with fail
        go_loopw [4, 9] (fun r z' wr' => ∃ z : Nat, z ≤ n ∧ z' = .int .i64 z ∧ r = .bool false ∧ Keeps w wr') (fun _ z' _ => n - (intOf z').toNat)
        case atStart => exact ⟨0, by omega, rfl, rfl, KW.out⟩
        case round =>
         obtain ⟨z, hz, rfl, rfl, kw⟩ := hrel
         clear KW HH
         by_cases hzt : z < n
         ·have hzt' : (z : Int) < n := by omega
          obtain ⟨_, _, e, h1⟩ := HR.out x wr kw hlt
          cases e
          have HH := hid (HB.out x z wr (by omega))
          have KW := hid kw; clear kw
          cases hbit : (G x).testBit z
          ·rw [hbit] at HH
           clear hbit
           go_wp2_with fail
           refine HH.out.mono ?_; rintro e w' ⟨rfl, rfl⟩
           go_wp2_with fail
           go_roundw
           case rel => exact ⟨z + 1, by omega, by go_num, rfl, KW.out⟩
           case measure => simp [intOf]; omega
          ·rw [hbit] at HH
           clear hbit
           go_wp2_with fail
           refine HH.out.mono ?_; rintro e w' ⟨rfl, rfl⟩
           go_wp2_with fail
           go_quiet (fail)
           go_wp2_with fail
           go_roundw
           case rel => exact ⟨z + 1, by omega, by go_num, rfl, KW.out.drewN _⟩
           case measure => simp [intOf]; omega
         ·obtain rfl : z = n := by omega
          have hzt' : ¬ (z : Int) < z := by omega
          go_wp2_with fail
          go_roundw
          case rel => exact ⟨y + 1, by omega, by go_num, rfl, kw, nextQ HQ.out HQ1.out⟩
          case measure => simp [intOf]; omega
       ·rw [hbit2] at HH2 Hq
        have hq1 : Q x y = false := by rw [Hq.out]; simp [hxy]
        have HQ1 := hid hq1; clear hq1 hxy hbit2
        go_wp2_with fail
        refine HH.out.mono ?_; rintro e w' ⟨rfl, rfl⟩
        go_wp2_with fail
        refine HH2.out.mono ?_; rintro e w' ⟨rfl, rfl⟩
        go_wp2_with fail
        go_ret
        refine ⟨ret_bool ?_, KW.out⟩
        rw [HP.out]
        refine (all_false (x := x) (by have := HN.out; omega) ?_).symm
        rw [← HPP.out]
        exact all_false (x := y) (by have := HN.out; omega) HQ1.out
    ·obtain rfl : y = n := by omega
     have hyt' : ¬ (y : Int) < y := by omega
     go_wp2_with fail
     go_roundw
     case rel => exact ⟨x + 1, by omega, by go_num, rfl, nextQ HA.out (by rw [← HPP.out]; exact all_true (fun j hj => hqs j (by have := HN.out; omega))), kw⟩
     case measure => simp [intOf]; omega
  ·obtain rfl : x = n := by omega
   have hlt' : ¬ (x : Int) < x := by omega
   go_wp2_with fail
   go_ret
   refine ⟨ret_bool ?_, kw⟩
   rw [HP.out]
   exact (all_true (fun j hj => HA.out j (by have := HN.out; omega))).symm
end Go.Proofs.YtfmmajgkjkmghaaGreat
