/- Walks: the laws' comparisons and marks of rules. -/
import Derived.Test.YtjmpiedjhdogeaaL3
namespace Go.Proofs.Ytjmpiedjhdogeaa
open Go.RowKit
theorem agg_shape {w : World} {v : Value} {xs : List (List Nd)} (h : NdsL w v xs) : ∃ p n c, v = .slice p n c := by
  obtain ⟨p, c, e, _⟩ := h
  exact ⟨p, _, c, e⟩
--
set_option maxRecDepth 20000 in
set_option maxHeartbeats 1000000 in
theorem eqLogicRule_any (xs ys : List (List Nd)) (c d : List Nd) (v u v' u' : Value) (w : World) (hv : NdsL w v xs) (hu : Nds w u c) (hv' : NdsL w v' ys) (hu' : Nds w u' d) :
    Calls Try.prog 11 #[.agg #[v, u], .agg #[v', u']] w fun e w' => e = .returned (.bool (decide (xs = ys) && decide (c = d))) ∧ Keeps w w' := by
  obtain ⟨p1, n1, q1, rfl⟩ := agg_shape hv
  obtain ⟨p2, n2, q2, rfl⟩ := hu.shape
  obtain ⟨p3, n3, q3, rfl⟩ := agg_shape hv'
  obtain ⟨p4, n4, q4, rfl⟩ := hu'.shape
  have k1 := ((Keeps.refl w).alloc (.cells #[.slice p1 n1 q1, .slice p2 n2 q2] 27)).alloc (.cells #[.slice p3 n3 q3, .slice p4 n4 q4] 27)
  have HE := hid (eqNodeSS_any xs ys _ _ _ (hv.keeps k1) (hv'.keeps k1))
  have HF := hid (fun w2 (k2 : Keeps _ w2) => eqNodeS_any c d _ _ w2 ((hu.keeps k1).keeps k2) ((hu'.keeps k1).keeps k2))
  cases hd : decide (xs = ys)
  · have HD := hid hd; clear hd
    go_enter Try.func11, Try.ntmps11
    go_wp2_with fail
    refine HE.out.mono ?_; rintro e w2 ⟨rfl, k2⟩; rw [HD.out]
    go_wp2_with fail
    go_ret
    exact ⟨rfl, k1.trans k2⟩
  · have HD := hid hd; clear hd
    have a0 : ((w.alloc (.cells #[.slice p1 n1 q1, .slice p2 n2 q2] 27)).alloc (.cells #[.slice p3 n3 q3, .slice p4 n4 q4] 27)).cell? ⟨w.heap.size, 1, none⟩ = some (.slice p2 n2 q2) := by
      rw [World.cell?_alloc_lt (h := by simp)]; simp
    have b0 : ((w.alloc (.cells #[.slice p1 n1 q1, .slice p2 n2 q2] 27)).alloc (.cells #[.slice p3 n3 q3, .slice p4 n4 q4] 27)).cell? ⟨w.heap.size + 1, 1, none⟩ = some (.slice p4 n4 q4) := by
      have : w.heap.size + 1 = (w.alloc (.cells #[.slice p1 n1 q1, .slice p2 n2 q2] 27)).heap.size := by simp
      rw [this]; simp
    cases hf : decide (c = d)
    all_goals
      have HG := hid hf; clear hf
      go_enter Try.func11, Try.ntmps11
      go_wp2_with fail
      refine HE.out.mono ?_; rintro e w2 ⟨rfl, k2⟩; rw [HD.out]
      have a1 := k2.cell a0
      have b1 := k2.cell b0
      go_wp2_with fail
      refine (HF.out w2 k2).mono ?_; rintro e w3 ⟨rfl, k3⟩; rw [HG.out]
      go_wp2_with fail
      go_ret
      exact ⟨rfl, (k1.trans k2).trans k3⟩
--
theorem eqLogicRule_same (xs : List (List Nd)) (c : List Nd) (v u v' u' : Value) (w : World) (hv : NdsL w v xs) (hu : Nds w u c) (hv' : NdsL w v' xs) (hu' : Nds w u' c) :
    Calls Try.prog 11 #[.agg #[v, u], .agg #[v', u']] w fun e w' => e = .returned (.bool true) ∧ Keeps w w' := by
  have h := eqLogicRule_any xs xs c c v u v' u' w hv hu hv' hu'
  rw [decide_eq_true rfl, decide_eq_true rfl] at h
  exact h
--
theorem touch_pre {w w1 w2 : World} {S : Nat → Prop} (h : Keeps w w1) (k : Touch w1 w2 S) : Touch w w2 S := (Touch.of_keeps h S).trans k
theorem blk_cons {u : Value} {vs : List Value} {k : Nat} : blk (u :: vs) k ↔ u.ownBlock = some k ∨ blk vs k := by
  constructor
  · rintro ⟨i, hi, e⟩
    cases i with
    | zero => exact .inl e
    | succ i => exact .inr ⟨i, by simpa using hi, e⟩
  · rintro (h | ⟨i, hi, e⟩)
    · exact ⟨0, by simp, h⟩
    · exact ⟨i + 1, by simpa using hi, e⟩
set_option maxRecDepth 20000 in
set_option maxHeartbeats 1000000 in
theorem markLogicRule_any (xs : List (List Nd)) (c : List Nd) (vs : List Value) (p : Option Addr) (cap : Nat) (u : Value) (k0 : Int) (w : World) (B : Nat) (hat : At w p vs) (hr : RowsN w B (u :: vs) (c :: xs)) (hap : Apart (u :: vs))
    (hoff : Off (.slice p xs.length cap) (u :: vs)) (hl : xs.length ≤ 2147483648) (ht : tot xs + c.length ≤ 1073741824) (hk0 : 0 ≤ k0) (hk1 : k0 ≤ 1073741824) :
    Calls Try.prog 14 #[.agg #[.slice p xs.length cap, u], .int .i64 k0] w fun e w' => e = .returned (.int .i64 (k0 + 2 * (tot xs + c.length))) ∧ RowsN w' B (u :: vs) (marksN c.length (k0 + 2 * tot xs) :: marksL xs k0) ∧ Touch w w' (blk (u :: vs)) := by
  have hu := hr.head
  obtain ⟨pu, cu, rfl, _⟩ := At.of_own hu
  generalize hn : c.length = n at *
  have k1 := (Keeps.refl w).alloc (.cells #[.slice p xs.length cap, .slice pu n cu] 27)
  have hoff' : Off (.slice p xs.length cap) vs := fun i hi k hk => hoff (i + 1) (by simpa using hi) k hk
  have hnb := fun (k : Nat) (hk : blk (.slice pu n cu :: vs) k) => (hr.lt hk).2
  have HM := hid (markNodeSS_any xs vs p cap k0 _ B (hat.keeps k1) (hr.keeps k1).tail hap.tail hoff' hl (by omega) hk0 (by omega))
  have HU := hid (hu.keeps k1)
  have HH := hid hap.head
  clear hu hr hap hoff hat
  go_enter Try.func14, Try.ntmps14
  go_wp2_with fail
  refine HM.out.mono ?_; rintro e w2 ⟨rfl, hr2, t2⟩
  have hne : ¬ blk vs w.heap.size := fun h => by have := hnb _ (blk_cons.2 (.inr h)); omega
  have hc2 : w2.cell? ⟨w.heap.size, 1, none⟩ = some (.slice pu n cu) := by rw [(t2.cell (by simp) hne).1]; simp
  have hu2 : OwnN w2 B (.slice pu n cu) c := HU.out.touch t2 (fun k hk => HH.out.not_blk hk)
  have HN := hid (markNodeS_any c _ (k0 + 2 * tot xs) w2 B hu2 (by omega) (by omega) (by omega))
  rw [hn] at HN
  go_wp2_with fail
  refine HN.out.mono ?_; rintro e w3 ⟨rfl, hz, g3⟩
  go_wp2_with fail
  go_ret
  refine ⟨ret_int (by push_cast; omega), ?_, ?_⟩
  · exact RowsN.cons hz (hr2.touch (Touch.grown g3) (fun k hk e => HH.out.not_blk e.symm hk))
  · refine (touch_pre k1 (t2.mono (fun k hk => blk_cons.2 (.inr hk)))).trans ((Touch.grown g3).mono (fun k hk => blk_cons.2 (.inl hk.symm)))
--
set_option maxRecDepth 20000 in
set_option maxHeartbeats 1000000 in
theorem heldLogicRule_any (xs : List (List Nd)) (n : Nat) (v u : Value) (k0 : Int) (w : World) (hv : NdsL w v (marksL xs k0)) (hu : Nds w u (marksN n (k0 + 2 * tot xs))) (ht : tot xs + n ≤ 1073741824) (hk0 : 0 ≤ k0) (hk1 : k0 ≤ 1073741824) :
    Calls Try.prog 15 #[.agg #[v, u], .int .i64 k0] w fun e w' => e = .returned (.int .i64 (k0 + 2 * (tot xs + n))) ∧ Keeps w w' := by
  obtain ⟨p1, n1, q1, rfl⟩ := agg_shape hv
  obtain ⟨p2, n2, q2, rfl⟩ := hu.shape
  have k1 := (Keeps.refl w).alloc (.cells #[.slice p1 n1 q1, .slice p2 n2 q2] 27)
  have HE := hid (heldNodeSS_any xs _ k0 _ (hv.keeps k1) (by omega) hk0 (by omega))
  have HF := hid (heldNodeS_any n _ (k0 + 2 * tot xs) _ (hu.keeps k1) (by omega) (by omega))
  have hp1 : decide (k0 + 2 * (tot xs : Int) < 0) = false := by simp; omega
  have hp2 : decide (k0 + 2 * (tot xs : Int) + 2 * (n : Int) < 0) = false := by simp; omega
  go_enter Try.func15, Try.ntmps15
  go_wp2_with fail
  refine HE.out.mono ?_; rintro e w' ⟨rfl, rfl⟩
  go_wp2_with fail
  refine HF.out.mono ?_; rintro e w' ⟨rfl, rfl⟩
  go_wp2_with fail
  go_ret
  exact ⟨ret_int (by push_cast; omega), k1⟩
end Go.Proofs.Ytjmpiedjhdogeaa
