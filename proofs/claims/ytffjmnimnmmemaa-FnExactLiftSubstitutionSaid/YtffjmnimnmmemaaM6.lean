/- The law of LiftSubstitution. -/
import Derived.Test.YtffjmnimnmmemaaM5
namespace Go.Proofs.Ytffjmnimnmmemaa
open Go.RowKit
--
theorem eqNodeSS_same (xs : List (List Nd)) (v v' : Value) (w : World) (hv : NdsL w v xs) (hv' : NdsL w v' xs) :
    Calls Try.prog 26 #[v, v'] w fun e w' => e = .returned (.bool true) ∧ Keeps w w' := by
  have h := eqNodeSS_any xs xs v v' w hv hv'
  rw [decide_eq_true rfl] at h
  exact h
theorem eqNodeS_same (a : List Nd) (v v' : Value) (w : World) (hv : Nds w v a) (hv' : Nds w v' a) :
    Calls Try.prog 14 #[v, v'] w fun e w' => e = .returned (.bool true) ∧ Keeps w w' := by
  have h := eqNodeS_any a a v v' w hv hv'
  rw [decide_eq_true rfl] at h
  exact h
theorem OwnL.touch {w w' : World} {S : Nat → Prop} {B : Nat} {v : Value} {xs : List (List Nd)} (h : OwnL w B v xs) (k : Touch w w' S) (hS : ∀ i, B ≤ i → ¬ S i) : OwnL w' B v xs := by
  obtain ⟨vs, ho, hr, ha, hf⟩ := h
  exact ⟨vs, own_touch ho k (fun i e => hS i (World.ownsRow.lt ho i e).1), hr.touch k (fun i e => hS i (hr.lt e).1), ha, hf⟩
/-- marks put into an owned list of lists; what it reads as behind it -/
theorem markL_any (r : List (List Nd)) (v : Value) (w : World) (B : Nat) (hv : OwnL w B v r) (hl : r.length ≤ 1000) (ht : tot r ≤ 100000) :
    Calls Try.prog 27 #[v, .int .i64 1] w fun e w' => e = .returned (.int .i64 (1 + 2 * tot r)) ∧ NdsL w' v (marksL r 1) ∧ Touch w w' (fun k => B ≤ k ∧ k < w.heap.size) := by
  obtain ⟨vs, ho, hr, ha, hf⟩ := hv
  obtain ⟨p, cap, rfl, hcap, hmx, hat⟩ := At.of_own ho
  refine (markNodeSS_any r vs p cap 1 w B hat hr ha hf (by omega) (by omega) (by omega) (by omega)).mono ?_
  rintro e w' ⟨rfl, hr', t⟩
  have hat' : At w' p vs := fun j hj => by
    obtain ⟨b, off, hp, hc⟩ := hat j hj
    refine ⟨b, off, hp, ?_⟩
    rw [(t.cell (World.block_lt_of_cell? _ _ hc) (hf.not_blk (k := b) (by subst hp; rfl))).1]
    exact hc
  have hn := rows_ndsL hat' hr' (by rw [marksL_length]; exact hcap) hmx (by rw [marksL_length]; omega) (by rw [tot_marks]; omega)
  rw [marksL_length] at hn
  exact ⟨rfl, hn, t.mono (fun k hk => hr.lt hk)⟩
set_option maxRecDepth 20000 in
set_option maxHeartbeats 4000000 in
theorem lawLiftSubstitution (a : List Nd) (mask : Int) (r : List (List Nd)) (c : Int) (hboth : BothLift a mask r c) (hrl : r.length ≤ 6) (hrt : tot r ≤ 1000) (v : Value) (w : World) (hv : Nds w v a) (hl : a.length ≤ 1048576) :
    Calls Try.prog 6 #[v, .int .i64 mask] w fun e w' => e = .returned (.bool true) ∧ Keeps w w' := by
  obtain ⟨hs, hi⟩ := hboth
  have HS := hid hs; clear hs
  have HI := hid hi; clear hi
  obtain ⟨p, n, cap, rfl⟩ := hv.shape
  have hn : n = a.length := by obtain ⟨_, _, e, _⟩ := hv; cases e; rfl
  have HN := hid hn
  have hnl : n ≤ 1048576 := by omega
  clear hn
  have hz0 := szNodeS_any p n cap 1048576 w (by unfold maxLen; omega) (by omega) (by omega)
  rw [if_neg (by omega)] at hz0
  have hz := hid hz0; clear hz0
  go_enter Try.func6, Try.ntmps6
  go_wp2_with fail
  refine hz.out.mono ?_; rintro e w' ⟨rfl, rfl⟩
  have hsz : (0 : Int) ≤ 1048576 - n := by omega
  clear hz
  go_wp2_with fail
  refine (toNodeS_any a _ w hv hl).mono ?_; rintro e w1 ⟨v1, rfl, hv1, k1⟩
  go_wp2_with fail
  refine (HS.out _ w1 (hv1.nds (by omega))).mono ?_; rintro e w2 ⟨u0, rfl, hu0, k2⟩
  have kA2 := k1.trans k2
  clear hv1 k1 k2
  go_wp2_with fail
  refine (toNodeS_any a _ w2 (hv.keeps kA2) hl).mono ?_; rintro e w3 ⟨x0, rfl, hx3, k3⟩
  have hs23 := k3.size
  go_wp2_with fail
  refine (HI.out _ w3 (hx3.nds (by omega))).mono ?_; rintro e w4 ⟨g0, rfl, hg4, k4⟩
  have hx4 := hx3.keeps k4
  have kB4 := k3.trans k4
  clear k3 k4
  go_wp2_with fail
  refine (eqNodeSS_same r g0 u0 w4 (hg4.ndsL (by omega) (by omega)) (hu0.keeps kB4)).mono ?_; rintro e w5 ⟨rfl, k5⟩
  have hx5 := hx4.keeps k5
  have hg5 := hg4.keeps k5
  have kB5 := kB4.trans k5
  clear hx4 hg4 kB4 k5
  go_wp2_with fail
  refine (toNodeS_any a _ w5 (hv.keeps (kA2.trans kB5)) hl).mono ?_; rintro e w6 ⟨v6, rfl, hv6, k6⟩
  have hx6 := hx5.keeps k6
  have hg6 := hg5.keeps k6
  have kB6 := kB5.trans k6
  clear hx5 hg5 kB5 k6
  go_wp2_with fail
  refine (eqNodeS_same a x0 v6 w6 (hx6.nds (by omega)) (hv6.nds (by omega))).mono ?_; rintro e w7 ⟨rfl, k7⟩
  have hx7 := hx6.keeps k7
  have hg7 := hg6.keeps k7
  have kB7 := kB6.trans k7
  clear hx6 hg6 kB6 k7 hv6
  go_wp2_with fail
  refine (markNodeS_any a x0 1 w7 _ hx7 (by omega) (by omega) (by omega)).mono ?_; rintro e w8 ⟨rfl, hx8, g8⟩
  have hg8 : OwnL w8 w3.heap.size g0 r := hg7.touch (Touch.grown g8) (fun i hi e => by have := (hx3.len i e.symm).2; omega)
  have kB8 : Keeps w2 w8 := kB7.grown g8 (fun q hq => (hx3.len q hq).1)
  clear hg7 kB7 hx7 hx8 g8 hx3
  have hpos : (0 : Int) ≤ 1 + 2 * a.length := by omega
  go_wp2_with fail
  refine (eqNodeSS_same r g0 u0 w8 (hg8.ndsL (by omega) (by omega)) (hu0.keeps kB8)).mono ?_; rintro e w9 ⟨rfl, k9⟩
  have hg9 := hg8.keeps k9
  have kB9 := kB8.trans k9
  clear hg8 kB8 k9
  go_wp2_with fail
  refine (markL_any r g0 w9 _ hg9 (by omega) (by omega)).mono ?_; rintro e w10 ⟨rfl, hg10, t10⟩
  have kB10 : Keeps w2 w10 := kB9.touch t10 (fun i hi => by omega)
  clear kB9 hg9 t10
  have hpos2 : (0 : Int) ≤ 1 + 2 * tot r := by omega
  go_wp2_with fail
  refine (heldNodeSS_any r g0 1 w10 hg10 (by omega) (by omega) (by omega)).mono ?_; rintro e w' ⟨rfl, rfl⟩
  go_wp2_with fail
  refine (toNodeS_any a _ w10 (hv.keeps (kA2.trans kB10)) hl).mono ?_; rintro e w11 ⟨v11, rfl, hv11, k11⟩
  go_wp2_with fail
  refine (HI.out _ w11 (hv11.nds (by omega))).mono ?_; rintro e w12 ⟨h0, rfl, hh12, k12⟩
  have hg12 := (hg10.keeps k11).keeps k12
  have kB12 := (kB10.trans k11).trans k12
  clear hg10 kB10 k11 k12 hv11
  go_wp2_with fail
  refine (eqNodeSS_same r h0 u0 w12 (hh12.ndsL (by omega) (by omega)) (hu0.keeps kB12)).mono ?_; rintro e w13 ⟨rfl, k13⟩
  have hg13 := hg12.keeps k13
  have kB13 := kB12.trans k13
  clear hg12 kB12 k13 hh12
  go_wp2_with fail
  refine (heldNodeSS_any r g0 1 w13 hg13 (by omega) (by omega) (by omega)).mono ?_; rintro e w' ⟨rfl, rfl⟩
  go_wp2_with fail
  go_ret
  exact ⟨rfl, kA2.trans kB13⟩
theorem lawLiftSubstitutionBig (p : Option Addr) (n cap : Nat) (mask : Int) (w : World) (hn : 1048576 < n) (hm : n ≤ maxLen) :
    Calls Try.prog 6 #[.slice p n cap, .int .i64 mask] w fun e w' => e = .returned (.bool true) ∧ Keeps w w' := by
  have hz := hid (szNodeS_any p n cap 1048576 w hm (by omega) (by omega))
  have hsz2 : ((1048576 : Int) < n) := by omega
  go_enter Try.func6, Try.ntmps6
  go_wp2_with (go_at_call 10; refine hz.out.mono ?_; rintro e w' ⟨rfl, rfl⟩; rw [if_pos hsz2])
  go_ret
  exact ⟨rfl, Keeps.refl _⟩
end Go.Proofs.Ytffjmnimnmmemaa
