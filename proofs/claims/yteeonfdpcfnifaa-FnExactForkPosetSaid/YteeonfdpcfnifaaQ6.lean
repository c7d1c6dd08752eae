/- The fork posets' law. -/
import Derived.Test.YteeonfdpcfnifaaQ3
import Derived.Test.YteeonfdpcfnifaaQ5
namespace Go.Proofs.Yteeonfdpcfnifaa
open Go.RowKit
--
set_option maxHeartbeats 400000 in
theorem specForkPoset_any (n : Int) (w : World) : Calls Try.prog 14 #[.int .i64 n] w (RetPE w (if 0 ≤ n ∧ n ≤ 7 then forkL n.toNat n.toNat else []) (if 0 ≤ n ∧ n ≤ 7 then 0 else 2)) := by
  have kA := (Keeps.refl w).alloc (.cells #[.int .i64 0, .slice none 0 0] 24)
  by_cases hi : 0 ≤ n ∧ n ≤ 7
  · rw [if_pos hi, if_pos hi]
    have hin : inR n 0 7 = true := by simp [inR]; omega
    obtain ⟨h0, h8⟩ := hi
    obtain ⟨k, rfl⟩ := Int.eq_ofNat_of_zero_le (show 0 ≤ n by omega)
    simp only [Int.toNat_natCast]
    have HB := hid (l30Fork_any k (w.alloc (.cells #[.int .i64 0, .slice none 0 0] 24)) (by omega))
    generalize forkL k k = L at *
    go_enter Try.func14, Try.ntmps14
    go_wp2_with fail
    refine (l01In_any _ _ _ _).mono ?_
    rintro e w' ⟨rfl, rfl⟩
    rw [hin]
    go_wp2_with fail
    refine HB.out.mono ?_
    rintro e w2 ⟨v2, rfl, hv2, k2⟩
    obtain ⟨hc2, hf2⟩ := k2.both
    have hB : w.heap.size < (w.alloc (.cells #[.int .i64 0, .slice none 0 0] 24)).heap.size := by simp
    obtain ⟨p2, n2, c2, rfl⟩ : ∃ p n c, v2 = .slice p n c := by obtain ⟨p, c, e, _⟩ := At.of_own hv2; exact ⟨p, _, c, e⟩
    go_wp2_with fail
    refine bodyPost_ret (v := .tuple #[.agg #[.int .i64 L.length, .slice p2 n2 c2], .int .i64 0]) (by simp [results, Try.results14, go_sem, hc2]) rfl ?_
    exact ⟨.slice p2 n2 c2, rfl, ((hv2.setBelow hB _).setBelow hB _).mono (by simp), ((kA.trans k2).setCell (Nat.le_refl _) _).setCell (Nat.le_refl _) _⟩
  · rw [if_neg hi, if_neg hi]
    have hin : inR n 0 7 = false := by simp [inR]; omega
    go_enter Try.func14, Try.ntmps14
    go_wp2_with fail
    refine (l01In_any _ _ _ _).mono ?_
    rintro e w' ⟨rfl, rfl⟩
    rw [hin]
    go_wp2_with fail
    refine bodyPost_ret (v := .tuple #[.agg #[.int .i64 0, .slice none 0 0], .int .i64 2]) (by simp [results, Try.results14, go_sem]) rfl ?_
    refine ⟨.slice none 0 0, rfl, OwnI.nil _ _, ?_⟩
    first | exact (Keeps.refl w).alloc _ | exact ((kA).setCell (Nat.le_refl _) _).setCell (Nat.le_refl _) _
--
set_option maxHeartbeats 400000 in
theorem implForkPoset_any (n : Int) (w : World) : Calls Try.prog 15 #[.int .i64 n] w (RetPE w (if 0 ≤ n ∧ n ≤ 7 then forkL n.toNat n.toNat else []) (if 0 ≤ n ∧ n ≤ 7 then 0 else 2)) := by
  have kA := (Keeps.refl w).alloc (.cells #[.int .i64 0, .slice none 0 0] 24)
  by_cases hi : 0 ≤ n ∧ n ≤ 7
  · rw [if_pos hi, if_pos hi]
    have hin : inR n 0 7 = true := by simp [inR]; omega
    obtain ⟨h0, h8⟩ := hi
    obtain ⟨k, rfl⟩ := Int.eq_ofNat_of_zero_le (show 0 ≤ n by omega)
    simp only [Int.toNat_natCast]
    have HB := hid (forkOf_any k (w.alloc (.cells #[.int .i64 0, .slice none 0 0] 24)) (by omega))
    generalize forkL k k = L at *
    go_enter Try.func15, Try.ntmps15
    go_wp2_with fail
    refine (inRange_any _ _ _ _).mono ?_
    rintro e w' ⟨rfl, rfl⟩
    rw [hin]
    go_wp2_with fail
    refine HB.out.mono ?_
    rintro e w2 ⟨v2, rfl, hv2, k2⟩
    obtain ⟨hc2, hf2⟩ := k2.both
    have hB : w.heap.size < (w.alloc (.cells #[.int .i64 0, .slice none 0 0] 24)).heap.size := by simp
    obtain ⟨p2, n2, c2, rfl⟩ : ∃ p n c, v2 = .slice p n c := by obtain ⟨p, c, e, _⟩ := At.of_own hv2; exact ⟨p, _, c, e⟩
    go_wp2_with fail
    refine bodyPost_ret (v := .tuple #[.agg #[.int .i64 L.length, .slice p2 n2 c2], .int .i64 0]) (by simp [results, Try.results15, go_sem, hc2]) rfl ?_
    exact ⟨.slice p2 n2 c2, rfl, ((hv2.setBelow hB _).setBelow hB _).mono (by simp), ((kA.trans k2).setCell (Nat.le_refl _) _).setCell (Nat.le_refl _) _⟩
  · rw [if_neg hi, if_neg hi]
    have hin : inR n 0 7 = false := by simp [inR]; omega
    go_enter Try.func15, Try.ntmps15
    go_wp2_with fail
    refine (inRange_any _ _ _ _).mono ?_
    rintro e w' ⟨rfl, rfl⟩
    rw [hin]
    go_wp2_with fail
    refine bodyPost_ret (v := .tuple #[.agg #[.int .i64 0, .slice none 0 0], .int .i64 2]) (by simp [results, Try.results15, go_sem]) rfl ?_
    refine ⟨.slice none 0 0, rfl, OwnI.nil _ _, ?_⟩
    first | exact (Keeps.refl w).alloc _ | exact ((kA).setCell (Nat.le_refl _) _).setCell (Nat.le_refl _) _
--
set_option maxHeartbeats 1000000 in
theorem lawForkPoset (n : Int) (w : World) : Calls Try.prog 4 #[.int .i64 n] w fun e w' => e = .returned (.bool true) ∧ Keeps w w' := by
  have hs := fun w => specForkPoset_any n w
  have hi := fun w => implForkPoset_any n w
  have hrl : (if 0 ≤ n ∧ n ≤ 7 then forkL n.toNat n.toNat else []).length ≤ 100 := by
    split
    · rename_i h; obtain ⟨h0, h8⟩ := h; obtain ⟨k, rfl⟩ := Int.eq_ofNat_of_zero_le (show 0 ≤ n by omega); simp only [Int.toNat_natCast]; rw [forkL_length]; omega
    · simp
  generalize (if 0 ≤ n ∧ n ≤ 7 then forkL n.toNat n.toNat else []) = r at *
  generalize (if 0 ≤ n ∧ n ≤ 7 then (0 : Int) else 2) = c at *
  have HS := hid hs; clear hs
  have HI := hid hi; clear hi
  go_enter Try.func4, Try.ntmps4
  go_wp2_with fail
  refine (HS.out w).mono ?_; rintro e w1 ⟨u0, rfl, hu1, k1⟩
  obtain ⟨pu, nu, cu, rfl⟩ : ∃ p n c, u0 = .slice p n c := by obtain ⟨p, c, e, _⟩ := At.of_own hu1; exact ⟨p, _, c, e⟩
  have hu0 := hu1.ints (by omega)
  clear hu1
  have kA1 := (Keeps.refl w1).alloc (.cells #[.int .i64 r.length, .slice pu nu cu] 24)
  go_wp2_with fail
  refine (HI.out _).mono ?_; rintro e w2 ⟨g0, rfl, hg2, k2⟩
  obtain ⟨pg, ng, cg, rfl⟩ : ∃ p n c, g0 = .slice p n c := by obtain ⟨p, c, e, _⟩ := At.of_own hg2; exact ⟨p, _, c, e⟩
  obtain ⟨hc2, hf2⟩ := k2.both
  have kA2 := (kA1.trans k2).alloc (.cells #[.int .i64 r.length, .slice pg ng cg] 24)
  have hne1 : some w1.heap.size ≠ (Value.slice pg ng cg).ownBlock := by
    intro e; have h := hg2.len _ e.symm; simp at h; omega
  have hne2 : some w2.heap.size ≠ (Value.slice pg ng cg).ownBlock := by
    intro e; have h := hg2.len _ e.symm; omega
  have kw2 : Keeps w2 (w2.alloc (.cells #[.int .i64 r.length, .slice pg ng cg] 24)) := (Keeps.refl w2).alloc _
  have hs2 := k2.size
  simp at hs2
  have hc20 : w2.cell? ⟨w1.heap.size, 0, none⟩ = some (.int .i64 r.length) := by rw [hc2 _ _ (by simp)]; simp
  have hc21 : w2.cell? ⟨w1.heap.size, 1, none⟩ = some (.slice pu nu cu) := by rw [hc2 _ _ (by simp)]; simp
  have h12 : w1.heap.size < w2.heap.size := by omega
  clear hc2 hf2
  have e20 := (kw2.cell hc20)
  have e21 := (kw2.cell hc21)
  go_wp2_with fail
  refine (eqPoset_any r r _ _ _ ((hg2.keeps kw2).ints (by omega)) ((hu0.keeps kA1).keeps (k2.trans kw2))).mono ?_; rintro e w3 ⟨rfl, k3⟩; rw [decide_eq_true rfl]
  have hg3 := hg2.keeps (kw2.trans k3)
  obtain ⟨hc3, hf3⟩ := k3.both
  have hu3 := (hu0.keeps kA1).keeps (k2.trans (kw2.trans k3))
  go_wp2_with fail
  have hs3 := k3.size
  simp at hs3
  refine (markPoset_any r _ 1 w3 _ hg3 (by omega) (by omega) (by omega) (by simp; omega)).mono ?_; rintro e w4 ⟨rfl, hg4, g4⟩
  obtain ⟨hca, hfa⟩ := grown_cell g4 (b := w1.heap.size) (by omega) hne1
  obtain ⟨hcb, hfb⟩ := grown_cell g4 (b := w2.heap.size) (by omega) hne2
  have kA4 : Keeps w1 w4 := Keeps.grown (kA2.trans k3) g4 (fun k hk => by have h := (hg2.len k hk).1; simp at h; omega)
  have hu4 := hu0.keeps kA4
  have kw3 := kw2.trans k3
  have a40 : w4.cell? ⟨w1.heap.size, 0, none⟩ = some (.int .i64 r.length) := by rw [hca, kw3.cell hc20]
  have a41 : w4.cell? ⟨w1.heap.size, 1, none⟩ = some (.slice pu nu cu) := by rw [hca, kw3.cell hc21]
  have b40 : w4.cell? ⟨w2.heap.size, 0, none⟩ = some (.int .i64 r.length) := by rw [hcb, hc3 _ _ (by simp)]; simp
  have b41 : w4.cell? ⟨w2.heap.size, 1, none⟩ = some (.slice pg ng cg) := by rw [hcb, hc3 _ _ (by simp)]; simp
  have hg4i := hg4.ints (by rw [marksI_length]; omega)
  clear hca hcb hfa hfb hc3 hf3 e20 e21
  have hc20' := kw3.cell hc20
  clear hc20 hc21 hg3 hu3 hg2 hc20' kw3 k3 kw2 k2 kA2 kA1 hne1 hne2 hs2 g4 hu0
  go_wp2_with fail
  refine (heldPoset_any r.length r.length _ 1 w4 hg4i (by omega) (by omega) (by omega)).mono ?_; rintro e w5 ⟨rfl, k5⟩
  have a50 := k5.cell a40
  have a51 := k5.cell a41
  have b50 := k5.cell b40
  have b51 := k5.cell b41
  clear a40 a41 b40 b41
  go_wp2_with fail
  refine (HI.out _).mono ?_; rintro e w6 ⟨h0, rfl, hh6, k6⟩
  obtain ⟨ph, nh, ch, rfl⟩ : ∃ p n c, h0 = .slice p n c := by obtain ⟨p, c, e, _⟩ := At.of_own hh6; exact ⟨p, _, c, e⟩
  have k46 := k5.trans k6
  have a60 := k6.cell a50
  have a61 := k6.cell a51
  have b60 := k6.cell b50
  have b61 := k6.cell b51
  clear a50 a51 b50 b51
  have kw6 : Keeps w6 (w6.alloc (.cells #[.int .i64 r.length, .slice ph nh ch] 24)) := (Keeps.refl w6).alloc _
  have h26 : w2.heap.size < w6.heap.size := World.block_lt_of_cell? _ _ b60
  have h16 : w1.heap.size < w6.heap.size := World.block_lt_of_cell? _ _ a60
  have a6 := kw6.cell a60
  have a6' := kw6.cell a61
  have b6 := kw6.cell b60
  have b6' := kw6.cell b61
  go_wp2_with fail
  refine (eqPoset_any r r _ _ _ ((hh6.keeps kw6).ints (by omega)) (hu4.keeps (k46.trans kw6))).mono ?_; rintro e w7 ⟨rfl, k7⟩; rw [decide_eq_true rfl]
  have a70 := k7.cell a6
  have a71 := k7.cell a6'
  have b70 := k7.cell b6
  have b71 := k7.cell b6'
  have k47 := (k46.trans kw6).trans k7
  clear a6 a6' b6 b6' a60 a61 b60 b61 hh6
  go_wp2_with fail
  refine (heldPoset_any r.length r.length _ 1 w7 (hg4i.keeps k47) (by omega) (by omega) (by omega)).mono ?_; rintro e w8 ⟨rfl, k8⟩
  go_wp2_with fail
  go_ret
  exact ⟨rfl, k1.trans (kA4.trans (k47.trans k8))⟩
end Go.Proofs.Yteeonfdpcfnifaa
