/- Medvedev's posets' law. -/
import Derived.Test.YteeonfdpcfnifaaQ7
namespace Go.Proofs.Yteeonfdpcfnifaa
open Go.RowKit
--
set_option maxHeartbeats 1000000 in
theorem lawMedvedevPoset (n : Int) (w : World) : Calls Try.prog 5 #[.int .i64 n] w fun e w' => e = .returned (.bool true) ∧ Keeps w w' := by
  have hs := fun w => specMedvedevPoset_any n w
  have hi := fun w => implMedvedevPoset_any n w
  have hrl : (if 1 ≤ n ∧ n ≤ 3 then medvL (2 ^ n.toNat - 1) else []).length ≤ 100 := by
    split
    · rename_i h; obtain ⟨h0, h8⟩ := h; obtain ⟨k, rfl⟩ := Int.eq_ofNat_of_zero_le (show 0 ≤ n by omega); simp only [Int.toNat_natCast]; rw [medvL_length]; obtain ⟨M, hM7, hM, _⟩ := pow_small k (by omega) (by omega); omega
    · simp
  generalize (if 1 ≤ n ∧ n ≤ 3 then medvL (2 ^ n.toNat - 1) else []) = r at *
  generalize (if 1 ≤ n ∧ n ≤ 3 then (0 : Int) else 2) = c at *
  have HS := hid hs; clear hs
  have HI := hid hi; clear hi
  go_enter Try.func5, Try.ntmps5
  go_wp2_with fail
  refine (HS.out w).mono ?_; rintro e w1 ⟨u0, rfl, hu1, k1⟩
  obtain ⟨pu, nu, cu, rfl⟩ : ∃ p n c, u0 = .slice p n c := by obtain ⟨p, c, e, _⟩ := At.of_own hu1; exact ⟨p, _, c, e⟩
  have hu0 := hu1.ints (by omega)
  clear hu1
  have kA1 := (Keeps.refl w1).alloc (.cells #[.int .i64 r.length, .slice pu nu cu] 24)
  go_wp2_with fail
  refine (HI.out _).mono ?_; rintro e w2 ⟨g0, rfl, hg2, k2⟩
  obtain ⟨pg, ng, cg, rfl⟩ : ∃ p n c, g0 = .slice p n c := by obtain ⟨p, c, e, _⟩ := At.of_own hg2; exact ⟨p, _, c, e⟩
  obtain ⟨hc2, hf2⟩ := k2.both
  have kA2 := (kA1.trans k2).alloc (.cells #[.int .i64 r.length, .slice pg ng cg] 24)
  have hne1 : some w1.heap.size ≠ (Value.slice pg ng cg).ownBlock := by
    intro e; have h := hg2.len _ e.symm; simp at h; omega
  have hne2 : some w2.heap.size ≠ (Value.slice pg ng cg).ownBlock := by
    intro e; have h := hg2.len _ e.symm; omega
  have kw2 : Keeps w2 (w2.alloc (.cells #[.int .i64 r.length, .slice pg ng cg] 24)) := (Keeps.refl w2).alloc _
  have hs2 := k2.size
  simp at hs2
  have hc20 : w2.cell? ⟨w1.heap.size, 0, none⟩ = some (.int .i64 r.length) := by rw [hc2 _ _ (by simp)]; simp
  have hc21 : w2.cell? ⟨w1.heap.size, 1, none⟩ = some (.slice pu nu cu) := by rw [hc2 _ _ (by simp)]; simp
  have h12 : w1.heap.size < w2.heap.size := by omega
  clear hc2 hf2
  have e20 := (kw2.cell hc20)
  have e21 := (kw2.cell hc21)
  go_wp2_with fail
  refine (eqPoset_any r r _ _ _ ((hg2.keeps kw2).ints (by omega)) ((hu0.keeps kA1).keeps (k2.trans kw2))).mono ?_; rintro e w3 ⟨rfl, k3⟩; rw [decide_eq_true rfl]
  have hg3 := hg2.keeps (kw2.trans k3)
  obtain ⟨hc3, hf3⟩ := k3.both
  have hu3 := (hu0.keeps kA1).keeps (k2.trans (kw2.trans k3))
  go_wp2_with fail
  have hs3 := k3.size
  simp at hs3
  refine (markPoset_any r _ 1 w3 _ hg3 (by omega) (by omega) (by omega) (by simp; omega)).mono ?_; rintro e w4 ⟨rfl, hg4, g4⟩
  obtain ⟨hca, hfa⟩ := grown_cell g4 (b := w1.heap.size) (by omega) hne1
  obtain ⟨hcb, hfb⟩ := grown_cell g4 (b := w2.heap.size) (by omega) hne2
  have kA4 : Keeps w1 w4 := Keeps.grown (kA2.trans k3) g4 (fun k hk => by have h := (hg2.len k hk).1; simp at h; omega)
  have hu4 := hu0.keeps kA4
  have kw3 := kw2.trans k3
  have a40 : w4.cell? ⟨w1.heap.size, 0, none⟩ = some (.int .i64 r.length) := by rw [hca, kw3.cell hc20]
  have a41 : w4.cell? ⟨w1.heap.size, 1, none⟩ = some (.slice pu nu cu) := by rw [hca, kw3.cell hc21]
  have b40 : w4.cell? ⟨w2.heap.size, 0, none⟩ = some (.int .i64 r.length) := by rw [hcb, hc3 _ _ (by simp)]; simp
  have b41 : w4.cell? ⟨w2.heap.size, 1, none⟩ = some (.slice pg ng cg) := by rw [hcb, hc3 _ _ (by simp)]; simp
  have hg4i := hg4.ints (by rw [marksI_length]; omega)
  clear hca hcb hfa hfb hc3 hf3 e20 e21
  have hc20' := kw3.cell hc20
  clear hc20 hc21 hg3 hu3 hg2 hc20' kw3 k3 kw2 k2 kA2 kA1 hne1 hne2 hs2 g4 hu0
  go_wp2_with fail
  refine (heldPoset_any r.length r.length _ 1 w4 hg4i (by omega) (by omega) (by omega)).mono ?_; rintro e w5 ⟨rfl, k5⟩
  have a50 := k5.cell a40
  have a51 := k5.cell a41
  have b50 := k5.cell b40
  have b51 := k5.cell b41
  clear a40 a41 b40 b41
  go_wp2_with fail
  refine (HI.out _).mono ?_; rintro e w6 ⟨h0, rfl, hh6, k6⟩
  obtain ⟨ph, nh, ch, rfl⟩ : ∃ p n c, h0 = .slice p n c := by obtain ⟨p, c, e, _⟩ := At.of_own hh6; exact ⟨p, _, c, e⟩
  have k46 := k5.trans k6
  have a60 := k6.cell a50
  have a61 := k6.cell a51
  have b60 := k6.cell b50
  have b61 := k6.cell b51
  clear a50 a51 b50 b51
  have kw6 : Keeps w6 (w6.alloc (.cells #[.int .i64 r.length, .slice ph nh ch] 24)) := (Keeps.refl w6).alloc _
  have h26 : w2.heap.size < w6.heap.size := World.block_lt_of_cell? _ _ b60
  have h16 : w1.heap.size < w6.heap.size := World.block_lt_of_cell? _ _ a60
  have a6 := kw6.cell a60
  have a6' := kw6.cell a61
  have b6 := kw6.cell b60
  have b6' := kw6.cell b61
  go_wp2_with fail
  refine (eqPoset_any r r _ _ _ ((hh6.keeps kw6).ints (by omega)) (hu4.keeps (k46.trans kw6))).mono ?_; rintro e w7 ⟨rfl, k7⟩; rw [decide_eq_true rfl]
  have a70 := k7.cell a6
  have a71 := k7.cell a6'
  have b70 := k7.cell b6
  have b71 := k7.cell b6'
  have k47 := (k46.trans kw6).trans k7
  clear a6 a6' b6 b6' a60 a61 b60 b61 hh6
  go_wp2_with fail
  refine (heldPoset_any r.length r.length _ 1 w7 (hg4i.keeps k47) (by omega) (by omega) (by omega)).mono ?_; rintro e w8 ⟨rfl, k8⟩
  go_wp2_with fail
  go_ret
  exact ⟨rfl, k1.trans (kA4.trans (k47.trans k8))⟩
end Go.Proofs.Yteeonfdpcfnifaa
