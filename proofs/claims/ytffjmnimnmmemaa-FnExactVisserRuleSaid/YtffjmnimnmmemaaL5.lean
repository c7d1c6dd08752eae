/- What returns a rule and an error; the laws of such functions. -/
import Derived.Test.YtffjmnimnmmemaaL4
namespace Go.Proofs.Ytffjmnimnmmemaa
open Go.RowKit
theorem At.touch {w w' : World} {S : Nat → Prop} {p : Option Addr} {vs : List Value} (h : At w p vs) (k : Touch w w' S) (hS : ∀ b off, p = some ⟨b, off, none⟩ → ¬ S b) : At w' p vs := fun j hj => by
  obtain ⟨b, off, hp, hc⟩ := h j hj
  exact ⟨b, off, hp, by rw [(k.cell (World.block_lt_of_cell? _ _ hc) (hS b off hp)).1]; exact hc⟩
def RetRE (w : World) (xs : List (List Nd)) (c : List Nd) (code : Int) (e : Ending) (w' : World) : Prop :=
  ∃ v u, e = .returned (.tuple #[.agg #[v, u], .int .i64 code]) ∧ OwnR w' w.heap.size v u xs c ∧ Keeps w w'
--
set_option maxRecDepth 20000 in
set_option maxHeartbeats 4000000 in
theorem lawVisserRule (n : Int) (xs : List (List Nd)) (c : List Nd) (code : Int) (hs : ∀ w, Calls Try.prog 17 #[.int .i64 n] w (RetRE w xs c code)) (hi : ∀ w, Calls Try.prog 18 #[.int .i64 n] w (RetRE w xs c code))
    (hxl : xs.length ≤ 1000) (hcl : tot xs + c.length ≤ 1000) (w : World) : Calls Try.prog 4 #[.int .i64 n] w fun e w' => e = .returned (.bool true) ∧ Keeps w w' := by
  have HS := hid hs; clear hs
  have HI := hid hi; clear hi
  go_enter Try.func4, Try.ntmps4
  go_wp2_with fail
  refine (HS.out w).mono ?_; rintro e w1 ⟨v1, u1, rfl, ho1, k1⟩
  have hv1 := ho1.ndsL (by omega) (by omega)
  have hu1 := ho1.nds (by omega)
  clear ho1
  obtain ⟨p1, n1, q1, rfl⟩ := agg_shape hv1
  obtain ⟨p2, n2, q2, rfl⟩ := hu1.shape
  have kA := (Keeps.refl w1).alloc (.cells #[.slice p1 n1 q1, .slice p2 n2 q2] 33)
  go_wp2_with fail
  refine (HI.out _).mono ?_; rintro e w2 ⟨g0, gu0, rfl, hg2, k2⟩
  obtain ⟨p3, n3, q3, rfl⟩ := agg_shape (hg2.ndsL (by omega) (by omega))
  obtain ⟨p4, n4, q4, rfl⟩ := (hg2.nds (by omega)).shape
  obtain ⟨hc2, hf2⟩ := k2.both
  have a2 : w2.cell? ⟨w1.heap.size, 0, none⟩ = some (.slice p1 n1 q1) := by rw [hc2 _ _ (by simp)]; simp
  have a2' : w2.cell? ⟨w1.heap.size, 1, none⟩ = some (.slice p2 n2 q2) := by rw [hc2 _ _ (by simp)]; simp
  have h12 : w1.heap.size < w2.heap.size := World.block_lt_of_cell? _ _ a2
  clear hc2 hf2
  have kB := (Keeps.refl w2).alloc (.cells #[.slice p3 n3 q3, .slice p4 n4 q4] 33)
  have b2 : (w2.alloc (.cells #[.slice p3 n3 q3, .slice p4 n4 q4] 33)).cell? ⟨w2.heap.size, 0, none⟩ = some (.slice p3 n3 q3) := by simp
  have b2' : (w2.alloc (.cells #[.slice p3 n3 q3, .slice p4 n4 q4] 33)).cell? ⟨w2.heap.size, 1, none⟩ = some (.slice p4 n4 q4) := by simp
  have aB := kB.cell a2
  have aB' := kB.cell a2'
  clear a2 a2'
  have kAB := kA.trans (k2.trans kB)
  have hgB := hg2.keeps kB
  have hlt2 : ∀ k, k < w2.heap.size → k < (w2.alloc (.cells #[.slice p3 n3 q3, .slice p4 n4 q4] 33)).heap.size := fun k hk => by simp; omega
  have HE := hid (eqLogicRule_same xs c _ _ _ _ _ (hgB.ndsL (by omega) (by omega)) (hgB.nds (by omega)) (hv1.keeps kAB) (hu1.keeps kAB))
  go_wp2_with fail
  refine HE.out.mono ?_; rintro e w3 ⟨rfl, k3⟩
  clear HE
  have a3 := k3.cell aB
  have a3' := k3.cell aB'
  have b3 := k3.cell b2
  have b3' := k3.cell b2'
  clear aB aB' b2 b2'
  obtain ⟨vs, ho2, hr2, hap, hoff⟩ := hg2
  obtain ⟨p', cap', e', hcap, hmx, hat2⟩ := At.of_own ho2
  cases e'
  have kB3 := kB.trans k3
  have kA3 := kAB.trans k3
  have hnb : ∀ k, blk (.slice p4 n4 q4 :: vs) k → w1.heap.size + 1 ≤ k ∧ k < w2.heap.size := fun k hk => by have := hr2.lt hk; simp at this; omega
  have HM := hid (markLogicRule_any xs c vs _ _ _ 1 w3 _ (hat2.keeps kB3) (hr2.keeps kB3) hap hoff (by omega) (by omega) (by omega) (by omega))
  have hat3 := hat2.keeps kB3
  clear hgB ho2 hr2 hat2 hlt2 kB kAB
  go_wp2_with fail
  refine HM.out.mono ?_; rintro e w4 ⟨rfl, hr4, t4⟩
  clear HM
  have hA : ¬ blk (.slice p4 n4 q4 :: vs) w1.heap.size := fun h => by have := hnb _ h; omega
  have hB : ¬ blk (.slice p4 n4 q4 :: vs) w2.heap.size := fun h => by have := hnb _ h; omega
  have tA := (t4.cell (World.block_lt_of_cell? _ _ a3) hA).1
  have tB := (t4.cell (World.block_lt_of_cell? _ _ b3) hB).1
  have a4 : w4.cell? ⟨w1.heap.size, 0, none⟩ = some (.slice p1 n1 q1) := (tA 0).trans a3
  have a4' : w4.cell? ⟨w1.heap.size, 1, none⟩ = some (.slice p2 n2 q2) := (tA 1).trans a3'
  have b4 : w4.cell? ⟨w2.heap.size, 0, none⟩ = some (.slice p3 xs.length q3) := (tB 0).trans b3
  have b4' : w4.cell? ⟨w2.heap.size, 1, none⟩ = some (.slice p4 n4 q4) := (tB 1).trans b3'
  clear a3 a3' b3 b3' tA tB hA hB
  have kA4 : Keeps w1 w4 := kA3.touch t4 (fun k hk => by have := (hnb k hk).1; omega)
  have hat4 := hat3.touch t4 (fun b off e hb => hoff.not_blk (k := b) (by subst e; rfl) hb)
  have hG4 : NdsL w4 (.slice p3 xs.length q3) (marksL xs 1) := by
    have := rows_ndsL hat4 hr4.tail (by rw [marksL_length]; exact hcap) hmx (by rw [marksL_length]; omega) (by rw [tot_marks]; omega)
    rwa [marksL_length] at this
  have hGU4 := hr4.head.nds (by rw [marksN_length]; omega)
  have hv4 := hv1.keeps kA4
  have hu4 := hu1.keeps kA4
  clear hat3 hat4 hr4 t4 hap hoff kA3 hv1 hu1 kA
  have HD := hid (heldLogicRule_any xs c.length _ _ 1 w4 hG4 hGU4 (by omega) (by omega) (by omega))
  go_wp2_with fail
  refine HD.out.mono ?_; rintro e w5 ⟨rfl, k5⟩
  clear HD
  have a5 := k5.cell a4
  have a5' := k5.cell a4'
  have b5 := k5.cell b4
  have b5' := k5.cell b4'
  clear a4 a4' b4 b4'
  go_wp2_with fail
  refine (HI.out _).mono ?_; rintro e w6 ⟨h0, hu0, rfl, hh6, k6⟩
  obtain ⟨p5, n5, q5, rfl⟩ := agg_shape (hh6.ndsL (by omega) (by omega))
  obtain ⟨p6, n6, q6, rfl⟩ := (hh6.nds (by omega)).shape
  have kC := (Keeps.refl w6).alloc (.cells #[.slice p5 n5 q5, .slice p6 n6 q6] 33)
  have a6 := kC.cell (k6.cell a5)
  have a6' := kC.cell (k6.cell a5')
  have b6 := kC.cell (k6.cell b5)
  have b6' := kC.cell (k6.cell b5')
  have h16 : w1.heap.size < w6.heap.size := World.block_lt_of_cell? _ _ (k6.cell a5)
  have h26 : w2.heap.size < w6.heap.size := World.block_lt_of_cell? _ _ (k6.cell b5)
  clear a5 a5' b5 b5'
  have k46 := (k5.trans k6).trans kC
  have hh6' := hh6.keeps kC
  have HE2 := hid (eqLogicRule_same xs c _ _ _ _ _ (hh6'.ndsL (by omega) (by omega)) (hh6'.nds (by omega)) (hv4.keeps k46) (hu4.keeps k46))
  clear hh6 hh6'
  go_wp2_with fail
  refine HE2.out.mono ?_; rintro e w7 ⟨rfl, k7⟩
  clear HE2
  have b7 := k7.cell b6
  have b7' := k7.cell b6'
  clear a6 a6' b6 b6'
  have k47 := k46.trans k7
  have HD2 := hid (heldLogicRule_any xs c.length _ _ 1 w7 (hG4.keeps k47) (hGU4.keeps k47) (by omega) (by omega) (by omega))
  go_wp2_with fail
  refine HD2.out.mono ?_; rintro e w8 ⟨rfl, k8⟩
  clear HD2
  go_wp2_with fail
  go_ret
  exact ⟨rfl, k1.trans (kA4.trans (k47.trans k8))⟩
end Go.Proofs.Ytffjmnimnmmemaa
