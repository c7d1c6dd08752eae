/- The model of a valuation: both sides. -/
import Derived.Test.YtolepbiepebclaaQH
import Derived.Test.YtolepbiepebclaaLN
namespace Go.Proofs.Ytolepbiepebclaa
open Go.RowKit
/-- a fresh model and an error come back -/
def RetVM (w : World) (n : Int) (a b : List Int) (c : Int) (e : Ending) (w' : World) : Prop :=
  ∃ va vb, e = .returned (.tuple #[.agg #[.int .i64 n, va, vb], .int .i64 c]) ∧ OwnM w' w.heap.size va vb a b ∧ Keeps w w'
theorem OwnM.nil (w : World) (B : Nat) : OwnM w B (.slice none 0 0) (.slice none 0 0) [] [] := ⟨OwnI.nil _ _, OwnI.nil _ _, fun k h => by cases h⟩
--
set_option maxRecDepth 20000 in
theorem l05Make_any (a : List Int) (v : Value) (w : World) (hv : Ints w v a) : Calls Try.prog 25 #[v] w (RetP w a) := by
  have hv0 := hv
  obtain ⟨p, cap, rfl, hle, hmx, hr, hlen⟩ := hv
  unfold maxLen at hmx
  have k1 := (Keeps.refl w).alloc (.cells #[.int .i64 0, .slice none 0 0] 27)
  go_enter Try.func25, Try.ntmps25
  go_wp2_with fail
  refine (l01Own_any a _ _ (hv0.keeps k1)).mono ?_
  rintro e w2 ⟨v2, rfl, hv2, k2⟩
  obtain ⟨p2, c2, rfl, _⟩ := hv2.ints hlen
  obtain ⟨hc2, hf2⟩ := k2.both
  go_wp2_with fail
  refine bodyPost_ret (v := .agg #[.int .i64 a.length, .slice p2 a.length c2]) (by simp [results, Try.results25, go_sem, hc2]) rfl ?_
  have hlt : w.heap.size < (w.alloc (.cells #[.int .i64 0, .slice none 0 0] 27)).heap.size := by simp
  exact ⟨_, rfl, ((hv2.setBelow hlt _).setBelow hlt _).mono (by simp), ((k1.trans k2).setCell (Nat.le_refl _) _).setCell (Nat.le_refl _) _⟩
--
set_option maxRecDepth 20000 in
set_option maxHeartbeats 2000000 in
theorem implBoxValues_any (n : Int) (a vs : List Int) (v u : Value) (w : World) (hv : Ints w v a) (hu : Ints w u vs) :
    Calls Try.prog 9 #[.agg #[.int .i64 n, v], u] w (RetVM w (if isVal n a vs then a.length else 0) (if isVal n a vs then a else []) (if isVal n a vs then vs else []) (if isVal n a vs then 0 else 1)) := by
  have kA := ((Keeps.refl w).alloc (.cells #[.int .i64 n, v] 32)).alloc (.cells #[.int .i64 0, .slice none 0 0, .slice none 0 0] 29)
  have HP := hid (fun w1 (k : Keeps w w1) => isValuation_any n a vs v u w1 (hv.keeps k) (hu.keeps k))
  obtain ⟨c0, c1⟩ := BoxF.made w n v 32
  have la : a.length ≤ 2147483648 := by obtain ⟨_, _, _, _, _, _, h⟩ := hv; exact h
  have lu : vs.length ≤ 2147483648 := by obtain ⟨_, _, _, _, _, _, h⟩ := hu; exact h
  cases h1 : isVal n a vs
  · rw [h1] at HP
    simp only [Bool.false_eq_true, if_false]
    clear h1
    obtain ⟨p, cap, rfl, _⟩ := hv
    obtain ⟨q, cap2, rfl, _⟩ := hu
    go_enter Try.func9, Try.ntmps9
    go_wp2_with fail
    refine (HP.out _ kA).mono ?_; rintro e w2 ⟨rfl, k2⟩
    have e0 : w2.cell? ⟨w.heap.size + 1, 0, none⟩ = some (.int .i64 0) := k2.cell (by simp)
    have e1 : w2.cell? ⟨w.heap.size + 1, 1, none⟩ = some (.slice none 0 0) := k2.cell (by simp)
    have e2 : w2.cell? ⟨w.heap.size + 1, 2, none⟩ = some (.slice none 0 0) := k2.cell (by simp)
    obtain ⟨hc2, hf2⟩ := k2.both
    go_wp2_with fail
    refine bodyPost_ret (v := .tuple #[.agg #[.int .i64 0, .slice none 0 0, .slice none 0 0], .int .i64 1]) (by simp [results, Try.results9, go_sem, e0, e1, e2]) rfl ?_
    exact ⟨_, _, rfl, OwnM.nil _ _, (((kA.trans k2).setCell (by simp) _).setCell (by simp) _).setCell (by simp) _⟩
  · rw [h1] at HP
    simp only [if_true]
    clear h1
    have hv0 := hv
    have hu0 := hu
    obtain ⟨p, cap, rfl, _, hmx, _⟩ := hv
    obtain ⟨q, cap2, rfl, _, hmx2, _⟩ := hu
    unfold maxLen at hmx hmx2
    have HV0 := hid hv0; clear hv0
    have HU0 := hid hu0; clear hu0
    go_enter Try.func9, Try.ntmps9
    go_wp2_with fail
    refine (HP.out _ kA).mono ?_; rintro e w2 ⟨rfl, k2⟩
    have kB := kA.trans k2
    have e0 : w2.cell? ⟨w.heap.size + 1, 0, none⟩ = some (.int .i64 0) := k2.cell (by simp)
    have e1 : w2.cell? ⟨w.heap.size + 1, 1, none⟩ = some (.slice none 0 0) := k2.cell (by simp)
    have e2 : w2.cell? ⟨w.heap.size + 1, 2, none⟩ = some (.slice none 0 0) := k2.cell (by simp)
    have z1 : w2.cell? ⟨w.heap.size, 1, none⟩ = some (.slice p a.length cap) := k2.cell (by simp)
    obtain ⟨hc2, hf2⟩ := k2.both
    have hg : w.heap.size + 1 < w2.heap.size := World.block_lt_of_cell? _ _ e0
    have hz2 := kB.size
    go_wp2_with fail
    refine (cloneI_any a _ _ (HV0.out.keeps kB)).mono ?_; rintro e w3 ⟨va, rfl, hva, k3⟩
    obtain ⟨pa, ma, qa, rfl⟩ := hva.shape0
    go_wp2_with fail
    refine (frameOf_any a _ _ (hva.ints la)).mono ?_; rintro e w4 ⟨rfl, k4⟩
    go_wp2_with fail
    refine (cloneI_any vs _ _ (HU0.out.keeps (kB.trans (k3.trans k4)))).mono ?_; rintro e w5 ⟨vb, rfl, hvb, k5⟩
    have hsep : Sep (.slice pa ma qa) vb := Sep.of (hva.keeps k4) hvb (Nat.le_refl _)
    obtain ⟨pb, mb, qb, rfl⟩ := hvb.shape0
    have k45 := k3.trans (k4.trans k5)
    replace e0 := k45.cell e0
    replace e1 := k45.cell e1
    replace e2 := k45.cell e2
    have hva5 := hva.keeps (k4.trans k5)
    have hs3 := k3.size
    have hs4 := k4.size
    obtain ⟨hc5, hf5⟩ := k45.both
    clear hva z1
    go_wp2_with fail
    refine bodyPost_ret (v := .tuple #[.agg #[.int .i64 a.length, .slice pa ma qa, .slice pb mb qb], .int .i64 0]) (by simp [results, Try.results9, go_sem, e0, e1, e2]) rfl ?_
    exact ⟨_, _, rfl, ⟨(((hva5.setBelow hg _).setBelow hg _).setBelow hg _).mono hz2, (((hvb.setBelow (by omega) _).setBelow (by omega) _).setBelow (by omega) _).mono (by omega), hsep⟩, (((kB.trans k45).setCell (by simp) _).setCell (by simp) _).setCell (by simp) _⟩
--
set_option maxRecDepth 20000 in
set_option maxHeartbeats 2000000 in
theorem specBoxValues_any (n : Int) (a vs : List Int) (v u : Value) (w : World) (hv : Ints w v a) (hu : Ints w u vs) :
    Calls Try.prog 6 #[.agg #[.int .i64 n, v], u] w (RetVM w (if isVal n a vs then a.length else 0) (if isVal n a vs then a else []) (if isVal n a vs then vs else []) (if isVal n a vs then 0 else 1)) := by
  have kA := ((Keeps.refl w).alloc (.cells #[.int .i64 n, v] 32)).alloc (.cells #[.int .i64 0, .slice none 0 0, .slice none 0 0] 29)
  have HP := hid (fun w1 (k : Keeps w w1) => specIsValuation_any n a vs v u w1 (hv.keeps k) (hu.keeps k))
  obtain ⟨c0, c1⟩ := BoxF.made w n v 32
  have la : a.length ≤ 2147483648 := by obtain ⟨_, _, _, _, _, _, h⟩ := hv; exact h
  have lu : vs.length ≤ 2147483648 := by obtain ⟨_, _, _, _, _, _, h⟩ := hu; exact h
  cases h1 : isVal n a vs
  · rw [h1] at HP
    simp only [Bool.false_eq_true, if_false]
    clear h1
    obtain ⟨p, cap, rfl, _⟩ := hv
    obtain ⟨q, cap2, rfl, _⟩ := hu
    go_enter Try.func6, Try.ntmps6
    go_wp2_with fail
    refine (HP.out _ kA).mono ?_; rintro e w2 ⟨rfl, k2⟩
    have e0 : w2.cell? ⟨w.heap.size + 1, 0, none⟩ = some (.int .i64 0) := k2.cell (by simp)
    have e1 : w2.cell? ⟨w.heap.size + 1, 1, none⟩ = some (.slice none 0 0) := k2.cell (by simp)
    have e2 : w2.cell? ⟨w.heap.size + 1, 2, none⟩ = some (.slice none 0 0) := k2.cell (by simp)
    obtain ⟨hc2, hf2⟩ := k2.both
    go_wp2_with fail
    refine bodyPost_ret (v := .tuple #[.agg #[.int .i64 0, .slice none 0 0, .slice none 0 0], .int .i64 1]) (by simp [results, Try.results6, go_sem, e0, e1, e2]) rfl ?_
    exact ⟨_, _, rfl, OwnM.nil _ _, (((kA.trans k2).setCell (by simp) _).setCell (by simp) _).setCell (by simp) _⟩
  · rw [h1] at HP
    simp only [if_true]
    clear h1
    have hv0 := hv
    have hu0 := hu
    obtain ⟨p, cap, rfl, _, hmx, _⟩ := hv
    obtain ⟨q, cap2, rfl, _, hmx2, _⟩ := hu
    unfold maxLen at hmx hmx2
    have HV0 := hid hv0; clear hv0
    have HU0 := hid hu0; clear hu0
    go_enter Try.func6, Try.ntmps6
    go_wp2_with fail
    refine (HP.out _ kA).mono ?_; rintro e w2 ⟨rfl, k2⟩
    have kB := kA.trans k2
    have e0 : w2.cell? ⟨w.heap.size + 1, 0, none⟩ = some (.int .i64 0) := k2.cell (by simp)
    have e1 : w2.cell? ⟨w.heap.size + 1, 1, none⟩ = some (.slice none 0 0) := k2.cell (by simp)
    have e2 : w2.cell? ⟨w.heap.size + 1, 2, none⟩ = some (.slice none 0 0) := k2.cell (by simp)
    have z1 : w2.cell? ⟨w.heap.size, 1, none⟩ = some (.slice p a.length cap) := k2.cell (by simp)
    obtain ⟨hc2, hf2⟩ := k2.both
    have hg : w.heap.size + 1 < w2.heap.size := World.block_lt_of_cell? _ _ e0
    have hz2 := kB.size
    go_wp2_with fail
    refine (l05Make_any a _ _ (HV0.out.keeps kB)).mono ?_; rintro e w3 ⟨va, rfl, hva, k3⟩
    obtain ⟨pa, ma, qa, rfl⟩ := hva.shape0
    go_wp2_with fail
    refine (l01Own_any vs _ _ (HU0.out.keeps (kB.trans k3))).mono ?_; rintro e w5 ⟨vb, rfl, hvb, k5⟩
    have hsep : Sep (.slice pa ma qa) vb := Sep.of hva hvb (Nat.le_refl _)
    obtain ⟨pb, mb, qb, rfl⟩ := hvb.shape0
    have k45 := k3.trans k5
    replace e0 := k45.cell e0
    replace e1 := k45.cell e1
    replace e2 := k45.cell e2
    have hva5 := hva.keeps k5
    have hs3 := k3.size
    obtain ⟨hc5, hf5⟩ := k45.both
    clear hva z1
    go_wp2_with fail
    refine bodyPost_ret (v := .tuple #[.agg #[.int .i64 a.length, .slice pa ma qa, .slice pb mb qb], .int .i64 0]) (by simp [results, Try.results6, go_sem, e0, e1, e2]) rfl ?_
    exact ⟨_, _, rfl, ⟨(((hva5.setBelow hg _).setBelow hg _).setBelow hg _).mono hz2, (((hvb.setBelow (by omega) _).setBelow (by omega) _).setBelow (by omega) _).mono (by omega), hsep⟩, (((kB.trans k45).setCell (by simp) _).setCell (by simp) _).setCell (by simp) _⟩
end Go.Proofs.Ytolepbiepebclaa
