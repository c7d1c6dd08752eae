/- Walks: the posets on both sides, and their laws. -/
import Derived.Test.YtolepbiepebclaaQ2
namespace Go.Proofs.Ytolepbiepebclaa
open Go.RowKit

/-- a poset and an error come back -/
def RetPE (w : World) (a : List Int) (c : Int) (e : Ending) (w' : World) : Prop := ∃ v, e = .returned (.tuple #[.agg #[.int .i64 a.length, v], .int .i64 c]) ∧ OwnI w' w.heap.size v a ∧ Keeps w w'
--
set_option maxHeartbeats 400000 in
theorem eqPoset_any (a b : List Int) (va vb : Value) (w : World) (hva : Ints w va a) (hvb : Ints w vb b) :
    Calls Try.prog 11 #[.agg #[.int .i64 a.length, va], .agg #[.int .i64 b.length, vb]] w fun e w' => e = .returned (.bool (decide (a = b))) ∧ Keeps w w' := by
  obtain ⟨pa, na, ca, rfl⟩ : ∃ p n c, va = .slice p n c := by obtain ⟨p, c, e, _⟩ := hva; exact ⟨p, _, c, e⟩
  obtain ⟨pb, nb, cb, rfl⟩ : ∃ p n c, vb = .slice p n c := by obtain ⟨p, c, e, _⟩ := hvb; exact ⟨p, _, c, e⟩
  have k1 := ((Keeps.refl w).alloc (.cells #[.int .i64 a.length, .slice pa na ca] 32)).alloc (.cells #[.int .i64 b.length, .slice pb nb cb] 32)
  by_cases hl : a.length = b.length
  · have hl' : ((a.length : Int) != (b.length : Int)) = false := by simp [hl]
    have HL := hid hl; clear hl
    have HE := hid (eqInt64S_any a b _ _ _ (hva.keeps k1) (hvb.keeps k1))
    by_cases he : a = b
    · have hd : decide (a = b) = true := decide_eq_true he
      have HD := hid hd; clear hd
      clear he
      go_enter Try.func11, Try.ntmps11
      go_wp2_with fail
      refine HE.out.mono ?_
      rintro e w2 ⟨rfl, k2⟩
      rw [HD.out]
      go_wp2_with fail
      go_ret
      exact ⟨ret_bool HD.out.symm, k1.trans k2⟩
    · have hd : decide (a = b) = false := decide_eq_false he
      have HD := hid hd; clear hd
      clear he
      go_enter Try.func11, Try.ntmps11
      go_wp2_with fail
      refine HE.out.mono ?_
      rintro e w2 ⟨rfl, k2⟩
      rw [HD.out]
      go_wp2_with fail
      go_ret
      exact ⟨ret_bool HD.out.symm, k1.trans k2⟩
  · have hl' : ((a.length : Int) != (b.length : Int)) = true := by simp; omega
    have hd : decide (a = b) = false := decide_eq_false (by rintro rfl; exact hl rfl)
    have HD := hid hd; clear hd
    clear hl
    go_enter Try.func11, Try.ntmps11
    go_wp2_with fail
    go_ret
    exact ⟨ret_bool HD.out.symm, k1⟩
--
theorem grown_pre {w w1 w2 : World} {row : Option Nat} (h : Keeps w w1) (k : w1.grownBy w2 row) : w.grownBy w2 row :=
  ⟨k.os.trans h.os, k.tape.trans h.tape, k.output.trans h.output, Nat.le_trans h.size k.size, fun i hi hr => (k.block i (Nat.lt_of_lt_of_le hi h.size) hr).trans (h.block hi)⟩
theorem grown_cell {w w' : World} {p : Option Addr} {n c : Nat} (h : w.grownBy w' (Value.slice p n c).ownBlock) {b : Nat} (hb : b < w.heap.size) (hne : some b ≠ (Value.slice p n c).ownBlock) :
    (∀ o, w'.cell? ⟨b, o, none⟩ = w.cell? ⟨b, o, none⟩) ∧ (∀ o, w'.frozen? ⟨b, o, none⟩ = w.frozen? ⟨b, o, none⟩) := by
  have hk := h.block b hb hne
  refine ⟨fun o => World.cell?_of_block (a := ⟨b, o, none⟩) hk, fun o => ?_⟩
  exact World.frozen?_of_block hk
set_option maxHeartbeats 400000 in
theorem markPoset_any (a : List Int) (v : Value) (k0 : Int) (w : World) (B : Nat) (hv : OwnI w B v a) (hl : a.length ≤ 2147483648) (hk0 : 0 ≤ k0) (hk1 : k0 ≤ 4294967296) (hB : B ≤ w.heap.size) :
    Calls Try.prog 13 #[.agg #[.int .i64 a.length, v], .int .i64 k0] w fun e w' => e = .returned (.int .i64 (k0 + a.length)) ∧ OwnI w' B v (marksI a.length k0) ∧ w.grownBy w' v.ownBlock := by
  obtain ⟨p, c, rfl, _⟩ := At.of_own hv
  · have k1 := (Keeps.refl w).alloc (.cells #[.int .i64 a.length, .slice p a.length c] 32)
    have HM := hid (markInt64S_any a _ k0 _ B (hv.keeps k1) hl hk0 hk1)
    have hlen := fun k hk => (hv.len k hk).1
    go_enter Try.func13, Try.ntmps13
    go_wp2_with fail
    refine HM.out.mono ?_
    rintro e w2 ⟨rfl, hv2, g2⟩
    go_wp2_with fail
    go_ret
    exact ⟨rfl, hv2, grown_pre k1 g2⟩
--
set_option maxHeartbeats 400000 in
theorem heldPoset_any (m n : Nat) (v : Value) (k0 : Int) (w : World) (hv : Ints w v (marksI n k0)) (hk0 : 0 ≤ k0) (hk1 : k0 ≤ 4294967296) (hn : n ≤ 4294967296) :
    Calls Try.prog 21 #[.agg #[.int .i64 m, v], .int .i64 k0] w fun e w' => e = .returned (.int .i64 (k0 + n)) ∧ Keeps w w' := by
  obtain ⟨p, nn, c, rfl⟩ : ∃ p n c, v = .slice p n c := by obtain ⟨p, c, e, _⟩ := hv; exact ⟨p, _, c, e⟩
  have k1 := (Keeps.refl w).alloc (.cells #[.int .i64 m, .slice p nn c] 32)
  have HM := hid (heldInt64S_any n _ k0 _ (hv.keeps k1) hk0 hk1)
  go_enter Try.func21, Try.ntmps21
  go_wp2_with fail
  refine HM.out.mono ?_
  rintro e w' ⟨rfl, rfl⟩
  go_wp2_with fail
  go_ret
  exact ⟨rfl, k1⟩
end Go.Proofs.Ytolepbiepebclaa
