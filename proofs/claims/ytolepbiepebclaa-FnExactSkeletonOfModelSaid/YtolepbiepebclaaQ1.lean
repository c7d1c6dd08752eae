/- Walks: masks and posets. -/
import Derived.Test.YtolepbiepebclaaW1
namespace Go.Proofs.Ytolepbiepebclaa
open Go.RowKit

--
theorem wrap_pow : ∀ k : Nat, k ≤ 62 → wrap64 (2 ^ k) = 2 ^ k := by
  intro k hk
  have : ∀ j : Fin 63, wrap64 (2 ^ (j : Nat)) = 2 ^ (j : Nat) := by decide +kernel
  exact this ⟨k, by omega⟩
theorem l01One_any (i : Int) (w : World) (h0 : 0 ≤ i) (h1 : i ≤ 62) : Calls Try.prog 63 #[.int .i64 i] w fun e w' => e = .returned (.int .i64 (2 ^ i.toNat)) ∧ w = w' := by
  go_enter Try.func63, Try.ntmps63
  go_wp2
  go_ret
  refine ⟨ret_int ?_, rfl⟩
  exact wrap_pow _ (by omega)
--
theorem l01Full_any (i : Int) (w : World) (h0 : 0 ≤ i) (h1 : i ≤ 62) : Calls Try.prog 96 #[.int .i64 i] w fun e w' => e = .returned (.int .i64 (2 ^ i.toNat - 1)) ∧ w = w' := by
  have hp : (1 : Int) ≤ 2 ^ i.toNat := by
    have : ∀ j : Fin 63, (1 : Int) ≤ (2 : Int) ^ (j : Nat) := by decide +kernel
    exact this ⟨i.toNat, by omega⟩
  have hm : (2 : Int) ^ i.toNat ≤ 4611686018427387904 := by
    have : ∀ j : Fin 63, (2 : Int) ^ (j : Nat) ≤ 4611686018427387904 := by decide +kernel
    exact this ⟨i.toNat, by omega⟩
  generalize hP : (2 : Int) ^ i.toNat = P at *
  have HP := hid hP; clear hP
  go_enter Try.func96, Try.ntmps96
  go_wp2_with fail
  refine (l01One_any i _ h0 h1).mono ?_
  rintro e w' ⟨rfl, rfl⟩
  rw [HP.out]
  go_wp2_with fail
  go_ret
  exact ⟨rfl, rfl⟩
/-- fresh numbers come back -/
def RetI (w : World) (a : List Int) (e : Ending) (w' : World) : Prop := ∃ v, e = .returned v ∧ OwnI w' w.heap.size v a ∧ Keeps w w'
--
theorem l01Own_any (a : List Int) (v : Value) (w : World) (hv : Ints w v a) : Calls Try.prog 26 #[v] w (RetI w a) := by
  have hlen : a.length ≤ 2147483648 := by obtain ⟨_, _, _, _, _, _, h⟩ := hv; exact h
  have h1 := OwnI.empty w
  have k1 := (Keeps.refl w).alloc (.cells #[] 2)
  have hv1 := hv.keeps k1
  go_enter Try.func26, Try.ntmps26
  go_wp2_with (at_builtin; refine appI rfl _ _ rfl w.heap.size _ [] rfl h1 _ a rfl hv1 (by simp) (by simpa using hlen) ?_; intro v1 w1 hv1 hg1 hr1; have k2 : Keeps w w1 := k1.grown hg1 hr1)
  go_ret
  exact ⟨_, rfl, by simpa using hv1, k2⟩
--
theorem within_any (a b : Int) (w : World) : Calls Try.prog 83 #[.int .i64 a, .int .i64 b] w fun e w' => e = .returned (.bool (bits .andNot .i64 a b == 0)) ∧ w = w' := by
  go_enter Try.func83, Try.ntmps83
  go_wp2
  go_ret
  exact ⟨rfl, rfl⟩
--
set_option maxHeartbeats 400000 in
theorem posetOf_any (a : List Int) (v : Value) (w : World) (hv : Ints w v a) : Calls Try.prog 46 #[v] w fun e w' => e = .returned (.agg #[.int .i64 a.length, v]) ∧ Keeps w w' := by
  obtain ⟨p, cap, rfl, hle, hmx, hr, hlen⟩ := hv
  unfold maxLen at hmx
  go_enter Try.func46, Try.ntmps46
  go_wp2
  refine bodyPost_ret (v := .agg #[.int .i64 a.length, .slice p a.length cap]) (by simp [results, Try.results46, go_sem]) rfl ⟨rfl, (Keeps.refl w).alloc _⟩
--
/-- a fresh poset comes back -/
def RetP (w : World) (a : List Int) (e : Ending) (w' : World) : Prop := ∃ v, e = .returned (.agg #[.int .i64 a.length, v]) ∧ OwnI w' w.heap.size v a ∧ Keeps w w'
set_option maxHeartbeats 400000 in
theorem l16Make_any (a : List Int) (v : Value) (w : World) (hv : Ints w v a) : Calls Try.prog 64 #[v] w (RetP w a) := by
  have hv0 := hv
  obtain ⟨p, cap, rfl, hle, hmx, hr, hlen⟩ := hv
  unfold maxLen at hmx
  have k1 := (Keeps.refl w).alloc (.cells #[.int .i64 0, .slice none 0 0] 32)
  go_enter Try.func64, Try.ntmps64
  go_wp2_with fail
  refine (l01Own_any a _ _ (hv0.keeps k1)).mono ?_
  rintro e w2 ⟨v2, rfl, hv2, k2⟩
  obtain ⟨p2, c2, rfl, _⟩ := hv2.ints hlen
  obtain ⟨hc2, hf2⟩ := k2.both
  go_wp2_with fail
  refine bodyPost_ret (v := .agg #[.int .i64 a.length, .slice p2 a.length c2]) (by simp [results, Try.results64, go_sem, hc2]) rfl ?_
  have hlt : w.heap.size < (w.alloc (.cells #[.int .i64 0, .slice none 0 0] 32)).heap.size := by simp
  exact ⟨_, rfl, ((hv2.setBelow hlt _).setBelow hlt _).mono (by simp), ((k1.trans k2).setCell (Nat.le_refl _) _).setCell (Nat.le_refl _) _⟩
end Go.Proofs.Ytolepbiepebclaa
