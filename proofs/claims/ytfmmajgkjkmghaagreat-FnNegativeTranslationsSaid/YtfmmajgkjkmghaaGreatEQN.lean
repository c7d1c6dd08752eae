import Derived.Test.YtfmmajgkjkmghaaGreatEK1
import Derived.Test.YtfmmajgkjkmghaaGreatEK8
import Derived.Test.YtfmmajgkjkmghaaGreatEQU
/- Plain: box translations: truth on a model with a preorder is forcing on its skeleton. -/
namespace Go.Proofs.YtfmmajgkjkmghaaGreat
theorem bits_eq {n a c : Nat} (ha : a < 2 ^ n) (hc : c < 2 ^ n) (h : ∀ x, x < n → (a.testBit x = true ↔ c.testBit x = true)) : a = c := by
 apply Nat.eq_of_testBit_eq
 intro x
 by_cases hx : x < n
 ·rw [Bool.eq_iff_iff]; exact h x hx
 ·have hp : 2 ^ n ≤ 2 ^ x := Nat.pow_le_pow_right (by omega) (by omega)
  rw [Nat.testBit_lt_two_pow (Nat.lt_of_lt_of_le ha hp), Nat.testBit_lt_two_pow (Nat.lt_of_lt_of_le hc hp)]
end Go.Proofs.YtfmmajgkjkmghaaGreat
namespace Go.Proofs.YtfmmajgkjkmghaaGreat
open Go.RowKit
end Go.Proofs.YtfmmajgkjkmghaaGreat
