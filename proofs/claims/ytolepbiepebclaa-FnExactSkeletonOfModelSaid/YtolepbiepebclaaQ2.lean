/- Walks: chains, forks and Medvedev's posets on both sides. -/
import Derived.Test.YtolepbiepebclaaQ1
import Derived.Test.YtolepbiepebclaaL2
import Derived.Deep.RegionLaw
namespace Go.Proofs.Ytolepbiepebclaa
open Go.RowKit

def andNot (a b : Int) : Int := bits .andNot .i64 a b
def chainL (n : Nat) : Nat → List Int
  | 0 => []
  | k + 1 => chainL n k ++ [andNot (2 ^ n - 1) (2 ^ k - 1)]
theorem chainL_length (n k : Nat) : (chainL n k).length = k := by
  induction k with
  | zero => rfl
  | succ k ih => simp [chainL, ih]
end Go.Proofs.Ytolepbiepebclaa
