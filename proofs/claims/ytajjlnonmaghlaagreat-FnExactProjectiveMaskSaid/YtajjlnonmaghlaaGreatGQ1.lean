/- Walks: masks and posets. -/
import Derived.Test.YtajjlnonmaghlaaGreatGW2
namespace Go.Proofs.YtajjlnonmaghlaaGreat
open Go.RowKit

--
theorem wrap_pow : ∀ k : Nat, k ≤ 62 → wrap64 (2 ^ k) = 2 ^ k := by
  intro k hk
  have : ∀ j : Fin 63, wrap64 (2 ^ (j : Nat)) = 2 ^ (j : Nat) := by decide +kernel
  exact this ⟨k, by omega⟩
theorem l01One_any (i : Int) (w : World) (h0 : 0 ≤ i) (h1 : i ≤ 62) : Calls Tryz.prog 60 #[.int .i64 i] w fun e w' => e = .returned (.int .i64 (2 ^ i.toNat)) ∧ w = w' := by
  go_enter Tryz.func60, Tryz.ntmps60
  go_wp2
  go_ret
  refine ⟨ret_int ?_, rfl⟩
  exact wrap_pow _ (by omega)
/-- fresh numbers come back -/
def RetI (w : World) (a : List Int) (e : Ending) (w' : World) : Prop := ∃ v, e = .returned v ∧ OwnI w' w.heap.size v a ∧ Keeps w w'
end Go.Proofs.YtajjlnonmaghlaaGreat
