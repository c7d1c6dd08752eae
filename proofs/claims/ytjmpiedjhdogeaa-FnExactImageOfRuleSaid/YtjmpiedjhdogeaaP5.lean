/- Walks: the reference's reader of formulas, at all levels of the grammar. -/
import Derived.Test.YtjmpiedjhdogeaaP3
import Derived.Test.YtjmpiedjhdogeaaW7
namespace Go.Proofs.Ytjmpiedjhdogeaa
open Go.RowKit
--
set_option maxRecDepth 20000 in
theorem l02Var_any (v : Nat) (w : World) : Calls Try.prog 45 #[.int .i64 v] w (RetN w (Fm.var v).enc) := by
  go_enter Try.func45, Try.ntmps45
  go_wp2
  go_ret
  exact ⟨_, rfl, OwnN.lit1 w ⟨0, v⟩, (Keeps.refl w).alloc _⟩
end Go.Proofs.Ytjmpiedjhdogeaa
