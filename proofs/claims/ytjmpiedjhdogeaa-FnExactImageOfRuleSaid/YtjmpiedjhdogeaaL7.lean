/- The laws of functions that answer a bool and an error. -/
import Derived.Test.YtjmpiedjhdogeaaL6
import Derived.Deep.RegionHeld3
namespace Go.Proofs.Ytjmpiedjhdogeaa
open Go.RowKit
--
theorem eqNodeSS_same' (xs : List (List Nd)) (v v' : Value) (w : World) (hv : NdsL w v xs) (hv' : NdsL w v' xs) :
    Calls Try.prog 22 #[v, v'] w fun e w' => e = .returned (.bool true) ∧ Keeps w w' := by
  have h := eqNodeSS_any xs xs v v' w hv hv'
  rw [decide_eq_true rfl] at h
  exact h
--
theorem eqNodeS_same' (a : List Nd) (v v' : Value) (w : World) (hv : Nds w v a) (hv' : Nds w v' a) :
    Calls Try.prog 12 #[v, v'] w fun e w' => e = .returned (.bool true) ∧ Keeps w w' := by
  have h := eqNodeS_any a a v v' w hv hv'
  rw [decide_eq_true rfl] at h
  exact h
end Go.Proofs.Ytjmpiedjhdogeaa
