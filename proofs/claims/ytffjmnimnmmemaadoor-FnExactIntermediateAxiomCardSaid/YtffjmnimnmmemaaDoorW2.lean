/- Walks: the reference's small functions on formulas. -/
import Derived.Test.YtffjmnimnmmemaaDoorW1
namespace Go.Proofs.YtffjmnimnmmemaaDoor
open Go.RowKit

/-- fresh nodes come back -/
def RetN (w : World) (a : List Nd) (e : Ending) (w' : World) : Prop := ∃ v, e = .returned v ∧ OwnN w' w.heap.size v a ∧ Keeps w w'
/-- nodes that were there come back -/
def RetS (w : World) (a : List Nd) (e : Ending) (w' : World) : Prop := ∃ v, e = .returned v ∧ Nds w v a ∧ w = w'
def plainL (a : List Nd) : Bool := a.all fun n => decide (n.k ≠ 5 ∧ n.k ≠ 6)

--
set_option maxHeartbeats 400000 in
theorem l02False_any (w : World) : Calls Tryd.prog 130 #[] w (RetN w Fm.fls.enc) := by
  go_enter Tryd.func130, Tryd.ntmps130
  go_wp2
  go_ret
  exact ⟨_, rfl, OwnN.lit1 w ⟨1, 0⟩, (Keeps.refl w).alloc _⟩
--
set_option maxHeartbeats 400000 in
theorem l02Pair_any (k : Int) (a b : List Nd) (va vb : Value) (w : World) (hva : Nds w va a) (hvb : Nds w vb b) (hl : 1 + a.length + b.length ≤ 2147483648) :
    Calls Tryd.prog 107 #[.int .i64 k, va, vb] w (RetN w (⟨k, 0⟩ :: (a ++ b))) := by
  go_enter Tryd.func107, Tryd.ntmps107
  have h1 := OwnN.lit1 w ⟨k, 0⟩
  have k1 := (Keeps.refl w).alloc (.cells #[.int .i64 k, .int .i64 0] 50)
  have ha1 := hva.keeps k1
  go_wp2_with (first | (at_builtin; refine appN rfl (.tmp 9) (.tmp 10) rfl w.heap.size _ [⟨k, 0⟩] rfl h1 _ a rfl ha1 (by simp) (by simp; omega) ?_; intro v1 w1 hv1 hg1 hr1; have k2 : Keeps w w1 := k1.grown hg1 hr1; have hb1 := hvb.keeps k2) | (at_builtin; refine appN rfl (.tmp 11) (.tmp 12) rfl w.heap.size _ ([⟨k, 0⟩] ++ a) rfl (by assumption) _ b rfl (by assumption) (by have := k2.size; omega) (by simp; omega) ?_; intro v2 w2 hv2 hg2 hr2; have k3 : Keeps w w2 := k2.grown hg2 hr2))
  go_ret
  exact ⟨_, rfl, by simpa using hv2, k3⟩
--
set_option maxHeartbeats 400000 in
theorem l02Not_any (t : Fm) (v : Value) (w : World) (hv : Nds w v t.enc) (hl : t.enc.length ≤ 1073741824) :
    Calls Tryd.prog 132 #[v] w (RetN w (Fm.not t).enc) := by
  go_enter Tryd.func132, Tryd.ntmps132
  go_wp2_with (first | (go_at_call 130; refine (l02False_any _).mono ?_; rintro e w1 ⟨v1, rfl, hv1, k1⟩) | (go_at_call 107; refine (l02Pair_any _ _ _ _ _ _ (hv.keeps k1) (hv1.nds (by simp [Fm.enc])) (by simp [Fm.enc]; omega)).mono ?_; rintro e w2 ⟨v2, rfl, hv2, k2⟩))
  go_ret
  exact ⟨_, rfl, hv2.mono k1.size, k1.trans k2⟩
end Go.Proofs.YtffjmnimnmmemaaDoor
