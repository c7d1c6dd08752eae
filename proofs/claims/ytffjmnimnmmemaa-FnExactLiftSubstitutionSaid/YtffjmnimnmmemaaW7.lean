/- Walks: formulas with one part on both sides. -/
import Derived.Test.YtffjmnimnmmemaaW6
namespace Go.Proofs.Ytffjmnimnmmemaa
open Go.RowKit
--
set_option maxHeartbeats 400000 in
theorem l02Pre_any (k : Int) (a : List Nd) (va : Value) (w : World) (hva : Nds w va a) (hl : 1 + a.length ≤ 2147483648) :
    Calls Try.prog 121 #[.int .i64 k, va] w (RetN w (⟨k, 0⟩ :: a)) := by
  go_enter Try.func121, Try.ntmps121
  have h1 := OwnN.lit1 w ⟨k, 0⟩
  have k1 := (Keeps.refl w).alloc (.cells #[.int .i64 k, .int .i64 0] 85)
  have ha1 := hva.keeps k1
  go_wp2_with (at_builtin; refine appN rfl _ _ rfl w.heap.size _ [⟨k, 0⟩] rfl h1 _ a rfl ha1 (by simp) (by simp; omega) ?_; intro v1 w1 hv1 hg1 hr1; have k2 : Keeps w w1 := k1.grown hg1 hr1)
  go_ret
  exact ⟨_, rfl, by simpa using hv1, k2⟩
--
set_option maxRecDepth 20000 in
set_option maxHeartbeats 400000 in
theorem prefix_any (k : Int) (a : List Nd) (va : Value) (w : World) (hva : Nds w va a) (hl : 1 + a.length ≤ 2147483648) :
    Calls Try.prog 124 #[.int .i64 k, va] w (RetN w (⟨k, 0⟩ :: a)) := by
  obtain ⟨pa, na, ca, rfl⟩ := hva.shape
  have k1 := (Keeps.refl w).alloc (.cells #[.int .i64 k, .int .i64 0] 85)
  have h1 := (OwnN.lit1 w ⟨k, 0⟩).nds (by simp)
  have h2 := NdsL.lit2N (N := w.heap.size + 1) (by simp) h1 (hva.keeps k1)
  have k2 := k1.alloc (.cells #[.slice (some ⟨w.heap.size, 0, none⟩) 1 1, .slice pa na ca] 24)
  have hfl : fl [[⟨k, 0⟩], a] [[⟨k, 0⟩], a].length = ⟨k, 0⟩ :: a := by simp [fl]
  have hfl2 : (fl [[⟨k, 0⟩], a] [[(⟨k, 0⟩ : Nd)], a].length).length ≤ 2147483648 := by rw [hfl]; simp; omega
  have hc := concatN_any _ _ _ h2 hfl2
  rw [hfl] at hc
  have HC := hid hc
  clear hfl2 h1 h2 hfl hc
  go_enter Try.func124, Try.ntmps124
  go_wp2_with (go_at_call 123; go_must (refine HC.out.mono ?_); rintro e w3 ⟨v3, rfl, hv3, k3⟩)
  go_ret
  exact ⟨_, rfl, hv3.mono k2.size, k2.trans k3⟩
end Go.Proofs.Ytffjmnimnmmemaa
