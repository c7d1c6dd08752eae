/- Walks: the program's joins, negations and checks of lists. -/
import Derived.Test.YtffjmnimnmmemaaDoorW5
namespace Go.Proofs.YtffjmnimnmmemaaDoor
open Go.RowKit

--
theorem falsum_any (w : World) : Calls Tryd.prog 141 #[] w (RetN w Fm.fls.enc) := by
  go_enter Tryd.func141, Tryd.ntmps141
  go_wp2
  go_ret
  exact ⟨_, rfl, OwnN.lit1 w ⟨1, 0⟩, (Keeps.refl w).alloc _⟩
--
set_option maxHeartbeats 400000 in
theorem join_any (k : Int) (a b : List Nd) (va vb : Value) (w : World) (hva : Nds w va a) (hvb : Nds w vb b) (hl : 1 + a.length + b.length ≤ 2147483648) :
    Calls Tryd.prog 110 #[.int .i64 k, va, vb] w (RetN w (⟨k, 0⟩ :: (a ++ b))) := by
  obtain ⟨pa, na, ca, rfl⟩ := hva.shape
  obtain ⟨pb, nb, cb, rfl⟩ := hvb.shape
  have k1 := (Keeps.refl w).alloc (.cells #[.int .i64 k, .int .i64 0] 50)
  have h1 := (OwnN.lit1 w ⟨k, 0⟩).nds (by simp)
  have h2 := NdsL.lit3N (N := w.heap.size + 1) (by simp) h1 (hva.keeps k1) (hvb.keeps k1)
  have k2 := k1.alloc (.cells #[.slice (some ⟨w.heap.size, 0, none⟩) 1 1, .slice pa na ca, .slice pb nb cb] 22)
  have hfl : fl [[⟨k, 0⟩], a, b] [[⟨k, 0⟩], a, b].length = ⟨k, 0⟩ :: (a ++ b) := by simp [fl]
  have hfl2 : (fl [[⟨k, 0⟩], a, b] [[(⟨k, 0⟩ : Nd)], a, b].length).length ≤ 2147483648 := by rw [hfl]; simp; omega
  have hc := concatN_any _ _ _ h2 hfl2
  rw [hfl] at hc
  have HC := hid hc
  clear hfl2 h1 h2 hfl hc
  go_enter Tryd.func110, Tryd.ntmps110
  go_wp2_with (go_at_call 119; go_must (refine HC.out.mono ?_); rintro e w3 ⟨v3, rfl, hv3, k3⟩)
  go_ret
  exact ⟨_, rfl, hv3.mono k2.size, k2.trans k3⟩
--
set_option maxHeartbeats 400000 in
theorem negation_any (t : Fm) (v : Value) (w : World) (hv : Nds w v t.enc) (hl : t.enc.length ≤ 1073741824) :
    Calls Tryd.prog 135 #[v] w (RetN w (Fm.not t).enc) := by
  go_enter Tryd.func135, Tryd.ntmps135
  go_wp2_with (first | (go_at_call 141; refine (falsum_any _).mono ?_; rintro e w1 ⟨v1, rfl, hv1, k1⟩) | (go_at_call 110; refine (join_any _ _ _ _ _ _ (hv.keeps k1) (hv1.nds (by simp [Fm.enc])) (by simp [Fm.enc]; omega)).mono ?_; rintro e w2 ⟨v2, rfl, hv2, k2⟩))
  go_ret
  exact ⟨_, rfl, hv2.mono k1.size, k1.trans k2⟩
end Go.Proofs.YtffjmnimnmmemaaDoor
