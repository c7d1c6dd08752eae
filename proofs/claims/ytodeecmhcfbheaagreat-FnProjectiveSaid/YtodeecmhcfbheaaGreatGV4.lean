/- The formula of a text (program side), for texts of any length. -/
import Derived.Test.YtodeecmhcfbheaaGreatGP6
namespace Go.Proofs.YtodeecmhcfbheaaGreat
open Go.RowKit
--
set_option maxRecDepth 20000 in
set_option maxHeartbeats 1000000 in
theorem treeOf_any (t : Fm) (hw : t.wf) (s : ByteArray) (w : World) (hb : bts s = t.body) (hs : s.size ≤ 2147483648) (hl : t.enc.length ≤ 100000000) :
    Calls Tryz.prog 250 #[.string s] w (RetN w t.enc) := by
  have h0 := RdAt.new w s 177 (by omega)
  have hlen : t.body.length = s.size := by rw [← hb]; show s.data.toList.length = s.data.size; simp
  have HR := hid (implReads t hw _ _ s 0 [] h0 (by simpa using hb) ⟨fun _ => by simp, fun _ => by simp, fun _ => by simp⟩ (by omega))
  have k0 := (Keeps.refl w).alloc (.cells #[.string s, .int .i64 0, .bool false] 177)
  clear hb h0 hlen
  go_enter Tryz.func250, Tryz.ntmps250
  go_wp2_with fail
  refine HR.out.mono ?_; rintro e w1 ⟨v1, rfl, hv1, h1, g1⟩
  have kw := k0.grown g1 (fun k hk => by cases hk; exact Nat.le_refl _)
  go_wp2_with fail
  go_ret
  exact ⟨_, rfl, hv1.mono (by simp), kw⟩
end Go.Proofs.YtodeecmhcfbheaaGreat
