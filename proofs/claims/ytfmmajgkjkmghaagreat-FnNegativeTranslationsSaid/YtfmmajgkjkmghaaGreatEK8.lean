import Derived.Test.YtfmmajgkjkmghaaGreatEK1
import Derived.Test.YtfmmajgkjkmghaaGreatEW7
/- Walks: the box translation on both sides. -/
namespace Go.Proofs.YtfmmajgkjkmghaaGreat
open Go.RowKit
end Go.Proofs.YtfmmajgkjkmghaaGreat
namespace Go.Proofs.YtfmmajgkjkmghaaGreat
open Go.RowKit
set_option maxRecDepth 20000 in
theorem l02Own_any (a : List Nd) (v : Value) (w : World) (hv : Nds w v a) (hl : a.length ≤ 1073741824) : Calls Tryz.prog 215 #[v] w (RetN w a) := by
 have h1 := OwnN.empty w
 have k1 := (Keeps.refl w).alloc (.cells #[] 61)
 have hv1 := hv.keeps k1
 go_enter Tryz.func215, Tryz.ntmps215
 go_wp2_with (at_builtin; refine appN rfl _ _ rfl w.heap.size _ [] rfl h1 _ a rfl hv1 (by simp) (by simp; omega) ?_; intro v1 w1 hv1 hg1 hr1; have k2 : Keeps w w1 := k1.grown hg1 hr1)
 go_ret
 exact ⟨_, rfl, by simpa using hv1, k2⟩
end Go.Proofs.YtfmmajgkjkmghaaGreat
