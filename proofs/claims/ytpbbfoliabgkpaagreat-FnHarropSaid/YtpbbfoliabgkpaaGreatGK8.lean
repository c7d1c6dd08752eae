/- Walks: the box translation on both sides. -/
import Derived.Test.YtpbbfoliabgkpaaGreatGK1
import Derived.Test.YtpbbfoliabgkpaaGreatGM1
namespace Go.Proofs.YtpbbfoliabgkpaaGreat
open Go.RowKit
def bxt : Fm → Fm
  | .var v => .box (.var v)
  | .fls => .fls
  | .and a b => .and (bxt a) (bxt b)
  | .or a b => .or (bxt a) (bxt b)
  | .imp a b => .box (.imp (bxt a) (bxt b))
  | .box _ => .fls
  | .dia _ => .fls
theorem bxt_len (t : Fm) : (bxt t).enc.length ≤ 9 * t.enc.length := by
  induction t <;> simp [bxt, Fm.enc] at * <;> omega
end Go.Proofs.YtpbbfoliabgkpaaGreat
/- Walks: the outer box translation on both sides. -/
namespace Go.Proofs.YtpbbfoliabgkpaaGreat
open Go.RowKit
--
set_option maxRecDepth 20000 in
theorem l02Own_any (a : List Nd) (v : Value) (w : World) (hv : Nds w v a) (hl : a.length ≤ 1073741824) : Calls Tryz.prog 251 #[v] w (RetN w a) := by
  have h1 := OwnN.empty w
  have k1 := (Keeps.refl w).alloc (.cells #[] 55)
  have hv1 := hv.keeps k1
  go_enter Tryz.func251, Tryz.ntmps251
  go_wp2_with (at_builtin; refine appN rfl _ _ rfl w.heap.size _ [] rfl h1 _ a rfl hv1 (by simp) (by simp; omega) ?_; intro v1 w1 hv1 hg1 hr1; have k2 : Keeps w w1 := k1.grown hg1 hr1)
  go_ret
  exact ⟨_, rfl, by simpa using hv1, k2⟩
--
set_option maxRecDepth 20000 in
theorem cloneN_any (a : List Nd) (v : Value) (w : World) (hv : Nds w v a) (hp : 0 < a.length) (_hl : a.length ≤ 1073741824) : Calls Tryz.prog 250 #[v] w (RetN w a) := by
  have h1 := OwnN.empty w
  have k1 := (Keeps.refl w).alloc (.cells #[] 55)
  have hv1 := hv.keeps k1
  obtain ⟨p, cap, rfl, _, _, hat, _⟩ := hv
  obtain ⟨b, off, rfl⟩ := hat.ptrN hp
  clear hat
  have he : (binOp .eql 24 (.slice (some ⟨b, off, none⟩) a.length cap) (.slice none 0 0)).run Tryz.prog w = .ok (.bool false) w := by kernel_rfl
  go_enter Tryz.func250, Tryz.ntmps250
  go_wp2_with (at_builtin; refine appN rfl _ _ rfl w.heap.size _ [] rfl h1 _ a rfl hv1 (by simp) (by simp; omega) ?_; intro v1 w1 hv1 hg1 hr1; have k2 : Keeps w w1 := k1.grown hg1 hr1)
  go_ret
  exact ⟨_, rfl, by simpa using hv1, k2⟩
theorem clone_any (a : List Nd) (v : Value) (w : World) (hv : Nds w v a) (hp : 0 < a.length) (hl : a.length ≤ 1073741824) : Calls Tryz.prog 195 #[v] w (RetN w a) := by
  go_enter Tryz.func195, Tryz.ntmps195
  go_wp2_with (go_at_call 250; refine (cloneN_any a _ _ hv hp hl).mono ?_; rintro e w1 ⟨v1, rfl, hv1, k1⟩)
  go_ret
  exact ⟨_, rfl, hv1, k1⟩
def outr : Fm → Fm
  | .var v => .var v
  | .fls => .fls
  | .and a b => .and (outr a) (outr b)
  | .or a b => .or (.box (outr a)) (.box (outr b))
  | .imp a b => .imp (.box (outr a)) (outr b)
  | .box _ => .fls
  | .dia _ => .fls
theorem outr_len (t : Fm) : (outr t).enc.length ≤ 9 * t.enc.length := by
  induction t <;> simp [outr, Fm.enc] at * <;> omega
end Go.Proofs.YtpbbfoliabgkpaaGreat
