/- Walks: Kolmogorov's translation in the reference. -/
import Derived.Test.YtffjmnimnmmemaaT1
import Derived.Deep.RegionHeld3
namespace Go.Proofs.Ytffjmnimnmmemaa
open Go.RowKit
def kol : Fm → Fm
  | .var v => (Fm.var v).not.not
  | .fls => .fls
  | .and a b => (Fm.and (kol a) (kol b)).not.not
  | .or a b => (Fm.or (kol a) (kol b)).not.not
  | .imp a b => (Fm.imp (kol a) (kol b)).not.not
  | .box _ => .fls
  | .dia _ => .fls
def gen : Fm → Fm
  | .var v => (Fm.var v).not.not
  | .fls => .fls
  | .and a b => .and (gen a) (gen b)
  | .or a b => (Fm.and (gen a).not (gen b).not).not
  | .imp a b => .imp (gen a) (gen b)
  | .box _ => .fls
  | .dia _ => .fls
theorem kol_len (t : Fm) : (kol t).enc.length ≤ 9 * t.enc.length := by
  induction t <;> simp [kol, Fm.not, Fm.enc] at * <;> omega
theorem gen_len (t : Fm) : (gen t).enc.length ≤ 9 * t.enc.length := by
  induction t <;> simp [gen, Fm.not, Fm.enc] at * <;> omega
end Go.Proofs.Ytffjmnimnmmemaa
