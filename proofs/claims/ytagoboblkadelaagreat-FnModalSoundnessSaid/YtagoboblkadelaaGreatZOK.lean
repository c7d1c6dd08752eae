import Derived.Test.YtagoboblkadelaaGreatZXV
import Derived.Test.YtagoboblkadelaaGreatZRW
/- own -/
namespace Go.Proofs.YtagoboblkadelaaGreat
open Go.RowKit
theorem aI.zcell {w:World} {B g n cap:Nat} {l:List Nat} (h:aI w B (.slice (some ⟨g,0,none⟩) n cap) (zs l)) (i:Nat) (hi:i<l.length):
  w.cell? ⟨g,i,none⟩=some (.int .i64 (l.getD i 0:Nat))∧w.frozen? ⟨g,i,none⟩=false:=by
 obtain⟨c,f⟩:=h.cell i (by rw[af];exact hi);rw[gu,←bJ hi] at c;exact⟨c,f⟩
end Go.Proofs.YtagoboblkadelaaGreat
