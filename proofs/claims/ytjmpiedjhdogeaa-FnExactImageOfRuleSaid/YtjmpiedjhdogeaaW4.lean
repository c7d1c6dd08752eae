/- Walks: Harrop and negative formulas on both sides; lists of formulas. -/
import Derived.Test.YtjmpiedjhdogeaaW3
namespace Go.Proofs.Ytjmpiedjhdogeaa
open Go.RowKit

end Go.Proofs.Ytjmpiedjhdogeaa
