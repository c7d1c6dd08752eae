/- Walks: formulas with one part on both sides. -/
import Derived.Test.YtjmpiedjhdogeaaW6
namespace Go.Proofs.Ytjmpiedjhdogeaa
open Go.RowKit
end Go.Proofs.Ytjmpiedjhdogeaa
