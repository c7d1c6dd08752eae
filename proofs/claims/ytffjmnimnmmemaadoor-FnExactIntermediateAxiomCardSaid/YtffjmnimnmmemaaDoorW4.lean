/- Walks: Harrop and negative formulas on both sides; lists of formulas. -/
import Derived.Test.YtffjmnimnmmemaaDoorW3
namespace Go.Proofs.YtffjmnimnmmemaaDoor
open Go.RowKit

end Go.Proofs.YtffjmnimnmmemaaDoor
