
/- Charts: meters in memory of their own. Charts: the walk of the reference's Copy. -/
import Derived.Test.YtppncdbhebgcaaaCE
import Derived.Test.YtppncdbhebgcaaaCB
import Derived.Test.YtppncdbhebgcaaaCD
import Derived.Laws.AppendOwnNone
namespace Go.Proofs.Ytppncdbhebgcaaa
open Go.RowKit

end Go.Proofs.Ytppncdbhebgcaaa
namespace Go.Proofs.Ytppncdbhebgcaaa
open Go.RowKit

end Go.Proofs.Ytppncdbhebgcaaa
