
/- The reference's sums, shows, weeks and rounds, reckoned over all truths: the plain law. -/
import Derived.Test.YtppncdbhebgcaaaQ7t
namespace Go.Proofs.Ytppncdbhebgcaaa
open Go.RowKit

/-- how often a number is counted among the first truths -/
def cntT (g : Int × List Int → Int) (T : List (Int × List Int)) (k : Nat) (s : Int) : Nat := (T.take k).countP fun t => decide (g t = s)
section
variable {M : Mt}
end
end Go.Proofs.Ytppncdbhebgcaaa
