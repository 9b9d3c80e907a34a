
/- The walk of Week. The walk of Shows. The walk of plus. What Shows says, in plain words. The walk of Next, from what totals answers. What totals lays together, as the plain law speaks of it. The walk of totals. The walk of Rounds. -/
import Derived.Test.YtppncdbhebgcaaaXF
namespace Go.Proofs.Ytppncdbhebgcaaa
open Go.RowKit

def okN (n : Int) (x : Int) : Int := if n = 0 then x else 0
theorem okN_0 {n : Int} (h : n = 0) (x : Int) : okN n x = x := if_pos h
theorem okN_ne {n : Int} (h : ¬n = 0) (x : Int) : okN n x = 0 := if_neg h
def isWkB (k n : Int) : Bool := decide (0 ≤ k) && decide (k < n)
noncomputable def weekLo (M : Mt) (f : Int) : Int := okN (askV M (isWkB f M.weeks.length)) ((sumsL M f.toNat (f.toNat + 1)).headD 0 : Nat)
noncomputable def weekHi (M : Mt) (f : Int) : Int := okN (askV M (isWkB f M.weeks.length)) ((sumsL M f.toNat (f.toNat + 1)).getLastD 0 : Nat)
end Go.Proofs.Ytppncdbhebgcaaa
namespace Go.Proofs.Ytppncdbhebgcaaa
open Go.RowKit

end Go.Proofs.Ytppncdbhebgcaaa
namespace Go.Proofs.Ytppncdbhebgcaaa
open Go.RowKit

end Go.Proofs.Ytppncdbhebgcaaa
namespace Go.Proofs.Ytppncdbhebgcaaa
open Go.RowKit

end Go.Proofs.Ytppncdbhebgcaaa
namespace Go.Proofs.Ytppncdbhebgcaaa
open Go.RowKit

end Go.Proofs.Ytppncdbhebgcaaa
namespace Go.Proofs.Ytppncdbhebgcaaa
open Go.RowKit

end Go.Proofs.Ytppncdbhebgcaaa
namespace Go.Proofs.Ytppncdbhebgcaaa
open Go.RowKit

end Go.Proofs.Ytppncdbhebgcaaa
namespace Go.Proofs.Ytppncdbhebgcaaa
open Go.RowKit

end Go.Proofs.Ytppncdbhebgcaaa
