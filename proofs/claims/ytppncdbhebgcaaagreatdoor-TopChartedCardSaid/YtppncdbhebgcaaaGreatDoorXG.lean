
/- The walk of Week. The walk of Shows. The walk of plus. What Shows says, in plain words. The walk of Next, from what totals answers. What totals lays together, as the plain law speaks of it. The walk of totals. The walk of Rounds. -/
import Derived.Test.YtppncdbhebgcaaaGreatDoorXF
namespace Go.Proofs.YtppncdbhebgcaaaGreatDoor
open Go.RowKit

/-- a span and an error -/
def RetSp (lo hi n : Int) (w : World) (e : Ending) (w' : World) : Prop := e = .returned (.tuple #[.agg #[.int .i64 lo, .int .i64 hi], .int .i64 n]) ∧ Ext w w'
def okN (n : Int) (x : Int) : Int := if n = 0 then x else 0
theorem okN_0 {n : Int} (h : n = 0) (x : Int) : okN n x = x := if_pos h
theorem okN_ne {n : Int} (h : ¬n = 0) (x : Int) : okN n x = 0 := if_neg h
def isWkB (k n : Int) : Bool := decide (0 ≤ k) && decide (k < n)
theorem heap_pair {w : World} {b : Nat} {t : TypeId} {x0 x1 y0 y1 : Value} (h : w.heap[b]? = some (.cells #[x0, x1] t)) :
    ((w.setCell ⟨b, 0, none⟩ y0).setCell ⟨b, 1, none⟩ y1).heap[b]? = some (.cells #[y0, y1] t) := heap_set (heap_set h rfl) rfl
theorem sumsL_bits {M : Mt} (hM : ValidM M) {a b : Nat} (hab : a ≤ b) (hb : b ≤ M.weeks.length) : bitsI (betTo M a b 100) = (sumsL M a b).map fun t : Nat => (t : Int) := by
  rw [bet_eq hM hab hb, bitsI_eq]; rfl

noncomputable def weekLo (M : Mt) (f : Int) : Int := okN (askV M (isWkB f M.weeks.length)) ((sumsL M f.toNat (f.toNat + 1)).headD 0 : Nat)
noncomputable def weekHi (M : Mt) (f : Int) : Int := okN (askV M (isWkB f M.weeks.length)) ((sumsL M f.toNat (f.toNat + 1)).getLastD 0 : Nat)
end Go.Proofs.YtppncdbhebgcaaaGreatDoor
namespace Go.Proofs.YtppncdbhebgcaaaGreatDoor
open Go.RowKit

end Go.Proofs.YtppncdbhebgcaaaGreatDoor
namespace Go.Proofs.YtppncdbhebgcaaaGreatDoor
open Go.RowKit

end Go.Proofs.YtppncdbhebgcaaaGreatDoor
namespace Go.Proofs.YtppncdbhebgcaaaGreatDoor
open Go.RowKit

end Go.Proofs.YtppncdbhebgcaaaGreatDoor
namespace Go.Proofs.YtppncdbhebgcaaaGreatDoor
open Go.RowKit

end Go.Proofs.YtppncdbhebgcaaaGreatDoor
namespace Go.Proofs.YtppncdbhebgcaaaGreatDoor
open Go.RowKit

end Go.Proofs.YtppncdbhebgcaaaGreatDoor
namespace Go.Proofs.YtppncdbhebgcaaaGreatDoor
open Go.RowKit

end Go.Proofs.YtppncdbhebgcaaaGreatDoor
namespace Go.Proofs.YtppncdbhebgcaaaGreatDoor
open Go.RowKit

end Go.Proofs.YtppncdbhebgcaaaGreatDoor
