
/- The walks of sane, holds, subset. -/
import Derived.Test.YtaoamnhchidjfaaGreatDoorXI
namespace Go.Proofs.YtaoamnhchidjfaaGreatDoor
open Go.RowKit

def saneB (lo hi : Int) : Bool := decide (0 ≤ lo) && (decide (lo ≤ hi) && decide (hi ≤ 100000))
theorem saneB_t {lo hi : Int} (h : 0 ≤ lo ∧ lo ≤ hi ∧ hi ≤ 100000) : saneB lo hi = true := by unfold saneB; simp; exact h

end Go.Proofs.YtaoamnhchidjfaaGreatDoor
