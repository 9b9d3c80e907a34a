
/- Charts: the walks of Order, and of the reference's Orders and IsOrder. -/
import Derived.Test.YtppncdbhebgcaaaCC
import Derived.Test.YtppncdbhebgcaaaCD
import Derived.Deep.RegionWith
import Derived.Deep.RegionHeld3
namespace Go.Proofs.Ytppncdbhebgcaaa
open Go.RowKit

def RO (T : Tab) (x y : Int) : Prop := ahd y.toNat (hiT T y.toNat) x.toNat (hiT T x.toNat) = false
theorem RO.trans {T : Tab} : ∀ x y z, RO T x y → RO T y z → RO T x z := by
  intro x y z h1 h2
  unfold RO at *
  rw [Bool.eq_false_iff]
  intro h
  by_cases e : y.toNat = z.toNat
  · rw [← e] at h; rw [h] at h1; cases h1
  · rcases ahd_total (i := y.toNat) (j := z.toNat) (hiT T y.toNat) (hiT T z.toNat) e with h3 | h3
    · rw [ahd_trans h3 h] at h1; cases h1
    · rw [h3] at h2; cases h2
section
variable (bt : Nat)
end
end Go.Proofs.Ytppncdbhebgcaaa
