
/- Sums of the chapter's examples, reckoned by the kernel. -/
import Derived.Test.YtaoamnhchidjfaaGreatDoorXH
namespace Go.Proofs.YtaoamnhchidjfaaGreatDoor
theorem sums_exM1 : sumsL exM 0 1 = [15, 115] := by decide +kernel
theorem sums_exM2 : sumsL exM 0 2 = [40, 140] := by decide +kernel
theorem sums_exO : (sumsL exO 1 2).headD 0 = 25 ∧ (sumsL exO 1 2).getLastD 0 = 30 := by decide +kernel
end Go.Proofs.YtaoamnhchidjfaaGreatDoor
