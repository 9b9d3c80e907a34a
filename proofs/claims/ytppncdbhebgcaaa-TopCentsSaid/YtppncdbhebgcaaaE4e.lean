
/- The walk of ChartsOne. -/
import Derived.Test.YtppncdbhebgcaaaCF
import Derived.Deep.RegionHeld3
import Derived.Laws.MakeOwn
import Derived.Test.YtppncdbhebgcaaaCE
import Derived.Test.YtppncdbhebgcaaaQ7t
import Derived.Test.YtppncdbhebgcaaaCC
import Derived.Test.YtppncdbhebgcaaaCD
import Derived.Deep.RegionWith
import Derived.Test.YtppncdbhebgcaaaE4c
namespace Go.Proofs.Ytppncdbhebgcaaa
open Go.RowKit

theorem make_i (n : Nat) (hn : n ≤ 1000) (w : World) : (Instr.makeSlice 26 (.int .i64 n) (.int .i64 n)).run Try.prog w = .ok (.slice (some ⟨w.heap.size, 0, none⟩) n n) (w.alloc (.cells (Array.replicate n (.int .i64 0)) 3)) := by
  obtain ⟨i, hi, hz, hs, hb⟩ := info_parts info_a
  have := run_make (P := Try.prog) w 26 3 i _ Try.underlying26 hi hz .i64 .i64 n n (by omega) (Int.le_refl _) (by rw [hb]; omega) (by omega)
  rw [this, hs]
  have e : madeCells (Value.int .i64 0).cells (n * 1) = Array.replicate n (.int .i64 0) := by
    apply Array.ext
    · simp [madeCells]
    · intro j h1 h2
      simp [madeCells, Value.cells, Nat.mod_one]
  simp only [Int.toNat_natCast, e]
theorem own_made_i (W : World) (B n : Nat) (hB : B ≤ W.heap.size) (hn : n ≤ 1000) : (W.alloc (.cells (Array.replicate n (.int .i64 0)) 3)).ownsRow B 3 1 (.slice (some ⟨W.heap.size, 0, none⟩) n n) n (intVs (List.replicate n 0)) := by
  refine ⟨by simp [intVs], Or.inr ⟨W.heap.size, n, _, rfl, hB, heap_new _ _, Nat.le_refl _, by simp only [maxLen]; omega, by simp, ?_⟩⟩
  rw [Array.toList_replicate, List.take_of_length_le (by simp)]
  simp [intVs]

end Go.Proofs.Ytppncdbhebgcaaa
