
/- Charts: one title has more plays, or each one has: plain law. Charts: one more reading: plain law. Charts: a reading is added to a meter in memory of its own: plain law of blocks. Charts: the extra plays of a chart in memory of its own are written. -/
import Derived.Test.YtppncdbhebgcaaaGreatDoorCA
import Derived.Test.YtppncdbhebgcaaaGreatDoorCC
import Derived.Test.YtppncdbhebgcaaaGreatDoorCF
namespace Go.Proofs.YtppncdbhebgcaaaGreatDoor
open Go.RowKit

/-- a chart, one title of which has other extra plays -/
def exS (C : Ch) (t : Nat) (v : Int) : Ch := { C with extra := C.extra.set t v }
section
variable {T : Tab}
end
end Go.Proofs.YtppncdbhebgcaaaGreatDoor
namespace Go.Proofs.YtppncdbhebgcaaaGreatDoor
open Go.RowKit

/-- a table, each number of which is one of another table -/
structure SubT (U T : Tab) : Prop where
  len : U.length = T.length
  row : ∀ i, i < T.length → ∀ v ∈ rowT U i, v ∈ rowT T i
section
variable {U T : Tab}
theorem SubT.tru (h : SubT U T) {x : Nat → Int} (hx : TruN U.length (rowT U) x) : TruN T.length (rowT T) x := fun i hi => h.row i hi _ (hx i (by rw [h.len]; exact hi))
end
end Go.Proofs.YtppncdbhebgcaaaGreatDoor
namespace Go.Proofs.YtppncdbhebgcaaaGreatDoor
open Go.RowKit

end Go.Proofs.YtppncdbhebgcaaaGreatDoor
namespace Go.Proofs.YtppncdbhebgcaaaGreatDoor
open Go.RowKit

theorem ChG.set {w : World} {B : Nat} {u : Value} {g cx : Nat} {C : Ch} (h : ChG w B u g cx C) (i : Nat) (v : Int) : ChG (w.setCell ⟨g, i, none⟩ (.int .i64 v)) B u g cx (exS C i v) := by
  obtain ⟨⟨vs, hM⟩, hX⟩ := h
  refine ⟨⟨vs, hM.setI _ hX⟩, ?_⟩
  have h2 := ownsRow_set (i := i) (m := v) hX
  show World.ownsRow _ _ _ _ (.slice (some ⟨g, 0, none⟩) (C.extra.set i v).length cx) (C.extra.set i v).length _
  rw [List.length_set]
  exact h2
theorem ChG.cell {w : World} {B : Nat} {u : Value} {g cx : Nat} {C : Ch} (h : ChG w B u g cx C) {i : Nat} (hi : i < C.extra.length) : w.cell? ⟨g, i, none⟩ = some (.int .i64 C.extra[i]) ∧ w.frozen? ⟨g, i, none⟩ = false :=
  ownsRow_cell h.2 hi
theorem ChG.le {w : World} {B : Nat} {u : Value} {g cx : Nat} {C : Ch} (h : ChG w B u g cx C) : B ≤ g ∧ g < w.heap.size := h.2.lt g rfl
end Go.Proofs.YtppncdbhebgcaaaGreatDoor
