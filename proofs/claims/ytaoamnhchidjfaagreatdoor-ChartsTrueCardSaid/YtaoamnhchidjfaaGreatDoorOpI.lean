
/- A list of numbers as an argument, opened. -/
import Derived.Test.YtaoamnhchidjfaaGreatDoorXK
namespace Go.Proofs.YtaoamnhchidjfaaGreatDoor
open Go.ChangeShapes Go.WideShapes Go.ChangeAt Go.RowKit Go.Deep

set_option maxRecDepth 100000 in
theorem open_ints_top {H : Type} {enc : TypeId × Value → H} {W : World} {r : Reach} {b0 base : Nat} {held : Bool} {v : Value} {d : DataW H} {p : List MemPlace}
    (hv : Value.okWide Tryz.prog W r b0 23 v) (h : DataW.Trod enc Tryz.prog W base (fun _ => true) held 23 v d p) :
    ∃ p c L, v = .slice p (List.length L) c ∧ IntsAt W p L ∧ L.length ≤ 9223372036854775807 := by
  obtain ⟨a, len, cap, rfl⟩ := okWide_slice Tryz.underlying23 hv
  obtain ⟨fuel, hf⟩ := h
  exact open_ints_any Tryz.underlying23 (by simpa [Value.cells] using hf)
end Go.Proofs.YtaoamnhchidjfaaGreatDoor
