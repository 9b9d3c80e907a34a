/- Arguments opened: lists of lists, structs of ints. -/
import Derived.Test.YtpgjkmjejpfkmaaOpn
namespace Go.Proofs.Ytpgjkmjejpfkmaa
open Go.ChangeShapes Go.WideShapes Go.ChangeAt Go.RowKit

theorem i64_rng {n : Int} (w : (Lit.int .i64 n).wf = true) : -9223372036854775808 ≤ n ∧ n ≤ 9223372036854775807 := by
  simpa [Lit.wf, IntKind.min, IntKind.max, IntKind.signed, IntKind.bits] using w

set_option maxRecDepth 100000 in
theorem open_lists_top {H : Type} {enc : TypeId × Value → H} {W : World} {r : Reach} {b0 base : Nat} {held : Bool} {v : Value} {d : DataW H} {p : List MemPlace}
    (hv : Value.okWide Try.prog W r b0 22 v) (h : DataW.Trod enc Try.prog W base (fun _ => true) held 22 v d p) :
    ∃ p c L, v = .slice p (List.length L) c ∧ ListsAt W p L ∧ L.length ≤ 9223372036854775807 ∧ ∀ l ∈ L, l.length ≤ 9223372036854775807 := by
  obtain ⟨a, len, cap, rfl⟩ := okWide_slice Try.underlying22 hv
  obtain ⟨fuel, hf⟩ := h
  exact open_lists_any Try.underlying22 (by simpa [Value.cells] using hf)
end Go.Proofs.Ytpgjkmjejpfkmaa
