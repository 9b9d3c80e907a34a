
/- Charts: the chapter's example. Charts: the numbers of the chapter's example. Charts: the walk of works. -/
import Derived.Test.YtppncdbhebgcaaaCD
import Derived.Test.YtppncdbhebgcaaaCC
import Derived.Test.YtppncdbhebgcaaaXH
namespace Go.Proofs.Ytppncdbhebgcaaa
open Go.RowKit

theorem PairsAt.off {w : World} {s0 : Nat} {t : TypeId} {p : Option Addr} {l : List (Int × Int)} (hm : w.heap[s0]? = some (.cells #[.slice none 0 0, .slice none 0 0, .int .i64 0, .int .i64 0] t)) (h : PairsAt w p l)
    {i : Nat} (hi : i < l.length) (hn : l[i].2 ≠ 0) : ∃ b o, p = some ⟨b, o, none⟩ ∧ b ≠ s0 := by
  obtain ⟨b, o, rfl, h1, h2⟩ := h i hi
  refine ⟨b, o, rfl, fun e => ?_⟩
  subst e
  rw [cell_of_heap hm] at h2
  rcases hk : (o + i * 2 + 1) with _ | _ | _ | _ | k
  all_goals rw [hk] at h2; simp at h2
  all_goals exact hn h2.symm
end Go.Proofs.Ytppncdbhebgcaaa
namespace Go.Proofs.Ytppncdbhebgcaaa
open Go.RowKit

end Go.Proofs.Ytppncdbhebgcaaa
namespace Go.Proofs.Ytppncdbhebgcaaa
open Go.RowKit

end Go.Proofs.Ytppncdbhebgcaaa
