/- The reference answers as the program does. Plain. -/
import Derived.Test.YtkcilgjkdiopnaaR3m
namespace Go.Proofs.Ytkcilgjkdiopnaa
open Go.RowKit

theorem refL_eq {X : Wr} (hX : ValidW X) : refL X = (choicesW X X.weeks.toNat).map fun c => RC.mk (popc c.needles) (costTo X c c.records.length) (replW c) :=
  refCh_law hX (by have := hX.weeks; omega)
theorem low_is {X : Wr} (hX : ValidW X) {f : RC → Int} {m : Int} (h1 : ∃ c ∈ choicesW X X.weeks.toNat, f (RC.mk (popc c.needles) (costTo X c c.records.length) (replW c)) = m)
    (h2 : ∀ c ∈ choicesW X X.weeks.toNat, m ≤ f (RC.mk (popc c.needles) (costTo X c c.records.length) (replW c))) : refV X f = .tuple #[.int .i64 m, .int .i64 0] := by
  obtain ⟨c, hc, e⟩ := h1
  have hm : RC.mk (popc c.needles) (costTo X c c.records.length) (replW c) ∈ refL X := by rw [refL_eq hX]; exact List.mem_map.2 ⟨c, hc, rfl⟩
  have hne : refL X ≠ [] := fun h => by rw [h] at hm; cases hm
  rw [refV_some hX hne]
  obtain ⟨i, hi, he⟩ := List.mem_iff_getElem.1 hm
  have h3 := lowR_le (f := f) (l := refL X) (refL X).length (Nat.le_refl _) i hi hi
  rw [he, e] at h3
  obtain ⟨d, hd, hde⟩ := lowR_mem (f := f) hne (refL X).length (Nat.le_refl _)
  rw [refL_eq hX] at hd
  obtain ⟨c2, hc2, rfl⟩ := List.mem_map.1 hd
  have h4 := h2 c2 hc2
  have : lowR f (refL X) (refL X).length = m := by omega
  rw [this]
theorem ref_answers {X : Wr} (hX : ValidW X) : refV X (priced X) = cheapV X ∧ refV X (fun c => c.needles) = needV X ∧ refV X (fun c => c.recs) = recsV X := by
  rcases answers hX with ⟨h0, h1, h2, h3⟩ | ⟨m, a, b, h1, h2, h3, -, -, -, k1, k2, k3, k4⟩
  · have hn : refL X = [] := by rw [refL_eq hX, h0]; rfl
    rw [h1, h2, h3, refV_nil hX hn, refV_nil hX hn, refV_nil hX hn]
    exact ⟨rfl, rfl, rfl⟩
  · rw [h1, h2, h3]
    exact ⟨low_is hX k1 (fun c hc => (k4 c hc).1), low_is hX k2 (fun c hc => (k4 c hc).2.1), low_is hX k3 (fun c hc => (k4 c hc).2.2)⟩
end Go.Proofs.Ytkcilgjkdiopnaa
