
/- The walk of the reference's truths. -/
import Derived.Test.YtppncdbhebgcaaaQ8b
namespace Go.Proofs.Ytppncdbhebgcaaa
open Go.RowKit

theorem ownsRow_at2 {w : World} {B : Nat} {e : TypeId} {v : Value} {n : Nat} {xs : List Value} (h : w.ownsRow B e 2 v n xs) (hn : 0 < n) :
    ∃ b c, v = .slice (some ⟨b, 0, none⟩) n c ∧ ∀ i, i < n * 2 → w.cell? ⟨b, i, none⟩ = xs[i]? := by
  rcases h.2 with ⟨-, h0⟩ | ⟨g, cap, cur, rfl, -, hg, hc, -, hs, hx⟩
  · omega
  · refine ⟨g, cap, rfl, fun i hi => ?_⟩
    rw [cell_of_heap hg, ← hx, List.getElem?_take, if_pos hi]
    simp
theorem own_slice {w : World} {B : Nat} {e : TypeId} {size : Nat} {v : Value} {n : Nat} {xs : List Value} (h : w.ownsRow B e size v n xs) : ∃ q cap, v = .slice q n cap := by
  rcases h.2 with ⟨hv, h0⟩ | ⟨b, cap, cur, hv, -⟩
  · exact ⟨none, 0, by rw [hv, h0]⟩
  · exact ⟨_, cap, hv⟩
/-- the values of truths, their plays read in W -/
def TrVs (W : World) (vs : List Value) (ts : List (Int × List Int)) : Prop :=
  vs.length = ts.length * 2 ∧ ∀ i (h : i < ts.length), vs[i * 2]? = some (.int .i64 ts[i].1) ∧ ∃ q c, vs[i * 2 + 1]? = some (.slice q ts[i].2.length c) ∧ IntsAt W q ts[i].2
theorem TrVs.nil (W : World) : TrVs W [] [] := ⟨rfl, fun i h => absurd h (by simp)⟩
/-- truths as a reader sees them -/
def TrsAt (w : World) (p : Option Addr) (ts : List (Int × List Int)) : Prop :=
  ∀ i (h : i < ts.length), ∃ b o q c, p = some ⟨b, o, none⟩ ∧ w.cell? ⟨b, o + i * 2, none⟩ = some (.int .i64 ts[i].1) ∧ w.cell? ⟨b, o + i * 2 + 1, none⟩ = some (.slice q ts[i].2.length c) ∧ IntsAt w q ts[i].2
theorem TrsAt.ext {w w' : World} {p : Option Addr} {ts : List (Int × List Int)} (h : TrsAt w p ts) (hE : Ext w w') : TrsAt w' p ts := by
  intro i hi
  obtain ⟨b, o, q, c, h0, h1, h2, h3⟩ := h i hi
  exact ⟨b, o, q, c, h0, hE.cell h1, hE.cell h2, h3.ext hE⟩
end Go.Proofs.Ytppncdbhebgcaaa
