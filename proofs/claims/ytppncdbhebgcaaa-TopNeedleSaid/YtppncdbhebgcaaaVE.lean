
/- The walk of choices: the function that yields each choice. The walk of least. The walk of seek, and of Cheapest. The walks of Cheapest and Last, of a valid box. The walk of Last, of a valid box. -/
import Derived.Test.YtppncdbhebgcaaaVD
import Derived.Test.YtppncdbhebgcaaaVA
import Derived.Test.YtppncdbhebgcaaaVC
namespace Go.Proofs.Ytppncdbhebgcaaa.We
open Go.RowKit
attribute [local go_sem] Oper.semAt_some

/-- the blocks of the iterator -/
structure CiAt (X : Wr) (p q : Option Addr) (c d b long : Nat) (a W : World) : Prop where
  box : W.heap[b]? = some (bxO X p c q d)
  long : W.heap[b + 1]? = some (.cells #[.int .i64 long] 3)
  ext : Ext a W
theorem CiAt.fr {X : Wr} {p q : Option Addr} {c d b long : Nat} {a w W : World} {E : Nat → Prop} (h : CiAt X p q c d b long a w) (hF : Fr E w W) (h0 : ¬E b) (h1 : ¬E (b + 1)) (ha : ∀ k, E k → a.heap.size ≤ k) : CiAt X p q c d b long a W :=
  ⟨(hF.block b (Array.getElem?_eq_some_iff.1 h.box).1 h0).trans h.box, (hF.block _ (Array.getElem?_eq_some_iff.1 h.long).1 h1).trans h.long, Fr.ext h.ext hF ha⟩

end Go.Proofs.Ytppncdbhebgcaaa.We
namespace Go.Proofs.Ytppncdbhebgcaaa.We
open Go.RowKit
attribute [local go_sem] Oper.semAt_some

end Go.Proofs.Ytppncdbhebgcaaa.We
namespace Go.Proofs.Ytppncdbhebgcaaa.We
open Go.RowKit

theorem ChPost.mono {o : Option Ch} {w w0 : World} {e : Ending} {w' : World} (h : ChPost o w e w') (hE : Ext w0 w) : ChPost o w0 e w' := by
  refine ⟨hE.trans h.1, ?_⟩
  have h2 := h.2
  cases o with
  | none => exact h2
  | some c =>
    obtain ⟨v, hv, p, cap, h3, h4, h5⟩ := h2
    exact ⟨v, hv, p, cap, h3, h4, fun a ha => Nat.le_trans hE.size (h5 a ha)⟩

end Go.Proofs.Ytppncdbhebgcaaa.We
namespace Go.Proofs.Ytppncdbhebgcaaa.We
open Go.RowKit

end Go.Proofs.Ytppncdbhebgcaaa.We
namespace Go.Proofs.Ytppncdbhebgcaaa.We
open Go.RowKit

end Go.Proofs.Ytppncdbhebgcaaa.We
