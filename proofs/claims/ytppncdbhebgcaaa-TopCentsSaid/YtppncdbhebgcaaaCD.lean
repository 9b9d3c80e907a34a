
/- Charts: the reference's Check, IsTitle, IsRank. Charts: the reference's numbers. Charts: the walk of Far. Charts: ready, isKnown, subset. -/
import Derived.Test.YtppncdbhebgcaaaCB
import Derived.Test.YtppncdbhebgcaaaQ9c
namespace Go.Proofs.Ytppncdbhebgcaaa
open Go.RowKit

end Go.Proofs.Ytppncdbhebgcaaa
namespace Go.Proofs.Ytppncdbhebgcaaa
open Go.RowKit

def LisF (l : List Int) (z : Int) (B : Nat) (v : Value) (_ _ : Nat) (w : World) : Prop := ∃ u, v = .tuple #[u, .int .i64 z] ∧ w.ownsRow B 3 1 u l.length (intVs l)
theorem LisF.mono {l : List Int} {z : Int} {B : Nat} : ∀ v s t w w', Ext w w' → LisF l z B v s t w → LisF l z B v s t w' := fun _ _ _ _ _ hE ⟨u, h1, h2⟩ => ⟨u, h1, ownsRow_ext h2 hE⟩
def OwnF (l : List Int) (B : Nat) (v : Value) (_ _ : Nat) (w : World) : Prop := w.ownsRow B 3 1 v l.length (intVs l)
theorem OwnF.mono {l : List Int} {B : Nat} : ∀ v s t w w', Ext w w' → OwnF l B v s t w → OwnF l B v s t w' := fun _ _ _ _ _ hE h => ownsRow_ext h hE
/-- a new slice of one element -/
def OneF (x : Value) (v : Value) (_ _ : Nat) (w : World) : Prop := ∃ g, v = .slice (some ⟨g, 0, none⟩) 1 1 ∧ w.cell? ⟨g, 0, none⟩ = some x
theorem OneF.mono {x : Value} : ∀ v s t w w', Ext w w' → OneF x v s t w → OneF x v s t w' := fun _ _ _ _ _ hE ⟨g, h1, h2⟩ => ⟨g, h1, hE.cell h2⟩
end Go.Proofs.Ytppncdbhebgcaaa
namespace Go.Proofs.Ytppncdbhebgcaaa
open Go.RowKit

end Go.Proofs.Ytppncdbhebgcaaa
namespace Go.Proofs.Ytppncdbhebgcaaa
open Go.RowKit

end Go.Proofs.Ytppncdbhebgcaaa
