
/- A tray opened. -/
import Derived.Test.YtppncdbhebgcaaaXK
import Derived.Test.YtppncdbhebgcaaaYA
namespace Go.Proofs.Ytppncdbhebgcaaa
open Go.ChangeShapes Go.WideShapes Go.ChangeAt Go.RowKit Go.Deep

end Go.Proofs.Ytppncdbhebgcaaa
namespace Go.Proofs.Ytppncdbhebgcaaa
open Go.ChangeShapes Go.WideShapes Go.ChangeAt Go.RowKit Go.Deep

/-- a slice of trays -/
def TysAt (w : World) (p : Option Addr) (L : List TrayD) : Prop :=
  ∀ i (h : i < L.length), ∃ b o q c r d, p = some ⟨b, o, none⟩ ∧ w.cell? ⟨b, o + i * 5, none⟩ = some (.slice q L[i].recs.length c) ∧ w.cell? ⟨b, o + i * 5 + 1, none⟩ = some (.int .i64 L[i].at_) ∧ w.cell? ⟨b, o + i * 5 + 2, none⟩ = some (.int .i64 L[i].way) ∧
    w.cell? ⟨b, o + i * 5 + 3, none⟩ = some (.int .i64 L[i].step) ∧ w.cell? ⟨b, o + i * 5 + 4, none⟩ = some (.slice r L[i].prs.length d) ∧ PairsAt w q L[i].recs ∧ PairsAt w r L[i].prs
theorem TysAt.ext {w w' : World} {p : Option Addr} {L : List TrayD} (h : TysAt w p L) (hE : Ext w w') : TysAt w' p L := by
  intro i hi
  obtain ⟨b, o, q, c, r, d, e, h1, h2, h3, h4, h5, h6, h7⟩ := h i hi
  exact ⟨b, o, q, c, r, d, e, hE.cell h1, hE.cell h2, hE.cell h3, hE.cell h4, hE.cell h5, h6.ext hE, h7.ext hE⟩
instance : Inhabited TrayD := ⟨⟨[], 0, 0, 0, []⟩⟩
end Go.Proofs.Ytppncdbhebgcaaa
