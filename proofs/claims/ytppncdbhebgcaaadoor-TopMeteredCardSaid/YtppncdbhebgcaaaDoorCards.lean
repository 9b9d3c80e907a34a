/-
  DERIVED. GIVEN WITH THE SEED: THE CARDS: each row of YtppncdbhebgcaaaDoorRows.lean that lists a variable, with what it lists TIED to the program's text (the seventh form; the later family's looks); each row that meets fmt, with fmt's text TOLD by the authors' own Lean function (tested against real Go, not proved from fmt's source: count such statements apart). THE CARD IS WHAT COUNTS. Prove the row's statement (the work); the ties are given (YtppncdbhebgcaaaDoorTie.lean); close each card by the builder's one call (the guide's Derived/Test/ToyasCard.lean, 'card_holds'). Laid BY PROGRAM, IN A SANDBOX (cutbox-door.mjs). By AI agents, Wed Nov 11 2026. No macro, syntax, notation, axiom, sorry.
-/
import Derived.Test.YtppncdbhebgcaaaDoorRows
import GoSem.ClaimSeven
namespace Go.Proofs.YtppncdbhebgcaaaDoor
namespace Rows

/-- THE TIED CARD OF 'shellactop.TopMetered'. -/
def topMeteredCard : Claim7 := { stood := { row := topMeteredRow, standIns := [], harness := (true, "f0f8c5a580cf2701c3bf4b4a99d95bd5258d3d7ec6c3d137b4d5dc4c5606a85f"), looks := false }, kinds := [], alts := [], laidByText := true, laidKinds := [.data], laidTests := true, laidLooks := .later }
def TopMeteredCardSaid : Prop := Claim7.holds Tryd.pinned (.plain (OpenSpec.ofChange topMeteredSpec)) topMeteredCard

/-- THE SECOND FORM's CARD OF 'shellactop.TopMetered'. -/
def topMeteredUptoCard : Claim7 := { stood := { row := topMeteredUptoRow, standIns := [], harness := (true, "f0f8c5a580cf2701c3bf4b4a99d95bd5258d3d7ec6c3d137b4d5dc4c5606a85f"), looks := false }, kinds := [], alts := [], laidByText := true, laidKinds := [.data], laidTests := true, laidLooks := .later }
def TopMeteredUptoCardSaid : Prop := Claim7.holds Tryd.pinned (.plain (OpenSpec.upto topMeteredSpec)) topMeteredUptoCard
end Rows
end Go.Proofs.YtppncdbhebgcaaaDoor
