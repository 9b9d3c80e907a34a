/-
  DERIVED. GIVEN WITH THE SEED: THE CARDS: each row of YtppncdbhebgcaaaGreatDoorRows.lean that lists a variable, with what it lists TIED to the program's text (the seventh form; the later family's looks); each row that meets fmt, with fmt's text TOLD by the authors' own Lean function (tested against real Go, not proved from fmt's source: count such statements apart). THE CARD IS WHAT COUNTS. Prove the row's statement (the work); the ties are given (YtppncdbhebgcaaaGreatDoorTie.lean); close each card by the builder's one call (the guide's Derived/Test/ToyasCard.lean, 'card_holds'). Laid BY PROGRAM, IN A SANDBOX (cutbox-door.mjs). By AI agents, Wed Nov 11 2026. No macro, syntax, notation, axiom, sorry.
-/
import Derived.Test.YtppncdbhebgcaaaGreatDoorRows
import GoSem.ClaimSeven
namespace Go.Proofs.YtppncdbhebgcaaaGreatDoor
namespace Rows

/-- THE TIED CARD OF 'shellactop.TopCharted'. -/
def topChartedCard : Claim7 := { stood := { row := topChartedRow, standIns := [], harness := (true, "024634312a1db2ddd616974c7948c4449dbada45a78eba25320912a6d5fdaf5c"), looks := false }, kinds := [], alts := [], laidByText := true, laidKinds := [.data], laidTests := true, laidLooks := .later }
def TopChartedCardSaid : Prop := Claim7.holds Tryz.pinned (.plain (OpenSpec.ofChange topChartedSpec)) topChartedCard

/-- THE TIED CARD OF 'shellactop.TopHits'. -/
def topHitsCard : Claim7 := { stood := { row := topHitsRow, standIns := [], harness := (true, "024634312a1db2ddd616974c7948c4449dbada45a78eba25320912a6d5fdaf5c"), looks := false }, kinds := [], alts := [], laidByText := true, laidKinds := [.data], laidTests := true, laidLooks := .later }
def TopHitsCardSaid : Prop := Claim7.holds Tryz.pinned (.plain (OpenSpec.ofChange topHitsSpec)) topHitsCard

/-- THE SECOND FORM's CARD OF 'shellactop.TopCharted'. -/
def topChartedUptoCard : Claim7 := { stood := { row := topChartedUptoRow, standIns := [], harness := (true, "024634312a1db2ddd616974c7948c4449dbada45a78eba25320912a6d5fdaf5c"), looks := false }, kinds := [], alts := [], laidByText := true, laidKinds := [.data], laidTests := true, laidLooks := .later }
def TopChartedUptoCardSaid : Prop := Claim7.holds Tryz.pinned (.plain (OpenSpec.upto topChartedSpec)) topChartedUptoCard

/-- THE SECOND FORM's CARD OF 'shellactop.TopHits'. -/
def topHitsUptoCard : Claim7 := { stood := { row := topHitsUptoRow, standIns := [], harness := (true, "024634312a1db2ddd616974c7948c4449dbada45a78eba25320912a6d5fdaf5c"), looks := false }, kinds := [], alts := [], laidByText := true, laidKinds := [.data], laidTests := true, laidLooks := .later }
def TopHitsUptoCardSaid : Prop := Claim7.holds Tryz.pinned (.plain (OpenSpec.upto topHitsSpec)) topHitsUptoCard
end Rows
end Go.Proofs.YtppncdbhebgcaaaGreatDoor
