/-
  DERIVED. GIVEN WITH THE SEED: THE CARDS: each row of YtaoamnhchidjfaaDoorRows.lean that lists a variable, with what it lists TIED to the program's text (the seventh form; the later family's looks); each row that meets fmt, with fmt's text TOLD by the authors' own Lean function (tested against real Go, not proved from fmt's source: count such statements apart). THE CARD IS WHAT COUNTS. Prove the row's statement (the work); the ties are given (YtaoamnhchidjfaaDoorTie.lean); close each card by the builder's one call (the guide's Derived/Test/ToyasCard.lean, 'card_holds'). Laid BY PROGRAM, IN A SANDBOX (cutbox-door.mjs). By AI agents, Wed Nov 11 2026. No macro, syntax, notation, axiom, sorry.
-/
import Derived.Test.YtaoamnhchidjfaaDoorRows
import GoSem.ClaimSeven
namespace Go.Proofs.YtaoamnhchidjfaaDoor
namespace Rows

/-- THE TIED CARD OF 'shellaclaw06.ChartsMany'. -/
def chartsManyCard : Claim7 := { stood := { row := chartsManyRow, standIns := [], harness := (true, "bc9887d6e3f3441bac8276b2f7cfebbb7b28a37307f5c37233d4f774c9166922"), looks := false }, kinds := [], alts := [], laidByText := true, laidKinds := [.data], laidTests := true, laidLooks := .later }
def ChartsManyCardSaid : Prop := Claim7.holds Tryd.pinned (.plain (OpenSpec.ofChange chartsManySpec)) chartsManyCard

/-- THE TIED CARD OF 'shellaclaw06.ChartsPlayed'. -/
def chartsPlayedCard : Claim7 := { stood := { row := chartsPlayedRow, standIns := [], harness := (true, "bc9887d6e3f3441bac8276b2f7cfebbb7b28a37307f5c37233d4f774c9166922"), looks := false }, kinds := [], alts := [], laidByText := true, laidKinds := [.data], laidTests := true, laidLooks := .later }
def ChartsPlayedCardSaid : Prop := Claim7.holds Tryd.pinned (.plain (OpenSpec.ofChange chartsPlayedSpec)) chartsPlayedCard

/-- THE TIED CARD OF 'shellaclaw06.ChartsAll'. -/
def chartsAllCard : Claim7 := { stood := { row := chartsAllRow, standIns := [], harness := (true, "bc9887d6e3f3441bac8276b2f7cfebbb7b28a37307f5c37233d4f774c9166922"), looks := false }, kinds := [], alts := [], laidByText := true, laidKinds := [.data], laidTests := true, laidLooks := .later }
def ChartsAllCardSaid : Prop := Claim7.holds Tryd.pinned (.plain (OpenSpec.ofChange chartsAllSpec)) chartsAllCard

/-- THE SECOND FORM's CARD OF 'shellaclaw06.ChartsMany'. -/
def chartsManyUptoCard : Claim7 := { stood := { row := chartsManyUptoRow, standIns := [], harness := (true, "bc9887d6e3f3441bac8276b2f7cfebbb7b28a37307f5c37233d4f774c9166922"), looks := false }, kinds := [], alts := [], laidByText := true, laidKinds := [.data], laidTests := true, laidLooks := .later }
def ChartsManyUptoCardSaid : Prop := Claim7.holds Tryd.pinned (.plain (OpenSpec.upto chartsManySpec)) chartsManyUptoCard

/-- THE SECOND FORM's CARD OF 'shellaclaw06.ChartsPlayed'. -/
def chartsPlayedUptoCard : Claim7 := { stood := { row := chartsPlayedUptoRow, standIns := [], harness := (true, "bc9887d6e3f3441bac8276b2f7cfebbb7b28a37307f5c37233d4f774c9166922"), looks := false }, kinds := [], alts := [], laidByText := true, laidKinds := [.data], laidTests := true, laidLooks := .later }
def ChartsPlayedUptoCardSaid : Prop := Claim7.holds Tryd.pinned (.plain (OpenSpec.upto chartsPlayedSpec)) chartsPlayedUptoCard

/-- THE SECOND FORM's CARD OF 'shellaclaw06.ChartsAll'. -/
def chartsAllUptoCard : Claim7 := { stood := { row := chartsAllUptoRow, standIns := [], harness := (true, "bc9887d6e3f3441bac8276b2f7cfebbb7b28a37307f5c37233d4f774c9166922"), looks := false }, kinds := [], alts := [], laidByText := true, laidKinds := [.data], laidTests := true, laidLooks := .later }
def ChartsAllUptoCardSaid : Prop := Claim7.holds Tryd.pinned (.plain (OpenSpec.upto chartsAllSpec)) chartsAllUptoCard
end Rows
end Go.Proofs.YtaoamnhchidjfaaDoor
