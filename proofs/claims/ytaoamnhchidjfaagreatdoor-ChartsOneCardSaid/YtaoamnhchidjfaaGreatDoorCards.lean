/-
  DERIVED. GIVEN WITH THE SEED: THE CARDS: each row of YtaoamnhchidjfaaGreatDoorRows.lean that lists a variable, with what it lists TIED to the program's text (the seventh form; the later family's looks); each row that meets fmt, with fmt's text TOLD by the authors' own Lean function (tested against real Go, not proved from fmt's source: count such statements apart). THE CARD IS WHAT COUNTS. Prove the row's statement (the work); the ties are given (YtaoamnhchidjfaaGreatDoorTie.lean); close each card by the builder's one call (the guide's Derived/Test/ToyasCard.lean, 'card_holds'). Laid BY PROGRAM, IN A SANDBOX (cutbox-door.mjs). By AI agents, Wed Nov 11 2026. No macro, syntax, notation, axiom, sorry.
-/
import Derived.Test.YtaoamnhchidjfaaGreatDoorRows
import GoSem.ClaimSeven
namespace Go.Proofs.YtaoamnhchidjfaaGreatDoor
namespace Rows

/-- THE TIED CARD OF 'shellaclaw06.ChartsRank'. -/
def chartsRankCard : Claim7 := { stood := { row := chartsRankRow, standIns := [], harness := (true, "55f91f9936c558805ddc7b5c2270f2c81798926afc5096ac9f9afd267f2872eb"), looks := false }, kinds := [], alts := [], laidByText := true, laidKinds := [.data], laidTests := true, laidLooks := .later }
def ChartsRankCardSaid : Prop := Claim7.holds Tryz.pinned (.plain (OpenSpec.ofChange chartsRankSpec)) chartsRankCard

/-- THE TIED CARD OF 'shellaclaw06.ChartsTrue'. -/
def chartsTrueCard : Claim7 := { stood := { row := chartsTrueRow, standIns := [], harness := (true, "55f91f9936c558805ddc7b5c2270f2c81798926afc5096ac9f9afd267f2872eb"), looks := false }, kinds := [], alts := [], laidByText := true, laidKinds := [.data], laidTests := true, laidLooks := .later }
def ChartsTrueCardSaid : Prop := Claim7.holds Tryz.pinned (.plain (OpenSpec.ofChange chartsTrueSpec)) chartsTrueCard

/-- THE TIED CARD OF 'shellaclaw06.ChartsMore'. -/
def chartsMoreCard : Claim7 := { stood := { row := chartsMoreRow, standIns := [], harness := (true, "55f91f9936c558805ddc7b5c2270f2c81798926afc5096ac9f9afd267f2872eb"), looks := false }, kinds := [], alts := [], laidByText := true, laidKinds := [.data], laidTests := true, laidLooks := .later }
def ChartsMoreCardSaid : Prop := Claim7.holds Tryz.pinned (.plain (OpenSpec.ofChange chartsMoreSpec)) chartsMoreCard

/-- THE TIED CARD OF 'shellaclaw06.ChartsTop'. -/
def chartsTopCard : Claim7 := { stood := { row := chartsTopRow, standIns := [], harness := (true, "55f91f9936c558805ddc7b5c2270f2c81798926afc5096ac9f9afd267f2872eb"), looks := false }, kinds := [], alts := [], laidByText := true, laidKinds := [.data], laidTests := true, laidLooks := .later }
def ChartsTopCardSaid : Prop := Claim7.holds Tryz.pinned (.plain (OpenSpec.ofChange chartsTopSpec)) chartsTopCard

/-- THE TIED CARD OF 'shellaclaw06.ChartsOne'. -/
def chartsOneCard : Claim7 := { stood := { row := chartsOneRow, standIns := [], harness := (true, "55f91f9936c558805ddc7b5c2270f2c81798926afc5096ac9f9afd267f2872eb"), looks := false }, kinds := [], alts := [], laidByText := true, laidKinds := [.data], laidTests := true, laidLooks := .later }
def ChartsOneCardSaid : Prop := Claim7.holds Tryz.pinned (.plain (OpenSpec.ofChange chartsOneSpec)) chartsOneCard

/-- THE TIED CARD OF 'shellaclaw06.ChartsOrders'. -/
def chartsOrdersCard : Claim7 := { stood := { row := chartsOrdersRow, standIns := [], harness := (true, "55f91f9936c558805ddc7b5c2270f2c81798926afc5096ac9f9afd267f2872eb"), looks := false }, kinds := [], alts := [], laidByText := true, laidKinds := [.data], laidTests := true, laidLooks := .later }
def ChartsOrdersCardSaid : Prop := Claim7.holds Tryz.pinned (.plain (OpenSpec.ofChange chartsOrdersSpec)) chartsOrdersCard

/-- THE TIED CARD OF 'shellactop.TopCharted'. -/
def topChartedCard : Claim7 := { stood := { row := topChartedRow, standIns := [], harness := (true, "55f91f9936c558805ddc7b5c2270f2c81798926afc5096ac9f9afd267f2872eb"), looks := false }, kinds := [], alts := [], laidByText := true, laidKinds := [.data], laidTests := true, laidLooks := .later }
def TopChartedCardSaid : Prop := Claim7.holds Tryz.pinned (.plain (OpenSpec.ofChange topChartedSpec)) topChartedCard

/-- THE TIED CARD OF 'shellactop.TopHits'. -/
def topHitsCard : Claim7 := { stood := { row := topHitsRow, standIns := [], harness := (true, "55f91f9936c558805ddc7b5c2270f2c81798926afc5096ac9f9afd267f2872eb"), looks := false }, kinds := [], alts := [], laidByText := true, laidKinds := [.data], laidTests := true, laidLooks := .later }
def TopHitsCardSaid : Prop := Claim7.holds Tryz.pinned (.plain (OpenSpec.ofChange topHitsSpec)) topHitsCard

/-- THE SECOND FORM's CARD OF 'shellaclaw06.ChartsRank'. -/
def chartsRankUptoCard : Claim7 := { stood := { row := chartsRankUptoRow, standIns := [], harness := (true, "55f91f9936c558805ddc7b5c2270f2c81798926afc5096ac9f9afd267f2872eb"), looks := false }, kinds := [], alts := [], laidByText := true, laidKinds := [.data], laidTests := true, laidLooks := .later }
def ChartsRankUptoCardSaid : Prop := Claim7.holds Tryz.pinned (.plain (OpenSpec.upto chartsRankSpec)) chartsRankUptoCard

/-- THE SECOND FORM's CARD OF 'shellaclaw06.ChartsTrue'. -/
def chartsTrueUptoCard : Claim7 := { stood := { row := chartsTrueUptoRow, standIns := [], harness := (true, "55f91f9936c558805ddc7b5c2270f2c81798926afc5096ac9f9afd267f2872eb"), looks := false }, kinds := [], alts := [], laidByText := true, laidKinds := [.data], laidTests := true, laidLooks := .later }
def ChartsTrueUptoCardSaid : Prop := Claim7.holds Tryz.pinned (.plain (OpenSpec.upto chartsTrueSpec)) chartsTrueUptoCard

/-- THE SECOND FORM's CARD OF 'shellaclaw06.ChartsMore'. -/
def chartsMoreUptoCard : Claim7 := { stood := { row := chartsMoreUptoRow, standIns := [], harness := (true, "55f91f9936c558805ddc7b5c2270f2c81798926afc5096ac9f9afd267f2872eb"), looks := false }, kinds := [], alts := [], laidByText := true, laidKinds := [.data], laidTests := true, laidLooks := .later }
def ChartsMoreUptoCardSaid : Prop := Claim7.holds Tryz.pinned (.plain (OpenSpec.upto chartsMoreSpec)) chartsMoreUptoCard

/-- THE SECOND FORM's CARD OF 'shellaclaw06.ChartsTop'. -/
def chartsTopUptoCard : Claim7 := { stood := { row := chartsTopUptoRow, standIns := [], harness := (true, "55f91f9936c558805ddc7b5c2270f2c81798926afc5096ac9f9afd267f2872eb"), looks := false }, kinds := [], alts := [], laidByText := true, laidKinds := [.data], laidTests := true, laidLooks := .later }
def ChartsTopUptoCardSaid : Prop := Claim7.holds Tryz.pinned (.plain (OpenSpec.upto chartsTopSpec)) chartsTopUptoCard

/-- THE SECOND FORM's CARD OF 'shellaclaw06.ChartsOne'. -/
def chartsOneUptoCard : Claim7 := { stood := { row := chartsOneUptoRow, standIns := [], harness := (true, "55f91f9936c558805ddc7b5c2270f2c81798926afc5096ac9f9afd267f2872eb"), looks := false }, kinds := [], alts := [], laidByText := true, laidKinds := [.data], laidTests := true, laidLooks := .later }
def ChartsOneUptoCardSaid : Prop := Claim7.holds Tryz.pinned (.plain (OpenSpec.upto chartsOneSpec)) chartsOneUptoCard

/-- THE SECOND FORM's CARD OF 'shellaclaw06.ChartsOrders'. -/
def chartsOrdersUptoCard : Claim7 := { stood := { row := chartsOrdersUptoRow, standIns := [], harness := (true, "55f91f9936c558805ddc7b5c2270f2c81798926afc5096ac9f9afd267f2872eb"), looks := false }, kinds := [], alts := [], laidByText := true, laidKinds := [.data], laidTests := true, laidLooks := .later }
def ChartsOrdersUptoCardSaid : Prop := Claim7.holds Tryz.pinned (.plain (OpenSpec.upto chartsOrdersSpec)) chartsOrdersUptoCard

/-- THE SECOND FORM's CARD OF 'shellactop.TopCharted'. -/
def topChartedUptoCard : Claim7 := { stood := { row := topChartedUptoRow, standIns := [], harness := (true, "55f91f9936c558805ddc7b5c2270f2c81798926afc5096ac9f9afd267f2872eb"), looks := false }, kinds := [], alts := [], laidByText := true, laidKinds := [.data], laidTests := true, laidLooks := .later }
def TopChartedUptoCardSaid : Prop := Claim7.holds Tryz.pinned (.plain (OpenSpec.upto topChartedSpec)) topChartedUptoCard

/-- THE SECOND FORM's CARD OF 'shellactop.TopHits'. -/
def topHitsUptoCard : Claim7 := { stood := { row := topHitsUptoRow, standIns := [], harness := (true, "55f91f9936c558805ddc7b5c2270f2c81798926afc5096ac9f9afd267f2872eb"), looks := false }, kinds := [], alts := [], laidByText := true, laidKinds := [.data], laidTests := true, laidLooks := .later }
def TopHitsUptoCardSaid : Prop := Claim7.holds Tryz.pinned (.plain (OpenSpec.upto topHitsSpec)) topHitsUptoCard
end Rows
end Go.Proofs.YtaoamnhchidjfaaGreatDoor
