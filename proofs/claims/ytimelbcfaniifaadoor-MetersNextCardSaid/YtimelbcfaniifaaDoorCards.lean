/-
  DERIVED. GIVEN WITH THE SEED: THE CARDS: each row of YtimelbcfaniifaaDoorRows.lean that lists a variable, with what it lists TIED to the program's text (the seventh form; the later family's looks); each row that meets fmt, with fmt's text TOLD by the authors' own Lean function (tested against real Go, not proved from fmt's source: count such statements apart). THE CARD IS WHAT COUNTS. Prove the row's statement (the work); the ties are given (YtimelbcfaniifaaDoorTie.lean); close each card by the builder's one call (the guide's Derived/Test/ToyasCard.lean, 'card_holds'). Laid BY PROGRAM, IN A SANDBOX (cutbox-door.mjs). By AI agents, Wed Nov 11 2026. No macro, syntax, notation, axiom, sorry.
-/
import Derived.Test.YtimelbcfaniifaaDoorRows
import GoSem.ClaimSeven
namespace Go.Proofs.YtimelbcfaniifaaDoor
namespace Rows

/-- THE TIED CARD OF 'shellaclaw04.MetersParts'. -/
def metersPartsCard : Claim7 := { stood := { row := metersPartsRow, standIns := [], harness := (true, "0b9e8f91935929bf701675c2f016b8f102146402928c8d4405e7b8aaf6d6c7ba"), looks := false }, kinds := [], alts := [], laidByText := true, laidKinds := [.data], laidTests := true, laidLooks := .later }
def MetersPartsCardSaid : Prop := Claim7.holds Tryd.pinned (.plain (OpenSpec.ofChange metersPartsSpec)) metersPartsCard

/-- THE TIED CARD OF 'shellaclaw04.MetersNext'. -/
def metersNextCard : Claim7 := { stood := { row := metersNextRow, standIns := [], harness := (true, "0b9e8f91935929bf701675c2f016b8f102146402928c8d4405e7b8aaf6d6c7ba"), looks := false }, kinds := [], alts := [], laidByText := true, laidKinds := [.data], laidTests := true, laidLooks := .later }
def MetersNextCardSaid : Prop := Claim7.holds Tryd.pinned (.plain (OpenSpec.ofChange metersNextSpec)) metersNextCard

/-- THE TIED CARD OF 'shellaclaw04.MetersMore'. -/
def metersMoreCard : Claim7 := { stood := { row := metersMoreRow, standIns := [], harness := (true, "0b9e8f91935929bf701675c2f016b8f102146402928c8d4405e7b8aaf6d6c7ba"), looks := false }, kinds := [], alts := [], laidByText := true, laidKinds := [.data], laidTests := true, laidLooks := .later }
def MetersMoreCardSaid : Prop := Claim7.holds Tryd.pinned (.plain (OpenSpec.ofChange metersMoreSpec)) metersMoreCard

/-- THE TIED CARD OF 'shellaclaw04.MetersHundred'. -/
def metersHundredCard : Claim7 := { stood := { row := metersHundredRow, standIns := [], harness := (true, "0b9e8f91935929bf701675c2f016b8f102146402928c8d4405e7b8aaf6d6c7ba"), looks := false }, kinds := [], alts := [], laidByText := true, laidKinds := [.data], laidTests := true, laidLooks := .later }
def MetersHundredCardSaid : Prop := Claim7.holds Tryd.pinned (.plain (OpenSpec.ofChange metersHundredSpec)) metersHundredCard

/-- THE TIED CARD OF 'shellaclaw04.MetersBack'. -/
def metersBackCard : Claim7 := { stood := { row := metersBackRow, standIns := [], harness := (true, "0b9e8f91935929bf701675c2f016b8f102146402928c8d4405e7b8aaf6d6c7ba"), looks := false }, kinds := [], alts := [], laidByText := true, laidKinds := [.data], laidTests := true, laidLooks := .later }
def MetersBackCardSaid : Prop := Claim7.holds Tryd.pinned (.plain (OpenSpec.ofChange metersBackSpec)) metersBackCard

/-- THE TIED CARD OF 'shellaclaw04.MetersOrder'. -/
def metersOrderCard : Claim7 := { stood := { row := metersOrderRow, standIns := [], harness := (true, "0b9e8f91935929bf701675c2f016b8f102146402928c8d4405e7b8aaf6d6c7ba"), looks := false }, kinds := [], alts := [], laidByText := true, laidKinds := [.data], laidTests := true, laidLooks := .later }
def MetersOrderCardSaid : Prop := Claim7.holds Tryd.pinned (.plain (OpenSpec.ofChange metersOrderSpec)) metersOrderCard

/-- THE TIED CARD OF 'shellaclaw04.MetersFewest'. -/
def metersFewestCard : Claim7 := { stood := { row := metersFewestRow, standIns := [], harness := (true, "0b9e8f91935929bf701675c2f016b8f102146402928c8d4405e7b8aaf6d6c7ba"), looks := false }, kinds := [], alts := [], laidByText := true, laidKinds := [.data], laidTests := true, laidLooks := .later }
def MetersFewestCardSaid : Prop := Claim7.holds Tryd.pinned (.plain (OpenSpec.ofChange metersFewestSpec)) metersFewestCard

/-- THE TIED CARD OF 'shellaclaw04.MetersSums'. -/
def metersSumsCard : Claim7 := { stood := { row := metersSumsRow, standIns := [], harness := (true, "0b9e8f91935929bf701675c2f016b8f102146402928c8d4405e7b8aaf6d6c7ba"), looks := false }, kinds := [], alts := [], laidByText := true, laidKinds := [.data], laidTests := true, laidLooks := .later }
def MetersSumsCardSaid : Prop := Claim7.holds Tryd.pinned (.plain (OpenSpec.ofChange metersSumsSpec)) metersSumsCard

/-- THE TIED CARD OF 'shellaclaw04.MetersStart'. -/
def metersStartCard : Claim7 := { stood := { row := metersStartRow, standIns := [], harness := (true, "0b9e8f91935929bf701675c2f016b8f102146402928c8d4405e7b8aaf6d6c7ba"), looks := false }, kinds := [], alts := [], laidByText := true, laidKinds := [.data], laidTests := true, laidLooks := .later }
def MetersStartCardSaid : Prop := Claim7.holds Tryd.pinned (.plain (OpenSpec.ofChange metersStartSpec)) metersStartCard

/-- THE TIED CARD OF 'shellaclaw04.MetersTrue'. -/
def metersTrueCard : Claim7 := { stood := { row := metersTrueRow, standIns := [], harness := (true, "0b9e8f91935929bf701675c2f016b8f102146402928c8d4405e7b8aaf6d6c7ba"), looks := false }, kinds := [], alts := [], laidByText := true, laidKinds := [.data], laidTests := true, laidLooks := .later }
def MetersTrueCardSaid : Prop := Claim7.holds Tryd.pinned (.plain (OpenSpec.ofChange metersTrueSpec)) metersTrueCard

/-- THE TIED CARD OF 'shellactop.TopMetered'. -/
def topMeteredCard : Claim7 := { stood := { row := topMeteredRow, standIns := [], harness := (true, "0b9e8f91935929bf701675c2f016b8f102146402928c8d4405e7b8aaf6d6c7ba"), looks := false }, kinds := [], alts := [], laidByText := true, laidKinds := [.data], laidTests := true, laidLooks := .later }
def TopMeteredCardSaid : Prop := Claim7.holds Tryd.pinned (.plain (OpenSpec.ofChange topMeteredSpec)) topMeteredCard

/-- THE SECOND FORM's CARD OF 'shellaclaw04.MetersParts'. -/
def metersPartsUptoCard : Claim7 := { stood := { row := metersPartsUptoRow, standIns := [], harness := (true, "0b9e8f91935929bf701675c2f016b8f102146402928c8d4405e7b8aaf6d6c7ba"), looks := false }, kinds := [], alts := [], laidByText := true, laidKinds := [.data], laidTests := true, laidLooks := .later }
def MetersPartsUptoCardSaid : Prop := Claim7.holds Tryd.pinned (.plain (OpenSpec.upto metersPartsSpec)) metersPartsUptoCard

/-- THE SECOND FORM's CARD OF 'shellaclaw04.MetersNext'. -/
def metersNextUptoCard : Claim7 := { stood := { row := metersNextUptoRow, standIns := [], harness := (true, "0b9e8f91935929bf701675c2f016b8f102146402928c8d4405e7b8aaf6d6c7ba"), looks := false }, kinds := [], alts := [], laidByText := true, laidKinds := [.data], laidTests := true, laidLooks := .later }
def MetersNextUptoCardSaid : Prop := Claim7.holds Tryd.pinned (.plain (OpenSpec.upto metersNextSpec)) metersNextUptoCard

/-- THE SECOND FORM's CARD OF 'shellaclaw04.MetersMore'. -/
def metersMoreUptoCard : Claim7 := { stood := { row := metersMoreUptoRow, standIns := [], harness := (true, "0b9e8f91935929bf701675c2f016b8f102146402928c8d4405e7b8aaf6d6c7ba"), looks := false }, kinds := [], alts := [], laidByText := true, laidKinds := [.data], laidTests := true, laidLooks := .later }
def MetersMoreUptoCardSaid : Prop := Claim7.holds Tryd.pinned (.plain (OpenSpec.upto metersMoreSpec)) metersMoreUptoCard

/-- THE SECOND FORM's CARD OF 'shellaclaw04.MetersHundred'. -/
def metersHundredUptoCard : Claim7 := { stood := { row := metersHundredUptoRow, standIns := [], harness := (true, "0b9e8f91935929bf701675c2f016b8f102146402928c8d4405e7b8aaf6d6c7ba"), looks := false }, kinds := [], alts := [], laidByText := true, laidKinds := [.data], laidTests := true, laidLooks := .later }
def MetersHundredUptoCardSaid : Prop := Claim7.holds Tryd.pinned (.plain (OpenSpec.upto metersHundredSpec)) metersHundredUptoCard

/-- THE SECOND FORM's CARD OF 'shellaclaw04.MetersBack'. -/
def metersBackUptoCard : Claim7 := { stood := { row := metersBackUptoRow, standIns := [], harness := (true, "0b9e8f91935929bf701675c2f016b8f102146402928c8d4405e7b8aaf6d6c7ba"), looks := false }, kinds := [], alts := [], laidByText := true, laidKinds := [.data], laidTests := true, laidLooks := .later }
def MetersBackUptoCardSaid : Prop := Claim7.holds Tryd.pinned (.plain (OpenSpec.upto metersBackSpec)) metersBackUptoCard

/-- THE SECOND FORM's CARD OF 'shellaclaw04.MetersOrder'. -/
def metersOrderUptoCard : Claim7 := { stood := { row := metersOrderUptoRow, standIns := [], harness := (true, "0b9e8f91935929bf701675c2f016b8f102146402928c8d4405e7b8aaf6d6c7ba"), looks := false }, kinds := [], alts := [], laidByText := true, laidKinds := [.data], laidTests := true, laidLooks := .later }
def MetersOrderUptoCardSaid : Prop := Claim7.holds Tryd.pinned (.plain (OpenSpec.upto metersOrderSpec)) metersOrderUptoCard

/-- THE SECOND FORM's CARD OF 'shellaclaw04.MetersFewest'. -/
def metersFewestUptoCard : Claim7 := { stood := { row := metersFewestUptoRow, standIns := [], harness := (true, "0b9e8f91935929bf701675c2f016b8f102146402928c8d4405e7b8aaf6d6c7ba"), looks := false }, kinds := [], alts := [], laidByText := true, laidKinds := [.data], laidTests := true, laidLooks := .later }
def MetersFewestUptoCardSaid : Prop := Claim7.holds Tryd.pinned (.plain (OpenSpec.upto metersFewestSpec)) metersFewestUptoCard

/-- THE SECOND FORM's CARD OF 'shellaclaw04.MetersSums'. -/
def metersSumsUptoCard : Claim7 := { stood := { row := metersSumsUptoRow, standIns := [], harness := (true, "0b9e8f91935929bf701675c2f016b8f102146402928c8d4405e7b8aaf6d6c7ba"), looks := false }, kinds := [], alts := [], laidByText := true, laidKinds := [.data], laidTests := true, laidLooks := .later }
def MetersSumsUptoCardSaid : Prop := Claim7.holds Tryd.pinned (.plain (OpenSpec.upto metersSumsSpec)) metersSumsUptoCard

/-- THE SECOND FORM's CARD OF 'shellaclaw04.MetersStart'. -/
def metersStartUptoCard : Claim7 := { stood := { row := metersStartUptoRow, standIns := [], harness := (true, "0b9e8f91935929bf701675c2f016b8f102146402928c8d4405e7b8aaf6d6c7ba"), looks := false }, kinds := [], alts := [], laidByText := true, laidKinds := [.data], laidTests := true, laidLooks := .later }
def MetersStartUptoCardSaid : Prop := Claim7.holds Tryd.pinned (.plain (OpenSpec.upto metersStartSpec)) metersStartUptoCard

/-- THE SECOND FORM's CARD OF 'shellaclaw04.MetersTrue'. -/
def metersTrueUptoCard : Claim7 := { stood := { row := metersTrueUptoRow, standIns := [], harness := (true, "0b9e8f91935929bf701675c2f016b8f102146402928c8d4405e7b8aaf6d6c7ba"), looks := false }, kinds := [], alts := [], laidByText := true, laidKinds := [.data], laidTests := true, laidLooks := .later }
def MetersTrueUptoCardSaid : Prop := Claim7.holds Tryd.pinned (.plain (OpenSpec.upto metersTrueSpec)) metersTrueUptoCard

/-- THE SECOND FORM's CARD OF 'shellactop.TopMetered'. -/
def topMeteredUptoCard : Claim7 := { stood := { row := topMeteredUptoRow, standIns := [], harness := (true, "0b9e8f91935929bf701675c2f016b8f102146402928c8d4405e7b8aaf6d6c7ba"), looks := false }, kinds := [], alts := [], laidByText := true, laidKinds := [.data], laidTests := true, laidLooks := .later }
def TopMeteredUptoCardSaid : Prop := Claim7.holds Tryd.pinned (.plain (OpenSpec.upto topMeteredSpec)) topMeteredUptoCard
end Rows
end Go.Proofs.YtimelbcfaniifaaDoor
