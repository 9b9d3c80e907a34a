/-
  NARROWER THAN 'FOR EVERY INPUT', by the rows' own cells (each row's printed sentence says how): ChartsRank: laid · ChartsTrue: laid · ChartsMore: laid · ChartsTop: laid · ChartsOne: laid · ChartsOrders: laid · TopCharted: laid · TopHits: laid.
  DERIVED. THE GIVEN ROWS OF THIS SEAT. 8 by the template 'for every input the law returns true; each argument reads behind the call as it read before'; 0 by the template 'total and deterministic' (their statements: YtaoamnhchidjfaaGreatDoorTotals.lean).
  GIVEN WITH THE SEED: the statements are not yours to turn. If you find one false, say at which input.
  Laid BY PROGRAM, IN A SANDBOX (cutbox-rows.mjs): the forced cells as the released guide's own fill.sh prints them over the translation 6a608b19493de531… (all of the seat's roots in one cut). By AI agents, Wed Nov 11 2026. No macro, syntax, notation, axiom, sorry.
-/
import Derived.Test.YtaoamnhchidjfaaGreatDoorChecked
import GoSem.Claim
import GoSem.ClaimJoined
import GoSem.ClaimMapViews
import Derived.JoinedTies
import Derived.KernelRfl
namespace Go.Proofs.YtaoamnhchidjfaaGreatDoor
/- THE CELL 'sum', in the pinned program and in every row, IS THE sha256 OF THE DUMP (.gsa) THAT YtaoamnhchidjfaaGreatDoorProg.lean LOADS. Nothing in Lean hashes anything: it is a label: what it is worth is what the hold of that sum in a sandbox is worth. -/
noncomputable def Tryz.pinned : Pinned := { name := "ytaoamnhchidjfaagreatdoor", sum := "6a608b19493de53163644c57f4ea87e63520738599a97111625567f23224b603", checked := Tryz.checked }
namespace Rows
def none {H : Type} : Left H := { results := [], args := [] }

/- WHAT THE LISTED PACKAGE-LEVEL VARIABLES READ AS WHEN THE CALL BEGINS. Each datum BY PROGRAM (the guide's laid-datum.mjs) off the statement by which the dump's own 'gosem.cut.vars' lays the variable. In a bare row this is a premise. The card (YtaoamnhchidjfaaGreatDoorCards.lean) ties it to the program's text. -/
def laid_math_bits_deBruijn64tab {H : Type} : DataW H := .agg [.lit (.int .u8 0), .lit (.int .u8 1), .lit (.int .u8 56), .lit (.int .u8 2), .lit (.int .u8 57), .lit (.int .u8 49), .lit (.int .u8 28), .lit (.int .u8 3), .lit (.int .u8 61), .lit (.int .u8 58), .lit (.int .u8 42), .lit (.int .u8 50), .lit (.int .u8 38), .lit (.int .u8 29), .lit (.int .u8 17), .lit (.int .u8 4), .lit (.int .u8 62), .lit (.int .u8 47), .lit (.int .u8 59), .lit (.int .u8 36), .lit (.int .u8 45), .lit (.int .u8 43), .lit (.int .u8 51), .lit (.int .u8 22), .lit (.int .u8 53), .lit (.int .u8 39), .lit (.int .u8 33), .lit (.int .u8 30), .lit (.int .u8 24), .lit (.int .u8 18), .lit (.int .u8 12), .lit (.int .u8 5), .lit (.int .u8 63), .lit (.int .u8 55), .lit (.int .u8 48), .lit (.int .u8 27), .lit (.int .u8 60), .lit (.int .u8 41), .lit (.int .u8 37), .lit (.int .u8 16), .lit (.int .u8 46), .lit (.int .u8 35), .lit (.int .u8 44), .lit (.int .u8 21), .lit (.int .u8 52), .lit (.int .u8 32), .lit (.int .u8 23), .lit (.int .u8 11), .lit (.int .u8 54), .lit (.int .u8 26), .lit (.int .u8 40), .lit (.int .u8 15), .lit (.int .u8 34), .lit (.int .u8 20), .lit (.int .u8 31), .lit (.int .u8 10), .lit (.int .u8 25), .lit (.int .u8 14), .lit (.int .u8 19), .lit (.int .u8 9), .lit (.int .u8 13), .lit (.int .u8 8), .lit (.int .u8 7), .lit (.int .u8 6)]

/-- 'shellaclaw06.ChartsRank': WHATEVER THE INPUT: true; the input reads as it did. -/
def chartsRankSpec : ChangeSpec := { name := "chartsRank", fn := fun _ => fun
  | [d1, d2] => { results := [.lit (.bool true)], args := [d1, d2] }
  | _ => none }
def chartsRankRow : OpenClaim := { program := "ytaoamnhchidjfaagreatdoor", sum := "6a608b19493de53163644c57f4ea87e63520738599a97111625567f23224b603", func := "shellac/shellaclaw06.ChartsRank", spec := "chartsRank", unfollowed := true, recurses := true, named := ["math/bits.deBruijn64tab"], apart := false, laid := [("math/bits.deBruijn64tab", laid_math_bits_deBruijn64tab)] }
def ChartsRankSaid : Prop := chartsRankRow.holds Tryz.pinned (OpenSpec.ofChange chartsRankSpec)

/-- ITS FALSE NEIGHBOUR: 'it returns false'. Refute it at one input. -/
def chartsRankWrong : ChangeSpec := { name := "chartsRank", fn := fun _ => fun
  | [d1, d2] => { results := [.lit (.bool false)], args := [d1, d2] }
  | _ => none }
def ChartsRankWrongFalsely : Prop := chartsRankRow.holds Tryz.pinned (OpenSpec.ofChange chartsRankWrong)

/-- 'shellaclaw06.ChartsTrue': WHATEVER THE INPUT: true; the input reads as it did. -/
def chartsTrueSpec : ChangeSpec := { name := "chartsTrue", fn := fun _ => fun
  | [d1, d2, d3] => { results := [.lit (.bool true)], args := [d1, d2, d3] }
  | _ => none }
def chartsTrueRow : OpenClaim := { program := "ytaoamnhchidjfaagreatdoor", sum := "6a608b19493de53163644c57f4ea87e63520738599a97111625567f23224b603", func := "shellac/shellaclaw06.ChartsTrue", spec := "chartsTrue", unfollowed := true, recurses := true, named := ["math/bits.deBruijn64tab"], apart := false, laid := [("math/bits.deBruijn64tab", laid_math_bits_deBruijn64tab)] }
def ChartsTrueSaid : Prop := chartsTrueRow.holds Tryz.pinned (OpenSpec.ofChange chartsTrueSpec)

/-- ITS FALSE NEIGHBOUR: 'it returns false'. Refute it at one input. -/
def chartsTrueWrong : ChangeSpec := { name := "chartsTrue", fn := fun _ => fun
  | [d1, d2, d3] => { results := [.lit (.bool false)], args := [d1, d2, d3] }
  | _ => none }
def ChartsTrueWrongFalsely : Prop := chartsTrueRow.holds Tryz.pinned (OpenSpec.ofChange chartsTrueWrong)

/-- 'shellaclaw06.ChartsMore': WHATEVER THE INPUT: true; the input reads as it did. -/
def chartsMoreSpec : ChangeSpec := { name := "chartsMore", fn := fun _ => fun
  | [d1, d2, d3] => { results := [.lit (.bool true)], args := [d1, d2, d3] }
  | _ => none }
def chartsMoreRow : OpenClaim := { program := "ytaoamnhchidjfaagreatdoor", sum := "6a608b19493de53163644c57f4ea87e63520738599a97111625567f23224b603", func := "shellac/shellaclaw06.ChartsMore", spec := "chartsMore", unfollowed := true, recurses := true, named := ["math/bits.deBruijn64tab"], apart := false, laid := [("math/bits.deBruijn64tab", laid_math_bits_deBruijn64tab)] }
def ChartsMoreSaid : Prop := chartsMoreRow.holds Tryz.pinned (OpenSpec.ofChange chartsMoreSpec)

/-- ITS FALSE NEIGHBOUR: 'it returns false'. Refute it at one input. -/
def chartsMoreWrong : ChangeSpec := { name := "chartsMore", fn := fun _ => fun
  | [d1, d2, d3] => { results := [.lit (.bool false)], args := [d1, d2, d3] }
  | _ => none }
def ChartsMoreWrongFalsely : Prop := chartsMoreRow.holds Tryz.pinned (OpenSpec.ofChange chartsMoreWrong)

/-- 'shellaclaw06.ChartsTop': WHATEVER THE INPUT: true; the input reads as it did. -/
def chartsTopSpec : ChangeSpec := { name := "chartsTop", fn := fun _ => fun
  | [d1, d2] => { results := [.lit (.bool true)], args := [d1, d2] }
  | _ => none }
def chartsTopRow : OpenClaim := { program := "ytaoamnhchidjfaagreatdoor", sum := "6a608b19493de53163644c57f4ea87e63520738599a97111625567f23224b603", func := "shellac/shellaclaw06.ChartsTop", spec := "chartsTop", unfollowed := true, recurses := true, named := ["math/bits.deBruijn64tab"], apart := false, laid := [("math/bits.deBruijn64tab", laid_math_bits_deBruijn64tab)] }
def ChartsTopSaid : Prop := chartsTopRow.holds Tryz.pinned (OpenSpec.ofChange chartsTopSpec)

/-- ITS FALSE NEIGHBOUR: 'it returns false'. Refute it at one input. -/
def chartsTopWrong : ChangeSpec := { name := "chartsTop", fn := fun _ => fun
  | [d1, d2] => { results := [.lit (.bool false)], args := [d1, d2] }
  | _ => none }
def ChartsTopWrongFalsely : Prop := chartsTopRow.holds Tryz.pinned (OpenSpec.ofChange chartsTopWrong)

/-- 'shellaclaw06.ChartsOne': WHATEVER THE INPUT: true; the input reads as it did. -/
def chartsOneSpec : ChangeSpec := { name := "chartsOne", fn := fun _ => fun
  | [d] => { results := [.lit (.bool true)], args := [d] }
  | _ => none }
def chartsOneRow : OpenClaim := { program := "ytaoamnhchidjfaagreatdoor", sum := "6a608b19493de53163644c57f4ea87e63520738599a97111625567f23224b603", func := "shellac/shellaclaw06.ChartsOne", spec := "chartsOne", unfollowed := true, recurses := true, named := ["math/bits.deBruijn64tab"], apart := false, laid := [("math/bits.deBruijn64tab", laid_math_bits_deBruijn64tab)] }
def ChartsOneSaid : Prop := chartsOneRow.holds Tryz.pinned (OpenSpec.ofChange chartsOneSpec)

/-- ITS FALSE NEIGHBOUR: 'it returns false'. Refute it at one input. -/
def chartsOneWrong : ChangeSpec := { name := "chartsOne", fn := fun _ => fun
  | [d] => { results := [.lit (.bool false)], args := [d] }
  | _ => none }
def ChartsOneWrongFalsely : Prop := chartsOneRow.holds Tryz.pinned (OpenSpec.ofChange chartsOneWrong)

/-- 'shellaclaw06.ChartsOrders': WHATEVER THE INPUT: true; the input reads as it did. -/
def chartsOrdersSpec : ChangeSpec := { name := "chartsOrders", fn := fun _ => fun
  | [d] => { results := [.lit (.bool true)], args := [d] }
  | _ => none }
def chartsOrdersRow : OpenClaim := { program := "ytaoamnhchidjfaagreatdoor", sum := "6a608b19493de53163644c57f4ea87e63520738599a97111625567f23224b603", func := "shellac/shellaclaw06.ChartsOrders", spec := "chartsOrders", unfollowed := true, recurses := true, named := ["math/bits.deBruijn64tab"], apart := false, laid := [("math/bits.deBruijn64tab", laid_math_bits_deBruijn64tab)] }
def ChartsOrdersSaid : Prop := chartsOrdersRow.holds Tryz.pinned (OpenSpec.ofChange chartsOrdersSpec)

/-- ITS FALSE NEIGHBOUR: 'it returns false'. Refute it at one input. -/
def chartsOrdersWrong : ChangeSpec := { name := "chartsOrders", fn := fun _ => fun
  | [d] => { results := [.lit (.bool false)], args := [d] }
  | _ => none }
def ChartsOrdersWrongFalsely : Prop := chartsOrdersRow.holds Tryz.pinned (OpenSpec.ofChange chartsOrdersWrong)

/-- 'shellactop.TopCharted': WHATEVER THE INPUT: true; the input reads as it did. -/
def topChartedSpec : ChangeSpec := { name := "topCharted", fn := fun _ => fun
  | [d1, d2] => { results := [.lit (.bool true)], args := [d1, d2] }
  | _ => none }
def topChartedRow : OpenClaim := { program := "ytaoamnhchidjfaagreatdoor", sum := "6a608b19493de53163644c57f4ea87e63520738599a97111625567f23224b603", func := "shellac/shellactop.TopCharted", spec := "topCharted", unfollowed := true, recurses := true, named := ["math/bits.deBruijn64tab"], apart := false, laid := [("math/bits.deBruijn64tab", laid_math_bits_deBruijn64tab)] }
def TopChartedSaid : Prop := topChartedRow.holds Tryz.pinned (OpenSpec.ofChange topChartedSpec)

/-- ITS FALSE NEIGHBOUR: 'it returns false'. Refute it at one input. -/
def topChartedWrong : ChangeSpec := { name := "topCharted", fn := fun _ => fun
  | [d1, d2] => { results := [.lit (.bool false)], args := [d1, d2] }
  | _ => none }
def TopChartedWrongFalsely : Prop := topChartedRow.holds Tryz.pinned (OpenSpec.ofChange topChartedWrong)

/-- 'shellactop.TopHits': WHATEVER THE INPUT: true; the input reads as it did. -/
def topHitsSpec : ChangeSpec := { name := "topHits", fn := fun _ => fun
  | [d1, d2] => { results := [.lit (.bool true)], args := [d1, d2] }
  | _ => none }
def topHitsRow : OpenClaim := { program := "ytaoamnhchidjfaagreatdoor", sum := "6a608b19493de53163644c57f4ea87e63520738599a97111625567f23224b603", func := "shellac/shellactop.TopHits", spec := "topHits", unfollowed := true, recurses := true, named := ["math/bits.deBruijn64tab"], apart := false, laid := [("math/bits.deBruijn64tab", laid_math_bits_deBruijn64tab)] }
def TopHitsSaid : Prop := topHitsRow.holds Tryz.pinned (OpenSpec.ofChange topHitsSpec)

/-- ITS FALSE NEIGHBOUR: 'it returns false'. Refute it at one input. -/
def topHitsWrong : ChangeSpec := { name := "topHits", fn := fun _ => fun
  | [d1, d2] => { results := [.lit (.bool false)], args := [d1, d2] }
  | _ => none }
def TopHitsWrongFalsely : Prop := topHitsRow.holds Tryz.pinned (OpenSpec.ofChange topHitsWrong)

/- THE SECOND FORM. 'bulk': how many values and letters a reading holds, each counted each time it is reached (what is shared counts as often as it is met; a slice's spare places count too). A statement '..UptoSaid' is the law's where the arguments, and the package variables that the reading takes, are together of bulk at most 1048576: NARROWER than '..Said'. Prove '..Said' where nothing that the law and all that it calls make is longer than what came in: it says more and counts as full. Else prove '..UptoSaid'. A law counts once. -/
mutual
def uptoBulk {H : Type} : DataW H → Nat
  | .lit (.string bytes) => bytes.length + 1
  | .lit _ => 1
  | .nil => 1
  | .ptr d => uptoBulk d + 1
  | .slice elems spare => uptoBulkAll elems + uptoBulkAll spare + 1
  | .agg parts => uptoBulkAll parts + 1
  | .iface _ d => uptoBulk d + 1
  | .map entries => uptoBulkEntries entries + 1
  | .held _ => 1
def uptoBulkAll {H : Type} : List (DataW H) → Nat
  | [] => 0
  | d :: r => uptoBulk d + uptoBulkAll r
def uptoBulkEntries {H : Type} : List (Lit × DataW H) → Nat
  | [] => 0
  | x :: r => uptoBulkEntry x + uptoBulkEntries r
def uptoBulkEntry {H : Type} : Lit × DataW H → Nat
  | (.string bytes, d) => bytes.length + uptoBulk d + 1
  | (_, d) => uptoBulk d + 1
 end
def uptoSmall : (H : Type) → List (DataW H) → Bool := fun _ ds => decide (uptoBulkAll ds ≤ 1048576)
def OpenSpec.upto (s : _root_.Go.ChangeSpec) : _root_.Go.OpenSpec := { _root_.Go.OpenSpec.ofChange s with cond := some uptoSmall }

/-- 'shellaclaw06.ChartsRank', WHERE WHAT IT READS IS OF BULK AT MOST 1048576: true; the input reads as it did. -/
def chartsRankUptoRow : OpenClaim := { program := "ytaoamnhchidjfaagreatdoor", sum := "6a608b19493de53163644c57f4ea87e63520738599a97111625567f23224b603", func := "shellac/shellaclaw06.ChartsRank", spec := "chartsRank", unfollowed := true, recurses := true, named := ["math/bits.deBruijn64tab"], apart := false, laid := [("math/bits.deBruijn64tab", laid_math_bits_deBruijn64tab)], narrowed := true }
def ChartsRankUptoSaid : Prop := chartsRankUptoRow.holds Tryz.pinned (OpenSpec.upto chartsRankSpec)

/-- 'shellaclaw06.ChartsTrue', WHERE WHAT IT READS IS OF BULK AT MOST 1048576: true; the input reads as it did. -/
def chartsTrueUptoRow : OpenClaim := { program := "ytaoamnhchidjfaagreatdoor", sum := "6a608b19493de53163644c57f4ea87e63520738599a97111625567f23224b603", func := "shellac/shellaclaw06.ChartsTrue", spec := "chartsTrue", unfollowed := true, recurses := true, named := ["math/bits.deBruijn64tab"], apart := false, laid := [("math/bits.deBruijn64tab", laid_math_bits_deBruijn64tab)], narrowed := true }
def ChartsTrueUptoSaid : Prop := chartsTrueUptoRow.holds Tryz.pinned (OpenSpec.upto chartsTrueSpec)

/-- 'shellaclaw06.ChartsMore', WHERE WHAT IT READS IS OF BULK AT MOST 1048576: true; the input reads as it did. -/
def chartsMoreUptoRow : OpenClaim := { program := "ytaoamnhchidjfaagreatdoor", sum := "6a608b19493de53163644c57f4ea87e63520738599a97111625567f23224b603", func := "shellac/shellaclaw06.ChartsMore", spec := "chartsMore", unfollowed := true, recurses := true, named := ["math/bits.deBruijn64tab"], apart := false, laid := [("math/bits.deBruijn64tab", laid_math_bits_deBruijn64tab)], narrowed := true }
def ChartsMoreUptoSaid : Prop := chartsMoreUptoRow.holds Tryz.pinned (OpenSpec.upto chartsMoreSpec)

/-- 'shellaclaw06.ChartsTop', WHERE WHAT IT READS IS OF BULK AT MOST 1048576: true; the input reads as it did. -/
def chartsTopUptoRow : OpenClaim := { program := "ytaoamnhchidjfaagreatdoor", sum := "6a608b19493de53163644c57f4ea87e63520738599a97111625567f23224b603", func := "shellac/shellaclaw06.ChartsTop", spec := "chartsTop", unfollowed := true, recurses := true, named := ["math/bits.deBruijn64tab"], apart := false, laid := [("math/bits.deBruijn64tab", laid_math_bits_deBruijn64tab)], narrowed := true }
def ChartsTopUptoSaid : Prop := chartsTopUptoRow.holds Tryz.pinned (OpenSpec.upto chartsTopSpec)

/-- 'shellaclaw06.ChartsOne', WHERE WHAT IT READS IS OF BULK AT MOST 1048576: true; the input reads as it did. -/
def chartsOneUptoRow : OpenClaim := { program := "ytaoamnhchidjfaagreatdoor", sum := "6a608b19493de53163644c57f4ea87e63520738599a97111625567f23224b603", func := "shellac/shellaclaw06.ChartsOne", spec := "chartsOne", unfollowed := true, recurses := true, named := ["math/bits.deBruijn64tab"], apart := false, laid := [("math/bits.deBruijn64tab", laid_math_bits_deBruijn64tab)], narrowed := true }
def ChartsOneUptoSaid : Prop := chartsOneUptoRow.holds Tryz.pinned (OpenSpec.upto chartsOneSpec)

/-- 'shellaclaw06.ChartsOrders', WHERE WHAT IT READS IS OF BULK AT MOST 1048576: true; the input reads as it did. -/
def chartsOrdersUptoRow : OpenClaim := { program := "ytaoamnhchidjfaagreatdoor", sum := "6a608b19493de53163644c57f4ea87e63520738599a97111625567f23224b603", func := "shellac/shellaclaw06.ChartsOrders", spec := "chartsOrders", unfollowed := true, recurses := true, named := ["math/bits.deBruijn64tab"], apart := false, laid := [("math/bits.deBruijn64tab", laid_math_bits_deBruijn64tab)], narrowed := true }
def ChartsOrdersUptoSaid : Prop := chartsOrdersUptoRow.holds Tryz.pinned (OpenSpec.upto chartsOrdersSpec)

/-- 'shellactop.TopCharted', WHERE WHAT IT READS IS OF BULK AT MOST 1048576: true; the input reads as it did. -/
def topChartedUptoRow : OpenClaim := { program := "ytaoamnhchidjfaagreatdoor", sum := "6a608b19493de53163644c57f4ea87e63520738599a97111625567f23224b603", func := "shellac/shellactop.TopCharted", spec := "topCharted", unfollowed := true, recurses := true, named := ["math/bits.deBruijn64tab"], apart := false, laid := [("math/bits.deBruijn64tab", laid_math_bits_deBruijn64tab)], narrowed := true }
def TopChartedUptoSaid : Prop := topChartedUptoRow.holds Tryz.pinned (OpenSpec.upto topChartedSpec)

/-- 'shellactop.TopHits', WHERE WHAT IT READS IS OF BULK AT MOST 1048576: true; the input reads as it did. -/
def topHitsUptoRow : OpenClaim := { program := "ytaoamnhchidjfaagreatdoor", sum := "6a608b19493de53163644c57f4ea87e63520738599a97111625567f23224b603", func := "shellac/shellactop.TopHits", spec := "topHits", unfollowed := true, recurses := true, named := ["math/bits.deBruijn64tab"], apart := false, laid := [("math/bits.deBruijn64tab", laid_math_bits_deBruijn64tab)], narrowed := true }
def TopHitsUptoSaid : Prop := topHitsUptoRow.holds Tryz.pinned (OpenSpec.upto topHitsSpec)

end Rows
end Go.Proofs.YtaoamnhchidjfaaGreatDoor
