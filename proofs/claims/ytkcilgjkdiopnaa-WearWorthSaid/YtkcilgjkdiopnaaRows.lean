/-
  No cell of these rows narrows 'for every input' (looked for: loops, veiled, ifaces, maps, wideKeys, modest, calm, conditions, laid).
  DERIVED. THE GIVEN ROWS OF THIS SEAT. 11 by the template 'for every input the law returns true; each argument reads behind the call as it read before'; 0 by the template 'total and deterministic' (their statements: YtkcilgjkdiopnaaTotals.lean).
  GIVEN WITH THE SEED: the statements are not yours to turn. If you find one false, say at which input.
  Laid BY PROGRAM, IN A SANDBOX (cutbox-rows.mjs): the forced cells as the released guide's own fill.sh prints them over the translation 1c703138cc8d9510… (all of the seat's roots in one cut). By AI agents, Wed Nov 11 2026. No macro, syntax, notation, axiom, sorry.
-/
import Derived.Test.YtkcilgjkdiopnaaChecked
import GoSem.Claim
import GoSem.ClaimJoined
import GoSem.ClaimMapViews
import Derived.JoinedTies
import Derived.KernelRfl
namespace Go.Proofs.Ytkcilgjkdiopnaa
/- THE CELL 'sum', in the pinned program and in every row, IS THE sha256 OF THE DUMP (.gsa) THAT YtkcilgjkdiopnaaProg.lean LOADS. Nothing in Lean hashes anything: it is a label: what it is worth is what the hold of that sum in a sandbox is worth. -/
noncomputable def Try.pinned : Pinned := { name := "ytkcilgjkdiopnaa", sum := "1c703138cc8d951080ab386fab45be1131cb02ce2687c5ff2e894adc869f1204", checked := Try.checked }
namespace Rows
def none {H : Type} : Left H := { results := [], args := [] }

/-- 'shellaclaw03.WearRun': WHATEVER THE INPUT: true; the input reads as it did. -/
def wearRunSpec : ChangeSpec := { name := "wearRun", fn := fun _ => fun
  | [d1, d2] => { results := [.lit (.bool true)], args := [d1, d2] }
  | _ => none }
def wearRunRow : OpenClaim := { program := "ytkcilgjkdiopnaa", sum := "1c703138cc8d951080ab386fab45be1131cb02ce2687c5ff2e894adc869f1204", func := "shellac/shellaclaw03.WearRun", spec := "wearRun", unfollowed := true, recurses := true, apart := false }
def WearRunSaid : Prop := wearRunRow.holds Try.pinned (OpenSpec.ofChange wearRunSpec)

/-- ITS FALSE NEIGHBOUR: 'it returns false'. Refute it at one input. -/
def wearRunWrong : ChangeSpec := { name := "wearRun", fn := fun _ => fun
  | [d1, d2] => { results := [.lit (.bool false)], args := [d1, d2] }
  | _ => none }
def WearRunWrongFalsely : Prop := wearRunRow.holds Try.pinned (OpenSpec.ofChange wearRunWrong)

/-- 'shellaclaw03.WearWorth': WHATEVER THE INPUT: true; the input reads as it did. -/
def wearWorthSpec : ChangeSpec := { name := "wearWorth", fn := fun _ => fun
  | [d1, d2] => { results := [.lit (.bool true)], args := [d1, d2] }
  | _ => none }
def wearWorthRow : OpenClaim := { program := "ytkcilgjkdiopnaa", sum := "1c703138cc8d951080ab386fab45be1131cb02ce2687c5ff2e894adc869f1204", func := "shellac/shellaclaw03.WearWorth", spec := "wearWorth", unfollowed := true, recurses := true, apart := false }
def WearWorthSaid : Prop := wearWorthRow.holds Try.pinned (OpenSpec.ofChange wearWorthSpec)

/-- ITS FALSE NEIGHBOUR: 'it returns false'. Refute it at one input. -/
def wearWorthWrong : ChangeSpec := { name := "wearWorth", fn := fun _ => fun
  | [d1, d2] => { results := [.lit (.bool false)], args := [d1, d2] }
  | _ => none }
def WearWorthWrongFalsely : Prop := wearWorthRow.holds Try.pinned (OpenSpec.ofChange wearWorthWrong)

/-- 'shellaclaw03.WearMore': WHATEVER THE INPUT: true; the input reads as it did. -/
def wearMoreSpec : ChangeSpec := { name := "wearMore", fn := fun _ => fun
  | [d1, d2, d3] => { results := [.lit (.bool true)], args := [d1, d2, d3] }
  | _ => none }
def wearMoreRow : OpenClaim := { program := "ytkcilgjkdiopnaa", sum := "1c703138cc8d951080ab386fab45be1131cb02ce2687c5ff2e894adc869f1204", func := "shellac/shellaclaw03.WearMore", spec := "wearMore", unfollowed := true, recurses := true, apart := false }
def WearMoreSaid : Prop := wearMoreRow.holds Try.pinned (OpenSpec.ofChange wearMoreSpec)

/-- ITS FALSE NEIGHBOUR: 'it returns false'. Refute it at one input. -/
def wearMoreWrong : ChangeSpec := { name := "wearMore", fn := fun _ => fun
  | [d1, d2, d3] => { results := [.lit (.bool false)], args := [d1, d2, d3] }
  | _ => none }
def WearMoreWrongFalsely : Prop := wearMoreRow.holds Try.pinned (OpenSpec.ofChange wearMoreWrong)

/-- 'shellaclaw03.WearPrices': WHATEVER THE INPUT: true; the input reads as it did. -/
def wearPricesSpec : ChangeSpec := { name := "wearPrices", fn := fun _ => fun
  | [d1, d2, d3] => { results := [.lit (.bool true)], args := [d1, d2, d3] }
  | _ => none }
def wearPricesRow : OpenClaim := { program := "ytkcilgjkdiopnaa", sum := "1c703138cc8d951080ab386fab45be1131cb02ce2687c5ff2e894adc869f1204", func := "shellac/shellaclaw03.WearPrices", spec := "wearPrices", unfollowed := true, recurses := true, apart := false }
def WearPricesSaid : Prop := wearPricesRow.holds Try.pinned (OpenSpec.ofChange wearPricesSpec)

/-- ITS FALSE NEIGHBOUR: 'it returns false'. Refute it at one input. -/
def wearPricesWrong : ChangeSpec := { name := "wearPrices", fn := fun _ => fun
  | [d1, d2, d3] => { results := [.lit (.bool false)], args := [d1, d2, d3] }
  | _ => none }
def WearPricesWrongFalsely : Prop := wearPricesRow.holds Try.pinned (OpenSpec.ofChange wearPricesWrong)

/-- 'shellaclaw03.WearWeeks': WHATEVER THE INPUT: true; the input reads as it did. -/
def wearWeeksSpec : ChangeSpec := { name := "wearWeeks", fn := fun _ => fun
  | [d1, d2, d3] => { results := [.lit (.bool true)], args := [d1, d2, d3] }
  | _ => none }
def wearWeeksRow : OpenClaim := { program := "ytkcilgjkdiopnaa", sum := "1c703138cc8d951080ab386fab45be1131cb02ce2687c5ff2e894adc869f1204", func := "shellac/shellaclaw03.WearWeeks", spec := "wearWeeks", unfollowed := true, recurses := true, apart := false }
def WearWeeksSaid : Prop := wearWeeksRow.holds Try.pinned (OpenSpec.ofChange wearWeeksSpec)

/-- ITS FALSE NEIGHBOUR: 'it returns false'. Refute it at one input. -/
def wearWeeksWrong : ChangeSpec := { name := "wearWeeks", fn := fun _ => fun
  | [d1, d2, d3] => { results := [.lit (.bool false)], args := [d1, d2, d3] }
  | _ => none }
def WearWeeksWrongFalsely : Prop := wearWeeksRow.holds Try.pinned (OpenSpec.ofChange wearWeeksWrong)

/-- 'shellaclaw03.WearAges': WHATEVER THE INPUT: true; the input reads as it did. -/
def wearAgesSpec : ChangeSpec := { name := "wearAges", fn := fun _ => fun
  | [d1, d2] => { results := [.lit (.bool true)], args := [d1, d2] }
  | _ => none }
def wearAgesRow : OpenClaim := { program := "ytkcilgjkdiopnaa", sum := "1c703138cc8d951080ab386fab45be1131cb02ce2687c5ff2e894adc869f1204", func := "shellac/shellaclaw03.WearAges", spec := "wearAges", unfollowed := true, recurses := true, apart := false }
def WearAgesSaid : Prop := wearAgesRow.holds Try.pinned (OpenSpec.ofChange wearAgesSpec)

/-- ITS FALSE NEIGHBOUR: 'it returns false'. Refute it at one input. -/
def wearAgesWrong : ChangeSpec := { name := "wearAges", fn := fun _ => fun
  | [d1, d2] => { results := [.lit (.bool false)], args := [d1, d2] }
  | _ => none }
def WearAgesWrongFalsely : Prop := wearAgesRow.holds Try.pinned (OpenSpec.ofChange wearAgesWrong)

/-- 'shellaclaw03.WearLess': WHATEVER THE INPUT: true; the input reads as it did. -/
def wearLessSpec : ChangeSpec := { name := "wearLess", fn := fun _ => fun
  | [d1, d2, d3] => { results := [.lit (.bool true)], args := [d1, d2, d3] }
  | _ => none }
def wearLessRow : OpenClaim := { program := "ytkcilgjkdiopnaa", sum := "1c703138cc8d951080ab386fab45be1131cb02ce2687c5ff2e894adc869f1204", func := "shellac/shellaclaw03.WearLess", spec := "wearLess", unfollowed := true, recurses := true, apart := false }
def WearLessSaid : Prop := wearLessRow.holds Try.pinned (OpenSpec.ofChange wearLessSpec)

/-- ITS FALSE NEIGHBOUR: 'it returns false'. Refute it at one input. -/
def wearLessWrong : ChangeSpec := { name := "wearLess", fn := fun _ => fun
  | [d1, d2, d3] => { results := [.lit (.bool false)], args := [d1, d2, d3] }
  | _ => none }
def WearLessWrongFalsely : Prop := wearLessRow.holds Try.pinned (OpenSpec.ofChange wearLessWrong)

/-- 'shellaclaw03.WearPays': WHATEVER THE INPUT: true; the input reads as it did. -/
def wearPaysSpec : ChangeSpec := { name := "wearPays", fn := fun _ => fun
  | [d1, d2] => { results := [.lit (.bool true)], args := [d1, d2] }
  | _ => none }
def wearPaysRow : OpenClaim := { program := "ytkcilgjkdiopnaa", sum := "1c703138cc8d951080ab386fab45be1131cb02ce2687c5ff2e894adc869f1204", func := "shellac/shellaclaw03.WearPays", spec := "wearPays", unfollowed := true, recurses := true, apart := false }
def WearPaysSaid : Prop := wearPaysRow.holds Try.pinned (OpenSpec.ofChange wearPaysSpec)

/-- ITS FALSE NEIGHBOUR: 'it returns false'. Refute it at one input. -/
def wearPaysWrong : ChangeSpec := { name := "wearPays", fn := fun _ => fun
  | [d1, d2] => { results := [.lit (.bool false)], args := [d1, d2] }
  | _ => none }
def WearPaysWrongFalsely : Prop := wearPaysRow.holds Try.pinned (OpenSpec.ofChange wearPaysWrong)

/-- 'shellaclaw03.WearCheapest': WHATEVER THE INPUT: true; the input reads as it did. -/
def wearCheapestSpec : ChangeSpec := { name := "wearCheapest", fn := fun _ => fun
  | [d] => { results := [.lit (.bool true)], args := [d] }
  | _ => none }
def wearCheapestRow : OpenClaim := { program := "ytkcilgjkdiopnaa", sum := "1c703138cc8d951080ab386fab45be1131cb02ce2687c5ff2e894adc869f1204", func := "shellac/shellaclaw03.WearCheapest", spec := "wearCheapest", unfollowed := true, recurses := true, apart := false }
def WearCheapestSaid : Prop := wearCheapestRow.holds Try.pinned (OpenSpec.ofChange wearCheapestSpec)

/-- ITS FALSE NEIGHBOUR: 'it returns false'. Refute it at one input. -/
def wearCheapestWrong : ChangeSpec := { name := "wearCheapest", fn := fun _ => fun
  | [d] => { results := [.lit (.bool false)], args := [d] }
  | _ => none }
def WearCheapestWrongFalsely : Prop := wearCheapestRow.holds Try.pinned (OpenSpec.ofChange wearCheapestWrong)

/-- 'shellaclaw03.WearEach': WHATEVER THE INPUT: true; the input reads as it did. -/
def wearEachSpec : ChangeSpec := { name := "wearEach", fn := fun _ => fun
  | [d1, d2] => { results := [.lit (.bool true)], args := [d1, d2] }
  | _ => none }
def wearEachRow : OpenClaim := { program := "ytkcilgjkdiopnaa", sum := "1c703138cc8d951080ab386fab45be1131cb02ce2687c5ff2e894adc869f1204", func := "shellac/shellaclaw03.WearEach", spec := "wearEach", unfollowed := true, recurses := true, apart := false }
def WearEachSaid : Prop := wearEachRow.holds Try.pinned (OpenSpec.ofChange wearEachSpec)

/-- ITS FALSE NEIGHBOUR: 'it returns false'. Refute it at one input. -/
def wearEachWrong : ChangeSpec := { name := "wearEach", fn := fun _ => fun
  | [d1, d2] => { results := [.lit (.bool false)], args := [d1, d2] }
  | _ => none }
def WearEachWrongFalsely : Prop := wearEachRow.holds Try.pinned (OpenSpec.ofChange wearEachWrong)

/-- 'shellactop.TopNeedle': WHATEVER THE INPUT: true; the input reads as it did. -/
def topNeedleSpec : ChangeSpec := { name := "topNeedle", fn := fun _ => fun
  | [d1, d2] => { results := [.lit (.bool true)], args := [d1, d2] }
  | _ => none }
def topNeedleRow : OpenClaim := { program := "ytkcilgjkdiopnaa", sum := "1c703138cc8d951080ab386fab45be1131cb02ce2687c5ff2e894adc869f1204", func := "shellac/shellactop.TopNeedle", spec := "topNeedle", unfollowed := true, recurses := true, apart := false }
def TopNeedleSaid : Prop := topNeedleRow.holds Try.pinned (OpenSpec.ofChange topNeedleSpec)

/-- ITS FALSE NEIGHBOUR: 'it returns false'. Refute it at one input. -/
def topNeedleWrong : ChangeSpec := { name := "topNeedle", fn := fun _ => fun
  | [d1, d2] => { results := [.lit (.bool false)], args := [d1, d2] }
  | _ => none }
def TopNeedleWrongFalsely : Prop := topNeedleRow.holds Try.pinned (OpenSpec.ofChange topNeedleWrong)

/- THE SECOND FORM. 'bulk': how many values and letters a reading holds, each counted each time it is reached (what is shared counts as often as it is met; a slice's spare places count too). A statement '..UptoSaid' is the law's where the arguments, and the package variables that the reading takes, are together of bulk at most 1048576: NARROWER than '..Said'. Prove '..Said' where nothing that the law and all that it calls make is longer than what came in: it says more and counts as full. Else prove '..UptoSaid'. A law counts once. -/
mutual
def uptoBulk {H : Type} : DataW H → Nat
  | .lit (.string bytes) => bytes.length + 1
  | .lit _ => 1
  | .nil => 1
  | .ptr d => uptoBulk d + 1
  | .slice elems spare => uptoBulkAll elems + uptoBulkAll spare + 1
  | .agg parts => uptoBulkAll parts + 1
  | .iface _ d => uptoBulk d + 1
  | .map entries => uptoBulkEntries entries + 1
  | .held _ => 1
def uptoBulkAll {H : Type} : List (DataW H) → Nat
  | [] => 0
  | d :: r => uptoBulk d + uptoBulkAll r
def uptoBulkEntries {H : Type} : List (Lit × DataW H) → Nat
  | [] => 0
  | x :: r => uptoBulkEntry x + uptoBulkEntries r
def uptoBulkEntry {H : Type} : Lit × DataW H → Nat
  | (.string bytes, d) => bytes.length + uptoBulk d + 1
  | (_, d) => uptoBulk d + 1
 end
def uptoSmall : (H : Type) → List (DataW H) → Bool := fun _ ds => decide (uptoBulkAll ds ≤ 1048576)
def OpenSpec.upto (s : _root_.Go.ChangeSpec) : _root_.Go.OpenSpec := { _root_.Go.OpenSpec.ofChange s with cond := some uptoSmall }

/-- 'shellaclaw03.WearRun', WHERE WHAT IT READS IS OF BULK AT MOST 1048576: true; the input reads as it did. -/
def wearRunUptoRow : OpenClaim := { program := "ytkcilgjkdiopnaa", sum := "1c703138cc8d951080ab386fab45be1131cb02ce2687c5ff2e894adc869f1204", func := "shellac/shellaclaw03.WearRun", spec := "wearRun", unfollowed := true, recurses := true, apart := false, narrowed := true }
def WearRunUptoSaid : Prop := wearRunUptoRow.holds Try.pinned (OpenSpec.upto wearRunSpec)

/-- 'shellaclaw03.WearWorth', WHERE WHAT IT READS IS OF BULK AT MOST 1048576: true; the input reads as it did. -/
def wearWorthUptoRow : OpenClaim := { program := "ytkcilgjkdiopnaa", sum := "1c703138cc8d951080ab386fab45be1131cb02ce2687c5ff2e894adc869f1204", func := "shellac/shellaclaw03.WearWorth", spec := "wearWorth", unfollowed := true, recurses := true, apart := false, narrowed := true }
def WearWorthUptoSaid : Prop := wearWorthUptoRow.holds Try.pinned (OpenSpec.upto wearWorthSpec)

/-- 'shellaclaw03.WearMore', WHERE WHAT IT READS IS OF BULK AT MOST 1048576: true; the input reads as it did. -/
def wearMoreUptoRow : OpenClaim := { program := "ytkcilgjkdiopnaa", sum := "1c703138cc8d951080ab386fab45be1131cb02ce2687c5ff2e894adc869f1204", func := "shellac/shellaclaw03.WearMore", spec := "wearMore", unfollowed := true, recurses := true, apart := false, narrowed := true }
def WearMoreUptoSaid : Prop := wearMoreUptoRow.holds Try.pinned (OpenSpec.upto wearMoreSpec)

/-- 'shellaclaw03.WearPrices', WHERE WHAT IT READS IS OF BULK AT MOST 1048576: true; the input reads as it did. -/
def wearPricesUptoRow : OpenClaim := { program := "ytkcilgjkdiopnaa", sum := "1c703138cc8d951080ab386fab45be1131cb02ce2687c5ff2e894adc869f1204", func := "shellac/shellaclaw03.WearPrices", spec := "wearPrices", unfollowed := true, recurses := true, apart := false, narrowed := true }
def WearPricesUptoSaid : Prop := wearPricesUptoRow.holds Try.pinned (OpenSpec.upto wearPricesSpec)

/-- 'shellaclaw03.WearWeeks', WHERE WHAT IT READS IS OF BULK AT MOST 1048576: true; the input reads as it did. -/
def wearWeeksUptoRow : OpenClaim := { program := "ytkcilgjkdiopnaa", sum := "1c703138cc8d951080ab386fab45be1131cb02ce2687c5ff2e894adc869f1204", func := "shellac/shellaclaw03.WearWeeks", spec := "wearWeeks", unfollowed := true, recurses := true, apart := false, narrowed := true }
def WearWeeksUptoSaid : Prop := wearWeeksUptoRow.holds Try.pinned (OpenSpec.upto wearWeeksSpec)

/-- 'shellaclaw03.WearAges', WHERE WHAT IT READS IS OF BULK AT MOST 1048576: true; the input reads as it did. -/
def wearAgesUptoRow : OpenClaim := { program := "ytkcilgjkdiopnaa", sum := "1c703138cc8d951080ab386fab45be1131cb02ce2687c5ff2e894adc869f1204", func := "shellac/shellaclaw03.WearAges", spec := "wearAges", unfollowed := true, recurses := true, apart := false, narrowed := true }
def WearAgesUptoSaid : Prop := wearAgesUptoRow.holds Try.pinned (OpenSpec.upto wearAgesSpec)

/-- 'shellaclaw03.WearLess', WHERE WHAT IT READS IS OF BULK AT MOST 1048576: true; the input reads as it did. -/
def wearLessUptoRow : OpenClaim := { program := "ytkcilgjkdiopnaa", sum := "1c703138cc8d951080ab386fab45be1131cb02ce2687c5ff2e894adc869f1204", func := "shellac/shellaclaw03.WearLess", spec := "wearLess", unfollowed := true, recurses := true, apart := false, narrowed := true }
def WearLessUptoSaid : Prop := wearLessUptoRow.holds Try.pinned (OpenSpec.upto wearLessSpec)

/-- 'shellaclaw03.WearPays', WHERE WHAT IT READS IS OF BULK AT MOST 1048576: true; the input reads as it did. -/
def wearPaysUptoRow : OpenClaim := { program := "ytkcilgjkdiopnaa", sum := "1c703138cc8d951080ab386fab45be1131cb02ce2687c5ff2e894adc869f1204", func := "shellac/shellaclaw03.WearPays", spec := "wearPays", unfollowed := true, recurses := true, apart := false, narrowed := true }
def WearPaysUptoSaid : Prop := wearPaysUptoRow.holds Try.pinned (OpenSpec.upto wearPaysSpec)

/-- 'shellaclaw03.WearCheapest', WHERE WHAT IT READS IS OF BULK AT MOST 1048576: true; the input reads as it did. -/
def wearCheapestUptoRow : OpenClaim := { program := "ytkcilgjkdiopnaa", sum := "1c703138cc8d951080ab386fab45be1131cb02ce2687c5ff2e894adc869f1204", func := "shellac/shellaclaw03.WearCheapest", spec := "wearCheapest", unfollowed := true, recurses := true, apart := false, narrowed := true }
def WearCheapestUptoSaid : Prop := wearCheapestUptoRow.holds Try.pinned (OpenSpec.upto wearCheapestSpec)

/-- 'shellaclaw03.WearEach', WHERE WHAT IT READS IS OF BULK AT MOST 1048576: true; the input reads as it did. -/
def wearEachUptoRow : OpenClaim := { program := "ytkcilgjkdiopnaa", sum := "1c703138cc8d951080ab386fab45be1131cb02ce2687c5ff2e894adc869f1204", func := "shellac/shellaclaw03.WearEach", spec := "wearEach", unfollowed := true, recurses := true, apart := false, narrowed := true }
def WearEachUptoSaid : Prop := wearEachUptoRow.holds Try.pinned (OpenSpec.upto wearEachSpec)

/-- 'shellactop.TopNeedle', WHERE WHAT IT READS IS OF BULK AT MOST 1048576: true; the input reads as it did. -/
def topNeedleUptoRow : OpenClaim := { program := "ytkcilgjkdiopnaa", sum := "1c703138cc8d951080ab386fab45be1131cb02ce2687c5ff2e894adc869f1204", func := "shellac/shellactop.TopNeedle", spec := "topNeedle", unfollowed := true, recurses := true, apart := false, narrowed := true }
def TopNeedleUptoSaid : Prop := topNeedleUptoRow.holds Try.pinned (OpenSpec.upto topNeedleSpec)

end Rows
end Go.Proofs.Ytkcilgjkdiopnaa
