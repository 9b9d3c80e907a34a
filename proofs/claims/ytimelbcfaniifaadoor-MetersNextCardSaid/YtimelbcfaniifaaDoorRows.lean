/-
  NARROWER THAN 'FOR EVERY INPUT', by the rows' own cells (each row's printed sentence says how): MetersParts: laid · MetersNext: laid · MetersMore: laid · MetersHundred: laid · MetersBack: laid · MetersOrder: laid · MetersFewest: laid · MetersSums: laid · MetersStart: laid · MetersTrue: laid · TopMetered: laid.
  DERIVED. THE GIVEN ROWS OF THIS SEAT. 11 by the template 'for every input the law returns true; each argument reads behind the call as it read before'; 0 by the template 'total and deterministic' (their statements: YtimelbcfaniifaaDoorTotals.lean).
  GIVEN WITH THE SEED: the statements are not yours to turn. If you find one false, say at which input.
  Laid BY PROGRAM, IN A SANDBOX (cutbox-rows.mjs): the forced cells as the released guide's own fill.sh prints them over the translation 3df68e5035585d4f… (all of the seat's roots in one cut). By AI agents, Wed Nov 11 2026. No macro, syntax, notation, axiom, sorry.
-/
import Derived.Test.YtimelbcfaniifaaDoorChecked
import GoSem.Claim
import GoSem.ClaimJoined
import GoSem.ClaimMapViews
import Derived.JoinedTies
import Derived.KernelRfl
namespace Go.Proofs.YtimelbcfaniifaaDoor
/- THE CELL 'sum', in the pinned program and in every row, IS THE sha256 OF THE DUMP (.gsa) THAT YtimelbcfaniifaaDoorProg.lean LOADS. Nothing in Lean hashes anything: it is a label: what it is worth is what the hold of that sum in a sandbox is worth. -/
noncomputable def Tryd.pinned : Pinned := { name := "ytimelbcfaniifaadoor", sum := "3df68e5035585d4f6f52865294996fcceaf26631d51106723104671c19cefa40", checked := Tryd.checked }
namespace Rows
def none {H : Type} : Left H := { results := [], args := [] }

/- WHAT THE LISTED PACKAGE-LEVEL VARIABLES READ AS WHEN THE CALL BEGINS. Each datum BY PROGRAM (the guide's laid-datum.mjs) off the statement by which the dump's own 'gosem.cut.vars' lays the variable. In a bare row this is a premise. The card (YtimelbcfaniifaaDoorCards.lean) ties it to the program's text. -/
def laid_math_bits_deBruijn64tab {H : Type} : DataW H := .agg [.lit (.int .u8 0), .lit (.int .u8 1), .lit (.int .u8 56), .lit (.int .u8 2), .lit (.int .u8 57), .lit (.int .u8 49), .lit (.int .u8 28), .lit (.int .u8 3), .lit (.int .u8 61), .lit (.int .u8 58), .lit (.int .u8 42), .lit (.int .u8 50), .lit (.int .u8 38), .lit (.int .u8 29), .lit (.int .u8 17), .lit (.int .u8 4), .lit (.int .u8 62), .lit (.int .u8 47), .lit (.int .u8 59), .lit (.int .u8 36), .lit (.int .u8 45), .lit (.int .u8 43), .lit (.int .u8 51), .lit (.int .u8 22), .lit (.int .u8 53), .lit (.int .u8 39), .lit (.int .u8 33), .lit (.int .u8 30), .lit (.int .u8 24), .lit (.int .u8 18), .lit (.int .u8 12), .lit (.int .u8 5), .lit (.int .u8 63), .lit (.int .u8 55), .lit (.int .u8 48), .lit (.int .u8 27), .lit (.int .u8 60), .lit (.int .u8 41), .lit (.int .u8 37), .lit (.int .u8 16), .lit (.int .u8 46), .lit (.int .u8 35), .lit (.int .u8 44), .lit (.int .u8 21), .lit (.int .u8 52), .lit (.int .u8 32), .lit (.int .u8 23), .lit (.int .u8 11), .lit (.int .u8 54), .lit (.int .u8 26), .lit (.int .u8 40), .lit (.int .u8 15), .lit (.int .u8 34), .lit (.int .u8 20), .lit (.int .u8 31), .lit (.int .u8 10), .lit (.int .u8 25), .lit (.int .u8 14), .lit (.int .u8 19), .lit (.int .u8 9), .lit (.int .u8 13), .lit (.int .u8 8), .lit (.int .u8 7), .lit (.int .u8 6)]

/-- 'shellaclaw04.MetersParts': WHATEVER THE INPUT: true; the input reads as it did. -/
def metersPartsSpec : ChangeSpec := { name := "metersParts", fn := fun _ => fun
  | [d1, d2] => { results := [.lit (.bool true)], args := [d1, d2] }
  | _ => none }
def metersPartsRow : OpenClaim := { program := "ytimelbcfaniifaadoor", sum := "3df68e5035585d4f6f52865294996fcceaf26631d51106723104671c19cefa40", func := "shellac/shellaclaw04.MetersParts", spec := "metersParts", unfollowed := true, recurses := true, named := ["math/bits.deBruijn64tab"], plainKeys := false, apart := false, laid := [("math/bits.deBruijn64tab", laid_math_bits_deBruijn64tab)] }
def MetersPartsSaid : Prop := metersPartsRow.holds Tryd.pinned (OpenSpec.ofChange metersPartsSpec)

/-- ITS FALSE NEIGHBOUR: 'it returns false'. Refute it at one input. -/
def metersPartsWrong : ChangeSpec := { name := "metersParts", fn := fun _ => fun
  | [d1, d2] => { results := [.lit (.bool false)], args := [d1, d2] }
  | _ => none }
def MetersPartsWrongFalsely : Prop := metersPartsRow.holds Tryd.pinned (OpenSpec.ofChange metersPartsWrong)

/-- 'shellaclaw04.MetersNext': WHATEVER THE INPUT: true; the input reads as it did. -/
def metersNextSpec : ChangeSpec := { name := "metersNext", fn := fun _ => fun
  | [d] => { results := [.lit (.bool true)], args := [d] }
  | _ => none }
def metersNextRow : OpenClaim := { program := "ytimelbcfaniifaadoor", sum := "3df68e5035585d4f6f52865294996fcceaf26631d51106723104671c19cefa40", func := "shellac/shellaclaw04.MetersNext", spec := "metersNext", unfollowed := true, recurses := true, named := ["math/bits.deBruijn64tab"], plainKeys := false, apart := false, laid := [("math/bits.deBruijn64tab", laid_math_bits_deBruijn64tab)] }
def MetersNextSaid : Prop := metersNextRow.holds Tryd.pinned (OpenSpec.ofChange metersNextSpec)

/-- ITS FALSE NEIGHBOUR: 'it returns false'. Refute it at one input. -/
def metersNextWrong : ChangeSpec := { name := "metersNext", fn := fun _ => fun
  | [d] => { results := [.lit (.bool false)], args := [d] }
  | _ => none }
def MetersNextWrongFalsely : Prop := metersNextRow.holds Tryd.pinned (OpenSpec.ofChange metersNextWrong)

/-- 'shellaclaw04.MetersMore': WHATEVER THE INPUT: true; the input reads as it did. -/
def metersMoreSpec : ChangeSpec := { name := "metersMore", fn := fun _ => fun
  | [d1, d2, d3] => { results := [.lit (.bool true)], args := [d1, d2, d3] }
  | _ => none }
def metersMoreRow : OpenClaim := { program := "ytimelbcfaniifaadoor", sum := "3df68e5035585d4f6f52865294996fcceaf26631d51106723104671c19cefa40", func := "shellac/shellaclaw04.MetersMore", spec := "metersMore", unfollowed := true, recurses := true, named := ["math/bits.deBruijn64tab"], plainKeys := false, apart := false, laid := [("math/bits.deBruijn64tab", laid_math_bits_deBruijn64tab)] }
def MetersMoreSaid : Prop := metersMoreRow.holds Tryd.pinned (OpenSpec.ofChange metersMoreSpec)

/-- ITS FALSE NEIGHBOUR: 'it returns false'. Refute it at one input. -/
def metersMoreWrong : ChangeSpec := { name := "metersMore", fn := fun _ => fun
  | [d1, d2, d3] => { results := [.lit (.bool false)], args := [d1, d2, d3] }
  | _ => none }
def MetersMoreWrongFalsely : Prop := metersMoreRow.holds Tryd.pinned (OpenSpec.ofChange metersMoreWrong)

/-- 'shellaclaw04.MetersHundred': WHATEVER THE INPUT: true; the input reads as it did. -/
def metersHundredSpec : ChangeSpec := { name := "metersHundred", fn := fun _ => fun
  | [d1, d2] => { results := [.lit (.bool true)], args := [d1, d2] }
  | _ => none }
def metersHundredRow : OpenClaim := { program := "ytimelbcfaniifaadoor", sum := "3df68e5035585d4f6f52865294996fcceaf26631d51106723104671c19cefa40", func := "shellac/shellaclaw04.MetersHundred", spec := "metersHundred", unfollowed := true, recurses := true, named := ["math/bits.deBruijn64tab"], plainKeys := false, apart := false, laid := [("math/bits.deBruijn64tab", laid_math_bits_deBruijn64tab)] }
def MetersHundredSaid : Prop := metersHundredRow.holds Tryd.pinned (OpenSpec.ofChange metersHundredSpec)

/-- ITS FALSE NEIGHBOUR: 'it returns false'. Refute it at one input. -/
def metersHundredWrong : ChangeSpec := { name := "metersHundred", fn := fun _ => fun
  | [d1, d2] => { results := [.lit (.bool false)], args := [d1, d2] }
  | _ => none }
def MetersHundredWrongFalsely : Prop := metersHundredRow.holds Tryd.pinned (OpenSpec.ofChange metersHundredWrong)

/-- 'shellaclaw04.MetersBack': WHATEVER THE INPUT: true; the input reads as it did. -/
def metersBackSpec : ChangeSpec := { name := "metersBack", fn := fun _ => fun
  | [d1, d2] => { results := [.lit (.bool true)], args := [d1, d2] }
  | _ => none }
def metersBackRow : OpenClaim := { program := "ytimelbcfaniifaadoor", sum := "3df68e5035585d4f6f52865294996fcceaf26631d51106723104671c19cefa40", func := "shellac/shellaclaw04.MetersBack", spec := "metersBack", unfollowed := true, recurses := true, named := ["math/bits.deBruijn64tab"], plainKeys := false, apart := false, laid := [("math/bits.deBruijn64tab", laid_math_bits_deBruijn64tab)] }
def MetersBackSaid : Prop := metersBackRow.holds Tryd.pinned (OpenSpec.ofChange metersBackSpec)

/-- ITS FALSE NEIGHBOUR: 'it returns false'. Refute it at one input. -/
def metersBackWrong : ChangeSpec := { name := "metersBack", fn := fun _ => fun
  | [d1, d2] => { results := [.lit (.bool false)], args := [d1, d2] }
  | _ => none }
def MetersBackWrongFalsely : Prop := metersBackRow.holds Tryd.pinned (OpenSpec.ofChange metersBackWrong)

/-- 'shellaclaw04.MetersOrder': WHATEVER THE INPUT: true; the input reads as it did. -/
def metersOrderSpec : ChangeSpec := { name := "metersOrder", fn := fun _ => fun
  | [d1, d2, d3] => { results := [.lit (.bool true)], args := [d1, d2, d3] }
  | _ => none }
def metersOrderRow : OpenClaim := { program := "ytimelbcfaniifaadoor", sum := "3df68e5035585d4f6f52865294996fcceaf26631d51106723104671c19cefa40", func := "shellac/shellaclaw04.MetersOrder", spec := "metersOrder", unfollowed := true, recurses := true, named := ["math/bits.deBruijn64tab"], plainKeys := false, apart := false, laid := [("math/bits.deBruijn64tab", laid_math_bits_deBruijn64tab)] }
def MetersOrderSaid : Prop := metersOrderRow.holds Tryd.pinned (OpenSpec.ofChange metersOrderSpec)

/-- ITS FALSE NEIGHBOUR: 'it returns false'. Refute it at one input. -/
def metersOrderWrong : ChangeSpec := { name := "metersOrder", fn := fun _ => fun
  | [d1, d2, d3] => { results := [.lit (.bool false)], args := [d1, d2, d3] }
  | _ => none }
def MetersOrderWrongFalsely : Prop := metersOrderRow.holds Tryd.pinned (OpenSpec.ofChange metersOrderWrong)

/-- 'shellaclaw04.MetersFewest': WHATEVER THE INPUT: true; the input reads as it did. -/
def metersFewestSpec : ChangeSpec := { name := "metersFewest", fn := fun _ => fun
  | [d] => { results := [.lit (.bool true)], args := [d] }
  | _ => none }
def metersFewestRow : OpenClaim := { program := "ytimelbcfaniifaadoor", sum := "3df68e5035585d4f6f52865294996fcceaf26631d51106723104671c19cefa40", func := "shellac/shellaclaw04.MetersFewest", spec := "metersFewest", unfollowed := true, recurses := true, named := ["math/bits.deBruijn64tab"], plainKeys := false, apart := false, laid := [("math/bits.deBruijn64tab", laid_math_bits_deBruijn64tab)] }
def MetersFewestSaid : Prop := metersFewestRow.holds Tryd.pinned (OpenSpec.ofChange metersFewestSpec)

/-- ITS FALSE NEIGHBOUR: 'it returns false'. Refute it at one input. -/
def metersFewestWrong : ChangeSpec := { name := "metersFewest", fn := fun _ => fun
  | [d] => { results := [.lit (.bool false)], args := [d] }
  | _ => none }
def MetersFewestWrongFalsely : Prop := metersFewestRow.holds Tryd.pinned (OpenSpec.ofChange metersFewestWrong)

/-- 'shellaclaw04.MetersSums': WHATEVER THE INPUT: true; the input reads as it did. -/
def metersSumsSpec : ChangeSpec := { name := "metersSums", fn := fun _ => fun
  | [d1, d2] => { results := [.lit (.bool true)], args := [d1, d2] }
  | _ => none }
def metersSumsRow : OpenClaim := { program := "ytimelbcfaniifaadoor", sum := "3df68e5035585d4f6f52865294996fcceaf26631d51106723104671c19cefa40", func := "shellac/shellaclaw04.MetersSums", spec := "metersSums", unfollowed := true, recurses := true, named := ["math/bits.deBruijn64tab"], plainKeys := false, apart := false, laid := [("math/bits.deBruijn64tab", laid_math_bits_deBruijn64tab)] }
def MetersSumsSaid : Prop := metersSumsRow.holds Tryd.pinned (OpenSpec.ofChange metersSumsSpec)

/-- ITS FALSE NEIGHBOUR: 'it returns false'. Refute it at one input. -/
def metersSumsWrong : ChangeSpec := { name := "metersSums", fn := fun _ => fun
  | [d1, d2] => { results := [.lit (.bool false)], args := [d1, d2] }
  | _ => none }
def MetersSumsWrongFalsely : Prop := metersSumsRow.holds Tryd.pinned (OpenSpec.ofChange metersSumsWrong)

/-- 'shellaclaw04.MetersStart': WHATEVER THE INPUT: true; the input reads as it did. -/
def metersStartSpec : ChangeSpec := { name := "metersStart", fn := fun _ => fun
  | [d1, d2, d3] => { results := [.lit (.bool true)], args := [d1, d2, d3] }
  | _ => none }
def metersStartRow : OpenClaim := { program := "ytimelbcfaniifaadoor", sum := "3df68e5035585d4f6f52865294996fcceaf26631d51106723104671c19cefa40", func := "shellac/shellaclaw04.MetersStart", spec := "metersStart", unfollowed := true, recurses := true, named := ["math/bits.deBruijn64tab"], plainKeys := false, apart := false, laid := [("math/bits.deBruijn64tab", laid_math_bits_deBruijn64tab)] }
def MetersStartSaid : Prop := metersStartRow.holds Tryd.pinned (OpenSpec.ofChange metersStartSpec)

/-- ITS FALSE NEIGHBOUR: 'it returns false'. Refute it at one input. -/
def metersStartWrong : ChangeSpec := { name := "metersStart", fn := fun _ => fun
  | [d1, d2, d3] => { results := [.lit (.bool false)], args := [d1, d2, d3] }
  | _ => none }
def MetersStartWrongFalsely : Prop := metersStartRow.holds Tryd.pinned (OpenSpec.ofChange metersStartWrong)

/-- 'shellaclaw04.MetersTrue': WHATEVER THE INPUT: true; the input reads as it did. -/
def metersTrueSpec : ChangeSpec := { name := "metersTrue", fn := fun _ => fun
  | [d1, d2, d3] => { results := [.lit (.bool true)], args := [d1, d2, d3] }
  | _ => none }
def metersTrueRow : OpenClaim := { program := "ytimelbcfaniifaadoor", sum := "3df68e5035585d4f6f52865294996fcceaf26631d51106723104671c19cefa40", func := "shellac/shellaclaw04.MetersTrue", spec := "metersTrue", unfollowed := true, recurses := true, named := ["math/bits.deBruijn64tab"], plainKeys := false, apart := false, laid := [("math/bits.deBruijn64tab", laid_math_bits_deBruijn64tab)] }
def MetersTrueSaid : Prop := metersTrueRow.holds Tryd.pinned (OpenSpec.ofChange metersTrueSpec)

/-- ITS FALSE NEIGHBOUR: 'it returns false'. Refute it at one input. -/
def metersTrueWrong : ChangeSpec := { name := "metersTrue", fn := fun _ => fun
  | [d1, d2, d3] => { results := [.lit (.bool false)], args := [d1, d2, d3] }
  | _ => none }
def MetersTrueWrongFalsely : Prop := metersTrueRow.holds Tryd.pinned (OpenSpec.ofChange metersTrueWrong)

/-- 'shellactop.TopMetered': WHATEVER THE INPUT: true; the input reads as it did. -/
def topMeteredSpec : ChangeSpec := { name := "topMetered", fn := fun _ => fun
  | [d1, d2] => { results := [.lit (.bool true)], args := [d1, d2] }
  | _ => none }
def topMeteredRow : OpenClaim := { program := "ytimelbcfaniifaadoor", sum := "3df68e5035585d4f6f52865294996fcceaf26631d51106723104671c19cefa40", func := "shellac/shellactop.TopMetered", spec := "topMetered", unfollowed := true, recurses := true, named := ["math/bits.deBruijn64tab"], plainKeys := false, apart := false, laid := [("math/bits.deBruijn64tab", laid_math_bits_deBruijn64tab)] }
def TopMeteredSaid : Prop := topMeteredRow.holds Tryd.pinned (OpenSpec.ofChange topMeteredSpec)

/-- ITS FALSE NEIGHBOUR: 'it returns false'. Refute it at one input. -/
def topMeteredWrong : ChangeSpec := { name := "topMetered", fn := fun _ => fun
  | [d1, d2] => { results := [.lit (.bool false)], args := [d1, d2] }
  | _ => none }
def TopMeteredWrongFalsely : Prop := topMeteredRow.holds Tryd.pinned (OpenSpec.ofChange topMeteredWrong)

/- THE SECOND FORM. 'bulk': how many values and letters a reading holds, each counted each time it is reached (what is shared counts as often as it is met; a slice's spare places count too). A statement '..UptoSaid' is the law's where the arguments, and the package variables that the reading takes, are together of bulk at most 1048576: NARROWER than '..Said'. Prove '..Said' where nothing that the law and all that it calls make is longer than what came in: it says more and counts as full. Else prove '..UptoSaid'. A law counts once. -/
mutual
def uptoBulk {H : Type} : DataW H → Nat
  | .lit (.string bytes) => bytes.length + 1
  | .lit _ => 1
  | .nil => 1
  | .ptr d => uptoBulk d + 1
  | .slice elems spare => uptoBulkAll elems + uptoBulkAll spare + 1
  | .agg parts => uptoBulkAll parts + 1
  | .iface _ d => uptoBulk d + 1
  | .map entries => uptoBulkEntries entries + 1
  | .held _ => 1
def uptoBulkAll {H : Type} : List (DataW H) → Nat
  | [] => 0
  | d :: r => uptoBulk d + uptoBulkAll r
def uptoBulkEntries {H : Type} : List (Lit × DataW H) → Nat
  | [] => 0
  | x :: r => uptoBulkEntry x + uptoBulkEntries r
def uptoBulkEntry {H : Type} : Lit × DataW H → Nat
  | (.string bytes, d) => bytes.length + uptoBulk d + 1
  | (_, d) => uptoBulk d + 1
 end
def uptoSmall : (H : Type) → List (DataW H) → Bool := fun _ ds => decide (uptoBulkAll ds ≤ 1048576)
def OpenSpec.upto (s : _root_.Go.ChangeSpec) : _root_.Go.OpenSpec := { _root_.Go.OpenSpec.ofChange s with cond := some uptoSmall }

/-- 'shellaclaw04.MetersParts', WHERE WHAT IT READS IS OF BULK AT MOST 1048576: true; the input reads as it did. -/
def metersPartsUptoRow : OpenClaim := { program := "ytimelbcfaniifaadoor", sum := "3df68e5035585d4f6f52865294996fcceaf26631d51106723104671c19cefa40", func := "shellac/shellaclaw04.MetersParts", spec := "metersParts", unfollowed := true, recurses := true, named := ["math/bits.deBruijn64tab"], plainKeys := false, apart := false, laid := [("math/bits.deBruijn64tab", laid_math_bits_deBruijn64tab)], narrowed := true }
def MetersPartsUptoSaid : Prop := metersPartsUptoRow.holds Tryd.pinned (OpenSpec.upto metersPartsSpec)

/-- 'shellaclaw04.MetersNext', WHERE WHAT IT READS IS OF BULK AT MOST 1048576: true; the input reads as it did. -/
def metersNextUptoRow : OpenClaim := { program := "ytimelbcfaniifaadoor", sum := "3df68e5035585d4f6f52865294996fcceaf26631d51106723104671c19cefa40", func := "shellac/shellaclaw04.MetersNext", spec := "metersNext", unfollowed := true, recurses := true, named := ["math/bits.deBruijn64tab"], plainKeys := false, apart := false, laid := [("math/bits.deBruijn64tab", laid_math_bits_deBruijn64tab)], narrowed := true }
def MetersNextUptoSaid : Prop := metersNextUptoRow.holds Tryd.pinned (OpenSpec.upto metersNextSpec)

/-- 'shellaclaw04.MetersMore', WHERE WHAT IT READS IS OF BULK AT MOST 1048576: true; the input reads as it did. -/
def metersMoreUptoRow : OpenClaim := { program := "ytimelbcfaniifaadoor", sum := "3df68e5035585d4f6f52865294996fcceaf26631d51106723104671c19cefa40", func := "shellac/shellaclaw04.MetersMore", spec := "metersMore", unfollowed := true, recurses := true, named := ["math/bits.deBruijn64tab"], plainKeys := false, apart := false, laid := [("math/bits.deBruijn64tab", laid_math_bits_deBruijn64tab)], narrowed := true }
def MetersMoreUptoSaid : Prop := metersMoreUptoRow.holds Tryd.pinned (OpenSpec.upto metersMoreSpec)

/-- 'shellaclaw04.MetersHundred', WHERE WHAT IT READS IS OF BULK AT MOST 1048576: true; the input reads as it did. -/
def metersHundredUptoRow : OpenClaim := { program := "ytimelbcfaniifaadoor", sum := "3df68e5035585d4f6f52865294996fcceaf26631d51106723104671c19cefa40", func := "shellac/shellaclaw04.MetersHundred", spec := "metersHundred", unfollowed := true, recurses := true, named := ["math/bits.deBruijn64tab"], plainKeys := false, apart := false, laid := [("math/bits.deBruijn64tab", laid_math_bits_deBruijn64tab)], narrowed := true }
def MetersHundredUptoSaid : Prop := metersHundredUptoRow.holds Tryd.pinned (OpenSpec.upto metersHundredSpec)

/-- 'shellaclaw04.MetersBack', WHERE WHAT IT READS IS OF BULK AT MOST 1048576: true; the input reads as it did. -/
def metersBackUptoRow : OpenClaim := { program := "ytimelbcfaniifaadoor", sum := "3df68e5035585d4f6f52865294996fcceaf26631d51106723104671c19cefa40", func := "shellac/shellaclaw04.MetersBack", spec := "metersBack", unfollowed := true, recurses := true, named := ["math/bits.deBruijn64tab"], plainKeys := false, apart := false, laid := [("math/bits.deBruijn64tab", laid_math_bits_deBruijn64tab)], narrowed := true }
def MetersBackUptoSaid : Prop := metersBackUptoRow.holds Tryd.pinned (OpenSpec.upto metersBackSpec)

/-- 'shellaclaw04.MetersOrder', WHERE WHAT IT READS IS OF BULK AT MOST 1048576: true; the input reads as it did. -/
def metersOrderUptoRow : OpenClaim := { program := "ytimelbcfaniifaadoor", sum := "3df68e5035585d4f6f52865294996fcceaf26631d51106723104671c19cefa40", func := "shellac/shellaclaw04.MetersOrder", spec := "metersOrder", unfollowed := true, recurses := true, named := ["math/bits.deBruijn64tab"], plainKeys := false, apart := false, laid := [("math/bits.deBruijn64tab", laid_math_bits_deBruijn64tab)], narrowed := true }
def MetersOrderUptoSaid : Prop := metersOrderUptoRow.holds Tryd.pinned (OpenSpec.upto metersOrderSpec)

/-- 'shellaclaw04.MetersFewest', WHERE WHAT IT READS IS OF BULK AT MOST 1048576: true; the input reads as it did. -/
def metersFewestUptoRow : OpenClaim := { program := "ytimelbcfaniifaadoor", sum := "3df68e5035585d4f6f52865294996fcceaf26631d51106723104671c19cefa40", func := "shellac/shellaclaw04.MetersFewest", spec := "metersFewest", unfollowed := true, recurses := true, named := ["math/bits.deBruijn64tab"], plainKeys := false, apart := false, laid := [("math/bits.deBruijn64tab", laid_math_bits_deBruijn64tab)], narrowed := true }
def MetersFewestUptoSaid : Prop := metersFewestUptoRow.holds Tryd.pinned (OpenSpec.upto metersFewestSpec)

/-- 'shellaclaw04.MetersSums', WHERE WHAT IT READS IS OF BULK AT MOST 1048576: true; the input reads as it did. -/
def metersSumsUptoRow : OpenClaim := { program := "ytimelbcfaniifaadoor", sum := "3df68e5035585d4f6f52865294996fcceaf26631d51106723104671c19cefa40", func := "shellac/shellaclaw04.MetersSums", spec := "metersSums", unfollowed := true, recurses := true, named := ["math/bits.deBruijn64tab"], plainKeys := false, apart := false, laid := [("math/bits.deBruijn64tab", laid_math_bits_deBruijn64tab)], narrowed := true }
def MetersSumsUptoSaid : Prop := metersSumsUptoRow.holds Tryd.pinned (OpenSpec.upto metersSumsSpec)

/-- 'shellaclaw04.MetersStart', WHERE WHAT IT READS IS OF BULK AT MOST 1048576: true; the input reads as it did. -/
def metersStartUptoRow : OpenClaim := { program := "ytimelbcfaniifaadoor", sum := "3df68e5035585d4f6f52865294996fcceaf26631d51106723104671c19cefa40", func := "shellac/shellaclaw04.MetersStart", spec := "metersStart", unfollowed := true, recurses := true, named := ["math/bits.deBruijn64tab"], plainKeys := false, apart := false, laid := [("math/bits.deBruijn64tab", laid_math_bits_deBruijn64tab)], narrowed := true }
def MetersStartUptoSaid : Prop := metersStartUptoRow.holds Tryd.pinned (OpenSpec.upto metersStartSpec)

/-- 'shellaclaw04.MetersTrue', WHERE WHAT IT READS IS OF BULK AT MOST 1048576: true; the input reads as it did. -/
def metersTrueUptoRow : OpenClaim := { program := "ytimelbcfaniifaadoor", sum := "3df68e5035585d4f6f52865294996fcceaf26631d51106723104671c19cefa40", func := "shellac/shellaclaw04.MetersTrue", spec := "metersTrue", unfollowed := true, recurses := true, named := ["math/bits.deBruijn64tab"], plainKeys := false, apart := false, laid := [("math/bits.deBruijn64tab", laid_math_bits_deBruijn64tab)], narrowed := true }
def MetersTrueUptoSaid : Prop := metersTrueUptoRow.holds Tryd.pinned (OpenSpec.upto metersTrueSpec)

/-- 'shellactop.TopMetered', WHERE WHAT IT READS IS OF BULK AT MOST 1048576: true; the input reads as it did. -/
def topMeteredUptoRow : OpenClaim := { program := "ytimelbcfaniifaadoor", sum := "3df68e5035585d4f6f52865294996fcceaf26631d51106723104671c19cefa40", func := "shellac/shellactop.TopMetered", spec := "topMetered", unfollowed := true, recurses := true, named := ["math/bits.deBruijn64tab"], plainKeys := false, apart := false, laid := [("math/bits.deBruijn64tab", laid_math_bits_deBruijn64tab)], narrowed := true }
def TopMeteredUptoSaid : Prop := topMeteredUptoRow.holds Tryd.pinned (OpenSpec.upto topMeteredSpec)

end Rows
end Go.Proofs.YtimelbcfaniifaaDoor
