/-
  No cell of these rows narrows 'for every input' (looked for: loops, veiled, ifaces, maps, wideKeys, modest, calm, conditions, laid).
  DERIVED. THE GIVEN ROWS OF THIS SEAT. 11 by the template 'for every input the law returns true; each argument reads behind the call as it read before'; 0 by the template 'total and deterministic' (their statements: YtpgjkmjejpfkmaaTotals.lean).
  GIVEN WITH THE SEED: the statements are not yours to turn. If you find one false, say at which input.
  Laid BY PROGRAM, IN A SANDBOX (cutbox-rows.mjs): the forced cells as the released guide's own fill.sh prints them over the translation ce6ba94daea4d583… (all of the seat's roots in one cut). By AI agents, Wed Nov 11 2026. No macro, syntax, notation, axiom, sorry.
-/
import Derived.Test.YtpgjkmjejpfkmaaChecked
import GoSem.Claim
import GoSem.ClaimJoined
import GoSem.ClaimMapViews
import Derived.JoinedTies
import Derived.KernelRfl
namespace Go.Proofs.Ytpgjkmjejpfkmaa
/- THE CELL 'sum', in the pinned program and in every row, IS THE sha256 OF THE DUMP (.gsa) THAT YtpgjkmjejpfkmaaProg.lean LOADS. Nothing in Lean hashes anything: it is a label: what it is worth is what the hold of that sum in a sandbox is worth. -/
noncomputable def Try.pinned : Pinned := { name := "ytpgjkmjejpfkmaa", sum := "ce6ba94daea4d583e24778e2f7a3ee6115e47384daf37a3bf711da0397692773", checked := Try.checked }
namespace Rows
def none {H : Type} : Left H := { results := [], args := [] }

/-- 'shellaclaw07.SwapsMore': WHATEVER THE INPUT: true; the input reads as it did. -/
def swapsMoreSpec : ChangeSpec := { name := "swapsMore", fn := fun _ => fun
  | [d1, d2, d3] => { results := [.lit (.bool true)], args := [d1, d2, d3] }
  | _ => none }
def swapsMoreRow : OpenClaim := { program := "ytpgjkmjejpfkmaa", sum := "ce6ba94daea4d583e24778e2f7a3ee6115e47384daf37a3bf711da0397692773", func := "shellac/shellaclaw07.SwapsMore", spec := "swapsMore", unfollowed := true, recurses := true, apart := false }
def SwapsMoreSaid : Prop := swapsMoreRow.holds Try.pinned (OpenSpec.ofChange swapsMoreSpec)

/-- ITS FALSE NEIGHBOUR: 'it returns false'. Refute it at one input. -/
def swapsMoreWrong : ChangeSpec := { name := "swapsMore", fn := fun _ => fun
  | [d1, d2, d3] => { results := [.lit (.bool false)], args := [d1, d2, d3] }
  | _ => none }
def SwapsMoreWrongFalsely : Prop := swapsMoreRow.holds Try.pinned (OpenSpec.ofChange swapsMoreWrong)

/-- 'shellaclaw07.SwapsGoal': WHATEVER THE INPUT: true; the input reads as it did. -/
def swapsGoalSpec : ChangeSpec := { name := "swapsGoal", fn := fun _ => fun
  | [d1, d2, d3] => { results := [.lit (.bool true)], args := [d1, d2, d3] }
  | _ => none }
def swapsGoalRow : OpenClaim := { program := "ytpgjkmjejpfkmaa", sum := "ce6ba94daea4d583e24778e2f7a3ee6115e47384daf37a3bf711da0397692773", func := "shellac/shellaclaw07.SwapsGoal", spec := "swapsGoal", unfollowed := true, recurses := true, apart := false }
def SwapsGoalSaid : Prop := swapsGoalRow.holds Try.pinned (OpenSpec.ofChange swapsGoalSpec)

/-- ITS FALSE NEIGHBOUR: 'it returns false'. Refute it at one input. -/
def swapsGoalWrong : ChangeSpec := { name := "swapsGoal", fn := fun _ => fun
  | [d1, d2, d3] => { results := [.lit (.bool false)], args := [d1, d2, d3] }
  | _ => none }
def SwapsGoalWrongFalsely : Prop := swapsGoalRow.holds Try.pinned (OpenSpec.ofChange swapsGoalWrong)

/-- 'shellaclaw07.SwapsFewest': WHATEVER THE INPUT: true; the input reads as it did. -/
def swapsFewestSpec : ChangeSpec := { name := "swapsFewest", fn := fun _ => fun
  | [d1, d2] => { results := [.lit (.bool true)], args := [d1, d2] }
  | _ => none }
def swapsFewestRow : OpenClaim := { program := "ytpgjkmjejpfkmaa", sum := "ce6ba94daea4d583e24778e2f7a3ee6115e47384daf37a3bf711da0397692773", func := "shellac/shellaclaw07.SwapsFewest", spec := "swapsFewest", unfollowed := true, recurses := true, apart := false }
def SwapsFewestSaid : Prop := swapsFewestRow.holds Try.pinned (OpenSpec.ofChange swapsFewestSpec)

/-- ITS FALSE NEIGHBOUR: 'it returns false'. Refute it at one input. -/
def swapsFewestWrong : ChangeSpec := { name := "swapsFewest", fn := fun _ => fun
  | [d1, d2] => { results := [.lit (.bool false)], args := [d1, d2] }
  | _ => none }
def SwapsFewestWrongFalsely : Prop := swapsFewestRow.holds Try.pinned (OpenSpec.ofChange swapsFewestWrong)

/-- 'shellaclaw07.SwapsOrder': WHATEVER THE INPUT: true; the input reads as it did. -/
def swapsOrderSpec : ChangeSpec := { name := "swapsOrder", fn := fun _ => fun
  | [d1, d2] => { results := [.lit (.bool true)], args := [d1, d2] }
  | _ => none }
def swapsOrderRow : OpenClaim := { program := "ytpgjkmjejpfkmaa", sum := "ce6ba94daea4d583e24778e2f7a3ee6115e47384daf37a3bf711da0397692773", func := "shellac/shellaclaw07.SwapsOrder", spec := "swapsOrder", unfollowed := true, recurses := true, apart := false }
def SwapsOrderSaid : Prop := swapsOrderRow.holds Try.pinned (OpenSpec.ofChange swapsOrderSpec)

/-- ITS FALSE NEIGHBOUR: 'it returns false'. Refute it at one input. -/
def swapsOrderWrong : ChangeSpec := { name := "swapsOrder", fn := fun _ => fun
  | [d1, d2] => { results := [.lit (.bool false)], args := [d1, d2] }
  | _ => none }
def SwapsOrderWrongFalsely : Prop := swapsOrderRow.holds Try.pinned (OpenSpec.ofChange swapsOrderWrong)

/-- 'shellaclaw07.SwapsFits': WHATEVER THE INPUT: true; the input reads as it did. -/
def swapsFitsSpec : ChangeSpec := { name := "swapsFits", fn := fun _ => fun
  | [d1, d2] => { results := [.lit (.bool true)], args := [d1, d2] }
  | _ => none }
def swapsFitsRow : OpenClaim := { program := "ytpgjkmjejpfkmaa", sum := "ce6ba94daea4d583e24778e2f7a3ee6115e47384daf37a3bf711da0397692773", func := "shellac/shellaclaw07.SwapsFits", spec := "swapsFits", unfollowed := true, recurses := true, apart := false }
def SwapsFitsSaid : Prop := swapsFitsRow.holds Try.pinned (OpenSpec.ofChange swapsFitsSpec)

/-- ITS FALSE NEIGHBOUR: 'it returns false'. Refute it at one input. -/
def swapsFitsWrong : ChangeSpec := { name := "swapsFits", fn := fun _ => fun
  | [d1, d2] => { results := [.lit (.bool false)], args := [d1, d2] }
  | _ => none }
def SwapsFitsWrongFalsely : Prop := swapsFitsRow.holds Try.pinned (OpenSpec.ofChange swapsFitsWrong)

/-- 'shellactop.TopGain': WHATEVER THE INPUT: true; the input reads as it did. -/
def topGainSpec : ChangeSpec := { name := "topGain", fn := fun _ => fun
  | [d1, d2] => { results := [.lit (.bool true)], args := [d1, d2] }
  | _ => none }
def topGainRow : OpenClaim := { program := "ytpgjkmjejpfkmaa", sum := "ce6ba94daea4d583e24778e2f7a3ee6115e47384daf37a3bf711da0397692773", func := "shellac/shellactop.TopGain", spec := "topGain", unfollowed := true, recurses := true, apart := false }
def TopGainSaid : Prop := topGainRow.holds Try.pinned (OpenSpec.ofChange topGainSpec)

/-- ITS FALSE NEIGHBOUR: 'it returns false'. Refute it at one input. -/
def topGainWrong : ChangeSpec := { name := "topGain", fn := fun _ => fun
  | [d1, d2] => { results := [.lit (.bool false)], args := [d1, d2] }
  | _ => none }
def TopGainWrongFalsely : Prop := topGainRow.holds Try.pinned (OpenSpec.ofChange topGainWrong)

/-- 'shellaclaw07.SwapsFair': WHATEVER THE INPUT: true; the input reads as it did. -/
def swapsFairSpec : ChangeSpec := { name := "swapsFair", fn := fun _ => fun
  | [d1, d2] => { results := [.lit (.bool true)], args := [d1, d2] }
  | _ => none }
def swapsFairRow : OpenClaim := { program := "ytpgjkmjejpfkmaa", sum := "ce6ba94daea4d583e24778e2f7a3ee6115e47384daf37a3bf711da0397692773", func := "shellac/shellaclaw07.SwapsFair", spec := "swapsFair", unfollowed := true, recurses := true, apart := false }
def SwapsFairSaid : Prop := swapsFairRow.holds Try.pinned (OpenSpec.ofChange swapsFairSpec)

/-- ITS FALSE NEIGHBOUR: 'it returns false'. Refute it at one input. -/
def swapsFairWrong : ChangeSpec := { name := "swapsFair", fn := fun _ => fun
  | [d1, d2] => { results := [.lit (.bool false)], args := [d1, d2] }
  | _ => none }
def SwapsFairWrongFalsely : Prop := swapsFairRow.holds Try.pinned (OpenSpec.ofChange swapsFairWrong)

/-- 'shellaclaw07.SwapsEach': WHATEVER THE INPUT: true; the input reads as it did. -/
def swapsEachSpec : ChangeSpec := { name := "swapsEach", fn := fun _ => fun
  | [d1, d2] => { results := [.lit (.bool true)], args := [d1, d2] }
  | _ => none }
def swapsEachRow : OpenClaim := { program := "ytpgjkmjejpfkmaa", sum := "ce6ba94daea4d583e24778e2f7a3ee6115e47384daf37a3bf711da0397692773", func := "shellac/shellaclaw07.SwapsEach", spec := "swapsEach", unfollowed := true, recurses := true, apart := false }
def SwapsEachSaid : Prop := swapsEachRow.holds Try.pinned (OpenSpec.ofChange swapsEachSpec)

/-- ITS FALSE NEIGHBOUR: 'it returns false'. Refute it at one input. -/
def swapsEachWrong : ChangeSpec := { name := "swapsEach", fn := fun _ => fun
  | [d1, d2] => { results := [.lit (.bool false)], args := [d1, d2] }
  | _ => none }
def SwapsEachWrongFalsely : Prop := swapsEachRow.holds Try.pinned (OpenSpec.ofChange swapsEachWrong)

/-- 'shellaclaw07.SwapsMoved': WHATEVER THE INPUT: true; the input reads as it did. -/
def swapsMovedSpec : ChangeSpec := { name := "swapsMoved", fn := fun _ => fun
  | [d1, d2] => { results := [.lit (.bool true)], args := [d1, d2] }
  | _ => none }
def swapsMovedRow : OpenClaim := { program := "ytpgjkmjejpfkmaa", sum := "ce6ba94daea4d583e24778e2f7a3ee6115e47384daf37a3bf711da0397692773", func := "shellac/shellaclaw07.SwapsMoved", spec := "swapsMoved", unfollowed := true, recurses := true, apart := false }
def SwapsMovedSaid : Prop := swapsMovedRow.holds Try.pinned (OpenSpec.ofChange swapsMovedSpec)

/-- ITS FALSE NEIGHBOUR: 'it returns false'. Refute it at one input. -/
def swapsMovedWrong : ChangeSpec := { name := "swapsMoved", fn := fun _ => fun
  | [d1, d2] => { results := [.lit (.bool false)], args := [d1, d2] }
  | _ => none }
def SwapsMovedWrongFalsely : Prop := swapsMovedRow.holds Try.pinned (OpenSpec.ofChange swapsMovedWrong)

/-- 'shellaclaw07.SwapsBest': WHATEVER THE INPUT: true; the input reads as it did. -/
def swapsBestSpec : ChangeSpec := { name := "swapsBest", fn := fun _ => fun
  | [d] => { results := [.lit (.bool true)], args := [d] }
  | _ => none }
def swapsBestRow : OpenClaim := { program := "ytpgjkmjejpfkmaa", sum := "ce6ba94daea4d583e24778e2f7a3ee6115e47384daf37a3bf711da0397692773", func := "shellac/shellaclaw07.SwapsBest", spec := "swapsBest", unfollowed := true, recurses := true, apart := false }
def SwapsBestSaid : Prop := swapsBestRow.holds Try.pinned (OpenSpec.ofChange swapsBestSpec)

/-- ITS FALSE NEIGHBOUR: 'it returns false'. Refute it at one input. -/
def swapsBestWrong : ChangeSpec := { name := "swapsBest", fn := fun _ => fun
  | [d] => { results := [.lit (.bool false)], args := [d] }
  | _ => none }
def SwapsBestWrongFalsely : Prop := swapsBestRow.holds Try.pinned (OpenSpec.ofChange swapsBestWrong)

/-- 'shellaclaw07.SwapsPlan': WHATEVER THE INPUT: true; the input reads as it did. -/
def swapsPlanSpec : ChangeSpec := { name := "swapsPlan", fn := fun _ => fun
  | [d] => { results := [.lit (.bool true)], args := [d] }
  | _ => none }
def swapsPlanRow : OpenClaim := { program := "ytpgjkmjejpfkmaa", sum := "ce6ba94daea4d583e24778e2f7a3ee6115e47384daf37a3bf711da0397692773", func := "shellac/shellaclaw07.SwapsPlan", spec := "swapsPlan", unfollowed := true, recurses := true, apart := false }
def SwapsPlanSaid : Prop := swapsPlanRow.holds Try.pinned (OpenSpec.ofChange swapsPlanSpec)

/-- ITS FALSE NEIGHBOUR: 'it returns false'. Refute it at one input. -/
def swapsPlanWrong : ChangeSpec := { name := "swapsPlan", fn := fun _ => fun
  | [d] => { results := [.lit (.bool false)], args := [d] }
  | _ => none }
def SwapsPlanWrongFalsely : Prop := swapsPlanRow.holds Try.pinned (OpenSpec.ofChange swapsPlanWrong)

/- THE SECOND FORM. 'bulk': how many values and letters a reading holds, each counted each time it is reached (what is shared counts as often as it is met; a slice's spare places count too). A statement '..UptoSaid' is the law's where the arguments, and the package variables that the reading takes, are together of bulk at most 1048576: NARROWER than '..Said'. Prove '..Said' where nothing that the law and all that it calls make is longer than what came in: it says more and counts as full. Else prove '..UptoSaid'. A law counts once. -/
mutual
def uptoBulk {H : Type} : DataW H → Nat
  | .lit (.string bytes) => bytes.length + 1
  | .lit _ => 1
  | .nil => 1
  | .ptr d => uptoBulk d + 1
  | .slice elems spare => uptoBulkAll elems + uptoBulkAll spare + 1
  | .agg parts => uptoBulkAll parts + 1
  | .iface _ d => uptoBulk d + 1
  | .map entries => uptoBulkEntries entries + 1
  | .held _ => 1
def uptoBulkAll {H : Type} : List (DataW H) → Nat
  | [] => 0
  | d :: r => uptoBulk d + uptoBulkAll r
def uptoBulkEntries {H : Type} : List (Lit × DataW H) → Nat
  | [] => 0
  | x :: r => uptoBulkEntry x + uptoBulkEntries r
def uptoBulkEntry {H : Type} : Lit × DataW H → Nat
  | (.string bytes, d) => bytes.length + uptoBulk d + 1
  | (_, d) => uptoBulk d + 1
 end
def uptoSmall : (H : Type) → List (DataW H) → Bool := fun _ ds => decide (uptoBulkAll ds ≤ 1048576)
def OpenSpec.upto (s : _root_.Go.ChangeSpec) : _root_.Go.OpenSpec := { _root_.Go.OpenSpec.ofChange s with cond := some uptoSmall }

/-- 'shellaclaw07.SwapsMore', WHERE WHAT IT READS IS OF BULK AT MOST 1048576: true; the input reads as it did. -/
def swapsMoreUptoRow : OpenClaim := { program := "ytpgjkmjejpfkmaa", sum := "ce6ba94daea4d583e24778e2f7a3ee6115e47384daf37a3bf711da0397692773", func := "shellac/shellaclaw07.SwapsMore", spec := "swapsMore", unfollowed := true, recurses := true, apart := false, narrowed := true }
def SwapsMoreUptoSaid : Prop := swapsMoreUptoRow.holds Try.pinned (OpenSpec.upto swapsMoreSpec)

/-- 'shellaclaw07.SwapsGoal', WHERE WHAT IT READS IS OF BULK AT MOST 1048576: true; the input reads as it did. -/
def swapsGoalUptoRow : OpenClaim := { program := "ytpgjkmjejpfkmaa", sum := "ce6ba94daea4d583e24778e2f7a3ee6115e47384daf37a3bf711da0397692773", func := "shellac/shellaclaw07.SwapsGoal", spec := "swapsGoal", unfollowed := true, recurses := true, apart := false, narrowed := true }
def SwapsGoalUptoSaid : Prop := swapsGoalUptoRow.holds Try.pinned (OpenSpec.upto swapsGoalSpec)

/-- 'shellaclaw07.SwapsFewest', WHERE WHAT IT READS IS OF BULK AT MOST 1048576: true; the input reads as it did. -/
def swapsFewestUptoRow : OpenClaim := { program := "ytpgjkmjejpfkmaa", sum := "ce6ba94daea4d583e24778e2f7a3ee6115e47384daf37a3bf711da0397692773", func := "shellac/shellaclaw07.SwapsFewest", spec := "swapsFewest", unfollowed := true, recurses := true, apart := false, narrowed := true }
def SwapsFewestUptoSaid : Prop := swapsFewestUptoRow.holds Try.pinned (OpenSpec.upto swapsFewestSpec)

/-- 'shellaclaw07.SwapsOrder', WHERE WHAT IT READS IS OF BULK AT MOST 1048576: true; the input reads as it did. -/
def swapsOrderUptoRow : OpenClaim := { program := "ytpgjkmjejpfkmaa", sum := "ce6ba94daea4d583e24778e2f7a3ee6115e47384daf37a3bf711da0397692773", func := "shellac/shellaclaw07.SwapsOrder", spec := "swapsOrder", unfollowed := true, recurses := true, apart := false, narrowed := true }
def SwapsOrderUptoSaid : Prop := swapsOrderUptoRow.holds Try.pinned (OpenSpec.upto swapsOrderSpec)

/-- 'shellaclaw07.SwapsFits', WHERE WHAT IT READS IS OF BULK AT MOST 1048576: true; the input reads as it did. -/
def swapsFitsUptoRow : OpenClaim := { program := "ytpgjkmjejpfkmaa", sum := "ce6ba94daea4d583e24778e2f7a3ee6115e47384daf37a3bf711da0397692773", func := "shellac/shellaclaw07.SwapsFits", spec := "swapsFits", unfollowed := true, recurses := true, apart := false, narrowed := true }
def SwapsFitsUptoSaid : Prop := swapsFitsUptoRow.holds Try.pinned (OpenSpec.upto swapsFitsSpec)

/-- 'shellactop.TopGain', WHERE WHAT IT READS IS OF BULK AT MOST 1048576: true; the input reads as it did. -/
def topGainUptoRow : OpenClaim := { program := "ytpgjkmjejpfkmaa", sum := "ce6ba94daea4d583e24778e2f7a3ee6115e47384daf37a3bf711da0397692773", func := "shellac/shellactop.TopGain", spec := "topGain", unfollowed := true, recurses := true, apart := false, narrowed := true }
def TopGainUptoSaid : Prop := topGainUptoRow.holds Try.pinned (OpenSpec.upto topGainSpec)

/-- 'shellaclaw07.SwapsFair', WHERE WHAT IT READS IS OF BULK AT MOST 1048576: true; the input reads as it did. -/
def swapsFairUptoRow : OpenClaim := { program := "ytpgjkmjejpfkmaa", sum := "ce6ba94daea4d583e24778e2f7a3ee6115e47384daf37a3bf711da0397692773", func := "shellac/shellaclaw07.SwapsFair", spec := "swapsFair", unfollowed := true, recurses := true, apart := false, narrowed := true }
def SwapsFairUptoSaid : Prop := swapsFairUptoRow.holds Try.pinned (OpenSpec.upto swapsFairSpec)

/-- 'shellaclaw07.SwapsEach', WHERE WHAT IT READS IS OF BULK AT MOST 1048576: true; the input reads as it did. -/
def swapsEachUptoRow : OpenClaim := { program := "ytpgjkmjejpfkmaa", sum := "ce6ba94daea4d583e24778e2f7a3ee6115e47384daf37a3bf711da0397692773", func := "shellac/shellaclaw07.SwapsEach", spec := "swapsEach", unfollowed := true, recurses := true, apart := false, narrowed := true }
def SwapsEachUptoSaid : Prop := swapsEachUptoRow.holds Try.pinned (OpenSpec.upto swapsEachSpec)

/-- 'shellaclaw07.SwapsMoved', WHERE WHAT IT READS IS OF BULK AT MOST 1048576: true; the input reads as it did. -/
def swapsMovedUptoRow : OpenClaim := { program := "ytpgjkmjejpfkmaa", sum := "ce6ba94daea4d583e24778e2f7a3ee6115e47384daf37a3bf711da0397692773", func := "shellac/shellaclaw07.SwapsMoved", spec := "swapsMoved", unfollowed := true, recurses := true, apart := false, narrowed := true }
def SwapsMovedUptoSaid : Prop := swapsMovedUptoRow.holds Try.pinned (OpenSpec.upto swapsMovedSpec)

/-- 'shellaclaw07.SwapsBest', WHERE WHAT IT READS IS OF BULK AT MOST 1048576: true; the input reads as it did. -/
def swapsBestUptoRow : OpenClaim := { program := "ytpgjkmjejpfkmaa", sum := "ce6ba94daea4d583e24778e2f7a3ee6115e47384daf37a3bf711da0397692773", func := "shellac/shellaclaw07.SwapsBest", spec := "swapsBest", unfollowed := true, recurses := true, apart := false, narrowed := true }
def SwapsBestUptoSaid : Prop := swapsBestUptoRow.holds Try.pinned (OpenSpec.upto swapsBestSpec)

/-- 'shellaclaw07.SwapsPlan', WHERE WHAT IT READS IS OF BULK AT MOST 1048576: true; the input reads as it did. -/
def swapsPlanUptoRow : OpenClaim := { program := "ytpgjkmjejpfkmaa", sum := "ce6ba94daea4d583e24778e2f7a3ee6115e47384daf37a3bf711da0397692773", func := "shellac/shellaclaw07.SwapsPlan", spec := "swapsPlan", unfollowed := true, recurses := true, apart := false, narrowed := true }
def SwapsPlanUptoSaid : Prop := swapsPlanUptoRow.holds Try.pinned (OpenSpec.upto swapsPlanSpec)

end Rows
end Go.Proofs.Ytpgjkmjejpfkmaa
