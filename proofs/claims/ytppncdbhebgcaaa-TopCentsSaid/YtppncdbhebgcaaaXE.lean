
/- The walks of fewest and here. The walk of wrongs. The walk of least. The walk of Check. The walks of ask and Fewest. The walk of can. The walks of readings, Strange and Sure. -/
import Derived.Test.YtppncdbhebgcaaaXD
import Derived.Test.YtppncdbhebgcaaaXB
import Derived.Test.YtppncdbhebgcaaaXC
import Derived.Test.YtppncdbhebgcaaaXA
namespace Go.Proofs.Ytppncdbhebgcaaa
open Go.RowKit

/-- The first set that is not empty. -/
def fewQ (q : Nat → Nat) : Int := match (List.range 8).find? (fun c => decide (0 < cnt 1536 (q c))) with
  | some c => (c : Int)
  | none => -1
theorem find_range {p : Nat → Bool} {n k : Nat} (hk : k < n) (h : p k = true) (h2 : ∀ c, c < k → p c = false) : (List.range n).find? p = some k := by
  rw [List.find?_range_eq_some]
  refine ⟨h, by simpa using hk, fun c hc => by simp [h2 c hc]⟩
theorem fewQ_at {q : Nat → Nat} {k : Nat} (hk : k < 8) (h : 0 < cnt 1536 (q k)) (h2 : ∀ c, c < k → cnt 1536 (q c) = 0) : fewQ q = k := by
  unfold fewQ
  rw [find_range hk (by simpa using h) (fun c hc => by simp [h2 c hc])]
theorem fewQ_none {q : Nat → Nat} (h2 : ∀ c, c < 8 → cnt 1536 (q c) = 0) : fewQ q = -1 := by
  unfold fewQ
  have : (List.range 8).find? (fun c => decide (0 < cnt 1536 (q c))) = none := by
    rw [List.find?_eq_none]
    intro c hc
    simp [h2 c (List.mem_range.1 hc)]
  rw [this]

end Go.Proofs.Ytppncdbhebgcaaa
namespace Go.Proofs.Ytppncdbhebgcaaa
open Go.RowKit

def wrongsF (M : Mt) (a : Nat) (sh : Int) : Int := fewQ (beforeF M a sh a) + fewQ (aheadF M a sh (M.weeks.length - a)) + hereW M a sh
end Go.Proofs.Ytppncdbhebgcaaa
namespace Go.Proofs.Ytppncdbhebgcaaa
open Go.RowKit

def leastTo (M : Mt) (k : Nat) : Int := (List.range k).foldl (fun b (s : Nat) => min b (wrongsF M 0 s)) M.reads.length
end Go.Proofs.Ytppncdbhebgcaaa
namespace Go.Proofs.Ytppncdbhebgcaaa
open Go.RowKit

/-- A meter in memory. -/
def MtV (w : World) (v : Value) (M : Mt) : Prop := ∃ p c q d, v = .agg #[.slice p M.weeks.length c, .slice q M.reads.length d, .int .i64 M.wrong] ∧ PairsAt w p M.weeks ∧ PairsAt w q M.reads
theorem MtV.ext {w w' : World} {v : Value} {M : Mt} (h : MtV w v M) (hE : Ext w w') : MtV w' v M := by
  obtain ⟨p, c, q, d, e, h1, h2⟩ := h
  exact ⟨p, c, q, d, e, h1.ext hE, h2.ext hE⟩

end Go.Proofs.Ytppncdbhebgcaaa
namespace Go.Proofs.Ytppncdbhebgcaaa
open Go.RowKit

open Classical in
noncomputable def askV (M : Mt) (is : Bool) : Int := if ValidM M then (if is = true then (if M.wrong < leastTo M 100 then 3 else 0) else 1) else 40
end Go.Proofs.Ytppncdbhebgcaaa
namespace Go.Proofs.Ytppncdbhebgcaaa
open Go.RowKit

def canT (M : Mt) (r : Int × Int) (right : Bool) (s : Nat) : Bool := (decide ((s : Int) = r.2) == right) && decide (wrongsF M r.1.toNat s ≤ M.wrong)
def canF (M : Mt) (r : Int × Int) (right : Bool) : Bool := (List.range 100).any (canT M r right)
end Go.Proofs.Ytppncdbhebgcaaa
namespace Go.Proofs.Ytppncdbhebgcaaa
open Go.RowKit

end Go.Proofs.Ytppncdbhebgcaaa
