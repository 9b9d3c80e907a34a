
/- The walks of the reference's functions on a truth. -/
import Derived.Test.YtppncdbhebgcaaaXI
namespace Go.Proofs.Ytppncdbhebgcaaa
open Go.RowKit

def TrV (w : World) (v : Value) (st : Int) (pl : List Int) : Prop := ∃ p c, v = .agg #[.int .i64 st, .slice p pl.length c] ∧ IntsAt w p pl
theorem TrV.ext {w w' : World} {v : Value} {st : Int} {pl : List Int} (h : TrV w v st pl) (hE : Ext w w') : TrV w' v st pl := by
  obtain ⟨p, c, e, h1⟩ := h
  exact ⟨p, c, e, h1.ext hE⟩

end Go.Proofs.Ytppncdbhebgcaaa
