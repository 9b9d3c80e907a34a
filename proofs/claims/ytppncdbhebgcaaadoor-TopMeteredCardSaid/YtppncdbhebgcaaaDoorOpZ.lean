
/- What TopMetered is asked, opened. -/
import Derived.Test.YtppncdbhebgcaaaDoorOpY
namespace Go.Proofs.YtppncdbhebgcaaaDoor
open Go.ChangeShapes Go.WideShapes Go.ChangeAt Go.RowKit Go.Deep

theorem metered_cells : Tryd.prog.cellsOf 24 = 4 := by kernel_rfl
set_option maxRecDepth 100000 in
theorem open_metered {H : Type} {enc : TypeId × Value → H} {W : World} {r : Reach} {b0 base : Nat} {held : Bool} {v : Value} {d : DataW H} {p : List MemPlace}
    (hv : Value.okWide Tryd.prog W r b0 24 v) (h : DataW.Trod enc Tryd.prog W base (fun _ => true) held 24 v d p) :
    ∃ a b c e : Int, v = .agg #[.int .i64 a, .int .i64 b, .int .i64 c, .int .i64 e] := by
  obtain ⟨cs, rfl, hsz⟩ := okWide_struct Tryd.underlying24 hv
  rw [metered_cells] at hsz
  obtain ⟨l⟩ := cs
  match l, hsz with
  | [v0, v1, v2, v3], _ =>
    obtain ⟨fuel, hf⟩ := h
    obtain ⟨xs, n, _, hx, _, hlen, hg⟩ := DataW.trod_struct Tryd.underlying24 hf
    match xs, hlen with
    | [x0, x1, x2, x3], _ =>
      have g0 : DataW.trod enc Tryd.prog W base (fun _ => true) held n 3 [v0] = some x0 := by have h := hg 0 _ rfl; simpa [Value.cells, cells_i] using h
      have g1 : DataW.trod enc Tryd.prog W base (fun _ => true) held n 3 [v1] = some x1 := by have h := hg 1 _ rfl; simpa [Value.cells, cells_i] using h
      have g2 : DataW.trod enc Tryd.prog W base (fun _ => true) held n 3 [v2] = some x2 := by have h := hg 2 _ rfl; simpa [Value.cells, cells_i] using h
      have g3 : DataW.trod enc Tryd.prog W base (fun _ => true) held n 3 [v3] = some x3 := by have h := hg 3 _ rfl; simpa [Value.cells, cells_i] using h
      obtain ⟨a, e0, -, -⟩ := DataW.trod_int Tryd.underlying3 g0
      obtain ⟨b, e1, -, -⟩ := DataW.trod_int Tryd.underlying3 g1
      obtain ⟨c, e2, -, -⟩ := DataW.trod_int Tryd.underlying3 g2
      obtain ⟨e, e3, -, -⟩ := DataW.trod_int Tryd.underlying3 g3
      obtain rfl : v0 = .int .i64 a := by simpa using e0
      obtain rfl : v1 = .int .i64 b := by simpa using e1
      obtain rfl : v2 = .int .i64 c := by simpa using e2
      obtain rfl : v3 = .int .i64 e := by simpa using e3
      exact ⟨a, b, c, e, rfl⟩
end Go.Proofs.YtppncdbhebgcaaaDoor
