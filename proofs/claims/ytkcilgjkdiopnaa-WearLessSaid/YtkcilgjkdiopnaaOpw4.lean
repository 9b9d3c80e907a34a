/- Arguments opened: by how much less. -/
import Derived.Test.YtkcilgjkdiopnaaVJ
namespace Go.Proofs.Ytkcilgjkdiopnaa
open Go.ChangeShapes Go.WideShapes Go.ChangeAt Go.RowKit Go.Deep

structure Ls where
  record : Int
  worn : Int
  limit : Int
  week : Int
  plays : Int
  age : Int
  rough : Int
  step : Int
theorem less_cells : Try.prog.cellsOf 64 = 8 := by kernel_rfl
set_option maxRecDepth 100000 in
theorem open_less {H : Type} {enc : TypeId × Value → H} {W : World} {r : Reach} {b0 base : Nat} {held : Bool} {v : Value} {d : DataW H} {p : List MemPlace}
    (hv : Value.okWide Try.prog W r b0 64 v) (h : DataW.Trod enc Try.prog W base (fun _ => true) held 64 v d p) :
    ∃ y : Ls, v = .agg #[.int .i64 y.record, .int .i64 y.worn, .int .i64 y.limit, .int .i64 y.week, .int .i64 y.plays, .int .i64 y.age, .int .i64 y.rough, .int .i64 y.step] := by
  obtain ⟨cs, rfl, hsz⟩ := okWide_struct Try.underlying64 hv
  rw [less_cells] at hsz
  obtain ⟨l⟩ := cs
  match l, hsz with
  | [v0, v1, v2, v3, v4, v5, v6, v7], _ =>
    obtain ⟨fuel, hf⟩ := h
    obtain ⟨xs, n, _, hx, _, hlen, hg⟩ := DataW.trod_struct Try.underlying64 hf
    match xs, hlen with
    | [x0, x1, x2, x3, x4, x5, x6, x7], _ =>
      have g0 : DataW.trod enc Try.prog W base (fun _ => true) held n 3 [v0] = some x0 := by have h := hg 0 _ rfl; simpa [Value.cells, cells_d] using h
      have g1 : DataW.trod enc Try.prog W base (fun _ => true) held n 3 [v1] = some x1 := by have h := hg 1 _ rfl; simpa [Value.cells, cells_d] using h
      have g2 : DataW.trod enc Try.prog W base (fun _ => true) held n 3 [v2] = some x2 := by have h := hg 2 _ rfl; simpa [Value.cells, cells_d] using h
      have g3 : DataW.trod enc Try.prog W base (fun _ => true) held n 3 [v3] = some x3 := by have h := hg 3 _ rfl; simpa [Value.cells, cells_d] using h
      have g4 : DataW.trod enc Try.prog W base (fun _ => true) held n 3 [v4] = some x4 := by have h := hg 4 _ rfl; simpa [Value.cells, cells_d] using h
      have g5 : DataW.trod enc Try.prog W base (fun _ => true) held n 3 [v5] = some x5 := by have h := hg 5 _ rfl; simpa [Value.cells, cells_d] using h
      have g6 : DataW.trod enc Try.prog W base (fun _ => true) held n 3 [v6] = some x6 := by have h := hg 6 _ rfl; simpa [Value.cells, cells_d] using h
      have g7 : DataW.trod enc Try.prog W base (fun _ => true) held n 3 [v7] = some x7 := by have h := hg 7 _ rfl; simpa [Value.cells, cells_d] using h
      obtain ⟨a0, e0, -, -⟩ := DataW.trod_int Try.underlying3 g0
      obtain ⟨a1, e1, -, -⟩ := DataW.trod_int Try.underlying3 g1
      obtain ⟨a2, e2, -, -⟩ := DataW.trod_int Try.underlying3 g2
      obtain ⟨a3, e3, -, -⟩ := DataW.trod_int Try.underlying3 g3
      obtain ⟨a4, e4, -, -⟩ := DataW.trod_int Try.underlying3 g4
      obtain ⟨a5, e5, -, -⟩ := DataW.trod_int Try.underlying3 g5
      obtain ⟨a6, e6, -, -⟩ := DataW.trod_int Try.underlying3 g6
      obtain ⟨a7, e7, -, -⟩ := DataW.trod_int Try.underlying3 g7
      obtain rfl : v0 = .int .i64 a0 := by simpa using e0
      obtain rfl : v1 = .int .i64 a1 := by simpa using e1
      obtain rfl : v2 = .int .i64 a2 := by simpa using e2
      obtain rfl : v3 = .int .i64 a3 := by simpa using e3
      obtain rfl : v4 = .int .i64 a4 := by simpa using e4
      obtain rfl : v5 = .int .i64 a5 := by simpa using e5
      obtain rfl : v6 = .int .i64 a6 := by simpa using e6
      obtain rfl : v7 = .int .i64 a7 := by simpa using e7
      exact ⟨⟨a0, a1, a2, a3, a4, a5, a6, a7⟩, rfl⟩
end Go.Proofs.Ytkcilgjkdiopnaa
