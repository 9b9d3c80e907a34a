/- Arguments opened: structs of ints. -/
import Derived.Test.YtpgjkmjejpfkmaaOpn2
namespace Go.Proofs.Ytpgjkmjejpfkmaa
open Go.ChangeShapes Go.WideShapes Go.ChangeAt Go.RowKit

theorem more_cells : Try.prog.cellsOf 28 = 6 := by kernel_rfl
set_option maxRecDepth 100000 in
theorem open_more {H : Type} {enc : TypeId × Value → H} {W : World} {r : Reach} {b0 base : Nat} {held : Bool} {v : Value} {d : DataW H} {p : List MemPlace}
    (hv : Value.okWide Try.prog W r b0 28 v) (h : DataW.Trod enc Try.prog W base (fun _ => true) held 28 v d p) :
    ∃ a b c d e f : Int, v = .agg #[.int .i64 a, .int .i64 b, .int .i64 c, .int .i64 d, .int .i64 e, .int .i64 f] := by
  obtain ⟨cs, rfl, hsz⟩ := okWide_struct Try.underlying28 hv
  rw [more_cells] at hsz
  obtain ⟨l⟩ := cs
  match l, hsz with
  | [v0, v1, v2, v3, v4, v5], _ =>
    obtain ⟨fuel, hf⟩ := h
    obtain ⟨xs, n, _, hx, _, hlen, hg⟩ := DataW.trod_struct Try.underlying28 hf
    match xs, hlen with
    | [x0, x1, x2, x3, x4, x5], _ =>
      have g0 : DataW.trod enc Try.prog W base (fun _ => true) held n 3 [v0] = some x0 := by have h := hg 0 _ rfl; simpa [Value.cells, cells_d] using h
      have g1 : DataW.trod enc Try.prog W base (fun _ => true) held n 3 [v1] = some x1 := by have h := hg 1 _ rfl; simpa [Value.cells, cells_d] using h
      have g2 : DataW.trod enc Try.prog W base (fun _ => true) held n 3 [v2] = some x2 := by have h := hg 2 _ rfl; simpa [Value.cells, cells_d] using h
      have g3 : DataW.trod enc Try.prog W base (fun _ => true) held n 3 [v3] = some x3 := by have h := hg 3 _ rfl; simpa [Value.cells, cells_d] using h
      have g4 : DataW.trod enc Try.prog W base (fun _ => true) held n 3 [v4] = some x4 := by have h := hg 4 _ rfl; simpa [Value.cells, cells_d] using h
      have g5 : DataW.trod enc Try.prog W base (fun _ => true) held n 3 [v5] = some x5 := by have h := hg 5 _ rfl; simpa [Value.cells, cells_d] using h
      obtain ⟨a, e0, -, -⟩ := DataW.trod_int Try.underlying3 g0
      obtain ⟨b, e1, -, -⟩ := DataW.trod_int Try.underlying3 g1
      obtain ⟨c, e2, -, -⟩ := DataW.trod_int Try.underlying3 g2
      obtain ⟨d, e3, -, -⟩ := DataW.trod_int Try.underlying3 g3
      obtain ⟨e, e4, -, -⟩ := DataW.trod_int Try.underlying3 g4
      obtain ⟨f, e5, -, -⟩ := DataW.trod_int Try.underlying3 g5
      obtain rfl : v0 = .int .i64 a := by simpa using e0
      obtain rfl : v1 = .int .i64 b := by simpa using e1
      obtain rfl : v2 = .int .i64 c := by simpa using e2
      obtain rfl : v3 = .int .i64 d := by simpa using e3
      obtain rfl : v4 = .int .i64 e := by simpa using e4
      obtain rfl : v5 = .int .i64 f := by simpa using e5
      exact ⟨a, b, c, d, e, f, rfl⟩

theorem by_cells : Try.prog.cellsOf 69 = 3 := by kernel_rfl
set_option maxRecDepth 100000 in
theorem open_by {H : Type} {enc : TypeId × Value → H} {W : World} {r : Reach} {b0 base : Nat} {held : Bool} {v : Value} {d : DataW H} {p : List MemPlace}
    (hv : Value.okWide Try.prog W r b0 69 v) (h : DataW.Trod enc Try.prog W base (fun _ => true) held 69 v d p) :
    ∃ a b c : Int, v = .agg #[.int .i64 a, .int .i64 b, .int .i64 c] ∧ -9223372036854775808 ≤ b ∧ b ≤ 9223372036854775807 := by
  obtain ⟨cs, rfl, hsz⟩ := okWide_struct Try.underlying69 hv
  rw [by_cells] at hsz
  obtain ⟨l⟩ := cs
  match l, hsz with
  | [v0, v1, v2], _ =>
    obtain ⟨fuel, hf⟩ := h
    obtain ⟨xs, n, _, hx, _, hlen, hg⟩ := DataW.trod_struct Try.underlying69 hf
    match xs, hlen with
    | [x0, x1, x2], _ =>
      have g0 : DataW.trod enc Try.prog W base (fun _ => true) held n 3 [v0] = some x0 := by have h := hg 0 _ rfl; simpa [Value.cells, cells_d] using h
      have g1 : DataW.trod enc Try.prog W base (fun _ => true) held n 3 [v1] = some x1 := by have h := hg 1 _ rfl; simpa [Value.cells, cells_d] using h
      have g2 : DataW.trod enc Try.prog W base (fun _ => true) held n 3 [v2] = some x2 := by have h := hg 2 _ rfl; simpa [Value.cells, cells_d] using h
      obtain ⟨a, e0, -, -⟩ := DataW.trod_int Try.underlying3 g0
      obtain ⟨b, e1, -, hwf⟩ := DataW.trod_int Try.underlying3 g1
      obtain ⟨c, e2, -, -⟩ := DataW.trod_int Try.underlying3 g2
      obtain rfl : v0 = .int .i64 a := by simpa using e0
      obtain rfl : v1 = .int .i64 b := by simpa using e1
      obtain rfl : v2 = .int .i64 c := by simpa using e2
      exact ⟨a, b, c, rfl, (i64_rng hwf).1, (i64_rng hwf).2⟩
end Go.Proofs.Ytpgjkmjejpfkmaa
