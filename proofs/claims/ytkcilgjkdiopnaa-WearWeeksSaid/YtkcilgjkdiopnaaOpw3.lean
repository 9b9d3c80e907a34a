/- Arguments opened: a budget. -/
import Derived.Test.YtkcilgjkdiopnaaOpw
namespace Go.Proofs.Ytkcilgjkdiopnaa
open Go.ChangeShapes Go.WideShapes Go.ChangeAt Go.RowKit Go.Deep

theorem budget_cells : Try.prog.cellsOf 57 = 2 := by kernel_rfl
set_option maxRecDepth 100000 in
theorem open_budget {H : Type} {enc : TypeId × Value → H} {W : World} {r : Reach} {b0 base : Nat} {held : Bool} {v : Value} {d : DataW H} {p : List MemPlace}
    (hv : Value.okWide Try.prog W r b0 57 v) (h : DataW.Trod enc Try.prog W base (fun _ => true) held 57 v d p) :
    ∃ a b : Int, v = .agg #[.int .i64 a, .int .i64 b] := by
  obtain ⟨cs, rfl, hsz⟩ := okWide_struct Try.underlying57 hv
  rw [budget_cells] at hsz
  obtain ⟨l⟩ := cs
  match l, hsz with
  | [v0, v1], _ =>
    obtain ⟨fuel, hf⟩ := h
    obtain ⟨xs, n, _, hx, _, hlen, hg⟩ := DataW.trod_struct Try.underlying57 hf
    match xs, hlen with
    | [x0, x1], _ =>
      have g0 : DataW.trod enc Try.prog W base (fun _ => true) held n 3 [v0] = some x0 := by have h := hg 0 _ rfl; simpa [Value.cells, cells_d] using h
      have g1 : DataW.trod enc Try.prog W base (fun _ => true) held n 3 [v1] = some x1 := by have h := hg 1 _ rfl; simpa [Value.cells, cells_d] using h
      obtain ⟨a, e0, -, -⟩ := DataW.trod_int Try.underlying3 g0
      obtain ⟨b, e1, -, -⟩ := DataW.trod_int Try.underlying3 g1
      obtain rfl : v0 = .int .i64 a := by simpa using e0
      obtain rfl : v1 = .int .i64 b := by simpa using e1
      exact ⟨a, b, rfl⟩
end Go.Proofs.Ytkcilgjkdiopnaa
