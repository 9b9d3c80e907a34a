
/- A chart and what is asked of it, opened. -/
import Derived.Test.YtppncdbhebgcaaaGreatDoorXK
import Derived.Test.YtppncdbhebgcaaaGreatDoorCB
namespace Go.Proofs.YtppncdbhebgcaaaGreatDoor
open Go.ChangeShapes Go.WideShapes Go.ChangeAt Go.RowKit Go.Deep

theorem chart_cells : Tryz.prog.cellsOf 25 = 4 := by kernel_rfl
theorem cells_ms : Tryz.prog.cellsOf 22 = 1 := by kernel_rfl
theorem cells_ilc : Tryz.prog.cellsOf 23 = 1 := by kernel_rfl
instance : Inhabited Mt := ⟨⟨[], [], 0⟩⟩
set_option maxRecDepth 100000 in
theorem open_mts {H : Type} {enc : TypeId × Value → H} {W : World} {base fuel : Nat} {held : Bool} {v : Value} {x : DataW H × List MemPlace}
    (h : DataW.trod enc Tryz.prog W base (fun _ => true) held fuel 22 [v] = some x) : ∃ p c L, v = .slice p (List.length L) c ∧ MtsAt W p L ∧ L.length ≤ 9223372036854775807 := by
  have hM : maxLen = 9223372036854775807 := rfl
  rcases open_slice Tryz.underlying22 h with ⟨hv, -⟩ | ⟨a, len, cap, m, n, D, Pl, hv, -, hl, hm, hmm, -, hx⟩
  · exact ⟨none, 0, [], by simpa using hv, fun i hi => absurd hi (by simp), by decide⟩
  simp only [if_true] at hmm
  have each : ∀ i, i < m → ∃ q : Mt, ∃ p1 d1 p2 d2, W.cell? (a.add (i * 3)) = some (.slice p1 q.weeks.length d1) ∧ W.cell? (a.add (i * 3 + 1)) = some (.slice p2 q.reads.length d2) ∧
      W.cell? (a.add (i * 3 + 2)) = some (.int .i64 q.wrong) ∧ PairsAt W p1 q.weeks ∧ PairsAt W p2 q.reads := by
    intro i hi
    obtain ⟨cs', h1, h2⟩ := hx i hi
    rw [meter_cells] at h1
    obtain ⟨-, hlen, hcell⟩ := World.cells?_some h1
    obtain ⟨xs, k, _, hxy, _, hxl, hf⟩ := DataW.trod_struct Tryz.underlying55 h2
    match xs, hxl, cs', hlen with
    | [x0, x1, x2], _, [v0, v1, v2], _ =>
      have g0 : DataW.trod enc Tryz.prog W base (fun _ => true) held k 52 [v0] = some x0 := by have h := hf 0 _ rfl; simpa [cells_ws] using h
      have g1 : DataW.trod enc Tryz.prog W base (fun _ => true) held k 53 [v1] = some x1 := by have h := hf 1 _ rfl; simpa [cells_rs] using h
      have g2 : DataW.trod enc Tryz.prog W base (fun _ => true) held k 3 [v2] = some x2 := by have h := hf 2 _ rfl; simpa [cells_i] using h
      have e0 := hcell 0 (by omega)
      have e1 := hcell 1 (by omega)
      have e2 := hcell 2 (by omega)
      rw [add_add] at e0 e1 e2
      obtain ⟨p0, c0, l0, q0, a0, -⟩ := open_pairs_any Tryz.underlying52 Tryz.underlying38 (by kernel_rfl) rfl rfl cells_i cells_i Tryz.underlying3 Tryz.underlying3 g0
      obtain ⟨p1, c1, l1, q1, a1, -⟩ := open_pairs_any Tryz.underlying53 Tryz.underlying108 (by kernel_rfl) rfl rfl cells_i cells_i Tryz.underlying3 Tryz.underlying3 g1
      obtain ⟨z, q2, -, -⟩ := DataW.trod_int Tryz.underlying3 g2
      obtain rfl : v2 = .int .i64 z := by simpa using q2
      subst q0 q1
      exact ⟨⟨l0, l1, z⟩, p0, c0, p1, c1, by simpa using e0, by simpa using e1, by simpa using e2, a0, a1⟩
  obtain ⟨q, hq⟩ := choose_lt each
  refine ⟨some a, cap, (List.range len).map q, by simpa using hv, ?_, by simp; omega⟩
  intro i hil
  simp only [List.length_map, List.length_range] at hil
  obtain ⟨p1, d1, p2, d2, k0, k1, k2, r1, r2⟩ := hq i (by omega)
  obtain ⟨_, _, _, _, z0, -⟩ := hq 0 (by omega)
  have ha := addr_plain z0
  rw [ha] at k0 k1 k2
  have k0 := add_plain k0
  have k1 := add_plain k1
  have k2 := add_plain k2
  have hg : ((List.range len).map q)[i]'(by simpa using hil) = q i := by simp
  refine ⟨a.block, a.off, p1, d1, p2, d2, by rw [← ha], ?_, ?_, ?_, ?_, ?_⟩
  · rw [hg]; exact k0
  · rw [hg]; exact k1
  · rw [hg]; exact k2
  · rw [hg]; exact r1
  · rw [hg]; exact r2
set_option maxRecDepth 100000 in
theorem open_chart {H : Type} {enc : TypeId × Value → H} {W : World} {r : Reach} {b0 base : Nat} {held : Bool} {v : Value} {d : DataW H} {p : List MemPlace}
    (hv : Value.okWide Tryz.prog W r b0 25 v) (h : DataW.Trod enc Tryz.prog W base (fun _ => true) held 25 v d p) : ∃ C, ChV W v C := by
  obtain ⟨cs, rfl, hsz⟩ := okWide_struct Tryz.underlying25 hv
  rw [chart_cells] at hsz
  obtain ⟨l⟩ := cs
  match l, hsz with
  | [v0, v1, v2, v3], _ =>
    obtain ⟨fuel, hf⟩ := h
    obtain ⟨xs, n, _, hx, _, hlen, hg⟩ := DataW.trod_struct Tryz.underlying25 hf
    match xs, hlen with
    | [x0, x1, x2, x3], _ =>
      have g0 : DataW.trod enc Tryz.prog W base (fun _ => true) held n 22 [v0] = some x0 := by have h := hg 0 _ rfl; simpa [Value.cells, cells_ms] using h
      have g1 : DataW.trod enc Tryz.prog W base (fun _ => true) held n 23 [v1] = some x1 := by have h := hg 1 _ rfl; simpa [Value.cells, cells_ilc] using h
      have g2 : DataW.trod enc Tryz.prog W base (fun _ => true) held n 3 [v2] = some x2 := by have h := hg 2 _ rfl; simpa [Value.cells, cells_i] using h
      have g3 : DataW.trod enc Tryz.prog W base (fun _ => true) held n 3 [v3] = some x3 := by have h := hg 3 _ rfl; simpa [Value.cells, cells_i] using h
      obtain ⟨p0, c0, L, e0, hL, -⟩ := open_mts g0
      obtain ⟨p1, c1, X, e1, hX, -⟩ := open_ints_any Tryz.underlying23 g1
      obtain ⟨f, e2, -, -⟩ := DataW.trod_int Tryz.underlying3 g2
      obtain ⟨t, e3, -, -⟩ := DataW.trod_int Tryz.underlying3 g3
      obtain rfl : v2 = .int .i64 f := by simpa using e2
      obtain rfl : v3 = .int .i64 t := by simpa using e3
      subst e0 e1
      exact ⟨⟨L, X, f, t⟩, p0, c0, p1, c1, rfl, hL, hX⟩

end Go.Proofs.YtppncdbhebgcaaaGreatDoor
