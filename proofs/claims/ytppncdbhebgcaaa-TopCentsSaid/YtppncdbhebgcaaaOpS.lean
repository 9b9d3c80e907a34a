
/- Arguments opened: a contract, a royal. -/
import Derived.Test.YtppncdbhebgcaaaS0t
import Derived.Test.YtppncdbhebgcaaaS1b
import Derived.Test.YtppncdbhebgcaaaXK
namespace Go.Proofs.Ytppncdbhebgcaaa
open Go.ChangeShapes Go.WideShapes Go.ChangeAt Go.RowKit Go.Deep

theorem clause_cells : Try.prog.cellsOf 68 = 4 := by kernel_rfl
set_option maxRecDepth 100000 in
theorem open_clauses {H : Type} {enc : TypeId × Value → H} {W : World} {base fuel : Nat} {held : Bool} {v : Value} {x : DataW H × List MemPlace}
    (h : DataW.trod enc Try.prog W base (fun _ => true) held fuel 22 [v] = some x) : ∃ p c l, v = .slice p (List.length l) c ∧ ClsAt W p l ∧ l.length ≤ 9223372036854775807 := by
  have hM : maxLen = 9223372036854775807 := rfl
  rcases open_slice Try.underlying22 h with ⟨hv, -⟩ | ⟨a, len, cap, m, n, D, Pl, hv, -, hl, hm, hmm, -, hx⟩
  · exact ⟨none, 0, [], by simpa using hv, fun i h => absurd h (by simp), by decide⟩
  · simp only [if_true] at hmm
    have each : ∀ i, i < m → ∃ c : Cl, W.cell? (a.add (i * 4)) = some (.int .i64 c.k) ∧ W.cell? (a.add (i * 4 + 1)) = some (.int .i64 c.cents) ∧ W.cell? (a.add (i * 4 + 2)) = some (.int .i64 c.part) ∧ W.cell? (a.add (i * 4 + 3)) = some (.int .i64 c.more) := by
      intro i hi
      obtain ⟨cs', h1, h2⟩ := hx i hi
      rw [clause_cells] at h1
      obtain ⟨_, hlen, hcell⟩ := World.cells?_some h1
      obtain ⟨xs, k, hk, hxy, _, hxl, hf⟩ := DataW.trod_struct Try.underlying68 h2
      match xs, hxl, cs', hlen with
      | [z0, z1, z2, z3], _, [v0, v1, v2, v3], _ =>
        have g0 : DataW.trod enc Try.prog W base (fun _ => true) held k 3 [v0] = some z0 := by have h := hf 0 _ rfl; simpa [Value.cells, cells_i] using h
        have g1 : DataW.trod enc Try.prog W base (fun _ => true) held k 3 [v1] = some z1 := by have h := hf 1 _ rfl; simpa [Value.cells, cells_i] using h
        have g2 : DataW.trod enc Try.prog W base (fun _ => true) held k 3 [v2] = some z2 := by have h := hf 2 _ rfl; simpa [Value.cells, cells_i] using h
        have g3 : DataW.trod enc Try.prog W base (fun _ => true) held k 3 [v3] = some z3 := by have h := hf 3 _ rfl; simpa [Value.cells, cells_i] using h
        obtain ⟨n0, e0, -, -⟩ := DataW.trod_int Try.underlying3 g0
        obtain ⟨n1, e1, -, -⟩ := DataW.trod_int Try.underlying3 g1
        obtain ⟨n2, e2, -, -⟩ := DataW.trod_int Try.underlying3 g2
        obtain ⟨n3, e3, -, -⟩ := DataW.trod_int Try.underlying3 g3
        obtain rfl : v0 = .int .i64 n0 := by simpa using e0
        obtain rfl : v1 = .int .i64 n1 := by simpa using e1
        obtain rfl : v2 = .int .i64 n2 := by simpa using e2
        obtain rfl : v3 = .int .i64 n3 := by simpa using e3
        have b0 := hcell 0 (by omega)
        have b1 := hcell 1 (by omega)
        have b2 := hcell 2 (by omega)
        have b3 := hcell 3 (by omega)
        rw [add_add] at b0 b1 b2 b3
        exact ⟨⟨n0, n1, n2, n3⟩, by simpa using b0, by simpa using b1, by simpa using b2, by simpa using b3⟩
    haveI : Inhabited Cl := ⟨⟨0, 0, 0, 0⟩⟩
    obtain ⟨z, hz⟩ := choose_lt each
    refine ⟨some a, cap, (List.range len).map z, by simpa using hv, ?_, by simp; omega⟩
    intro i hil
    simp only [List.length_map, List.length_range] at hil
    obtain ⟨k0, k1, k2, k3⟩ := hz i (by omega)
    have ha := addr_plain (hz 0 (by omega)).1
    rw [ha] at k0 k1 k2 k3
    have k0 := add_plain k0
    have k1 := add_plain k1
    have k2 := add_plain k2
    have k3 := add_plain k3
    refine ⟨a.block, a.off, by rw [← ha], ?_, ?_, ?_, ?_⟩
    · rw [k0]; simp
    · rw [show a.off + i * 4 + 1 = a.off + (i * 4 + 1) from rfl, k1]; simp
    · rw [show a.off + i * 4 + 2 = a.off + (i * 4 + 2) from rfl, k2]; simp
    · rw [show a.off + i * 4 + 3 = a.off + (i * 4 + 3) from rfl, k3]; simp
theorem share_cells : Try.prog.cellsOf 24 = 2 := by kernel_rfl
theorem cells_cl : Try.prog.cellsOf 22 = 1 := by kernel_rfl
set_option maxRecDepth 100000 in
theorem open_share {H : Type} {enc : TypeId × Value → H} {W : World} {r : Reach} {b0 base : Nat} {held : Bool} {v : Value} {d : DataW H} {p : List MemPlace}
    (hv : Value.okWide Try.prog W r b0 24 v) (h : DataW.Trod enc Try.prog W base (fun _ => true) held 24 v d p) :
    ∃ q c cs loan, v = .agg #[.slice q (List.length cs) c, .int .i64 loan] ∧ ClsAt W q cs ∧ cs.length ≤ 9223372036854775807 := by
  obtain ⟨cs, rfl, hsz⟩ := okWide_struct Try.underlying24 hv
  rw [share_cells] at hsz
  obtain ⟨l⟩ := cs
  match l, hsz with
  | [v0, v1], _ =>
    obtain ⟨fuel, hf⟩ := h
    obtain ⟨xs, n, _, hx, _, hlen, hg⟩ := DataW.trod_struct Try.underlying24 hf
    match xs, hlen with
    | [x0, x1], _ =>
      have g0 : DataW.trod enc Try.prog W base (fun _ => true) held n 22 [v0] = some x0 := by have h := hg 0 _ rfl; simpa [Value.cells, cells_cl] using h
      have g1 : DataW.trod enc Try.prog W base (fun _ => true) held n 3 [v1] = some x1 := by have h := hg 1 _ rfl; simpa [Value.cells, cells_i] using h
      obtain ⟨q, c, cs, e0, a0, b0⟩ := open_clauses g0
      obtain ⟨b, e1, -, -⟩ := DataW.trod_int Try.underlying3 g1
      obtain rfl : v1 = .int .i64 b := by simpa using e1
      subst e0
      exact ⟨q, c, cs, b, rfl, a0, b0⟩

theorem side_cells : Try.prog.cellsOf 72 = 2 := by kernel_rfl
theorem royal_cells : Try.prog.cellsOf 28 = 3 := by kernel_rfl
theorem cells_pts : Try.prog.cellsOf 70 = 1 := by kernel_rfl
theorem cells_sds : Try.prog.cellsOf 25 = 1 := by kernel_rfl
theorem cells_ints : Try.prog.cellsOf 26 = 1 := by kernel_rfl
set_option maxRecDepth 100000 in
theorem open_sides {H : Type} {enc : TypeId × Value → H} {W : World} {base fuel : Nat} {held : Bool} {v : Value} {x : DataW H × List MemPlace}
    (h : DataW.trod enc Try.prog W base (fun _ => true) held fuel 25 [v] = some x) : ∃ p c L, v = .slice p (List.length L) c ∧ SidesAt W p L ∧ L.length ≤ 9223372036854775807 := by
  have hM : maxLen = 9223372036854775807 := rfl
  rcases open_slice Try.underlying25 h with ⟨hv, -⟩ | ⟨a, len, cap, m, n, D, Pl, hv, -, hl, hm, hmm, -, hx⟩
  · exact ⟨none, 0, [], by simpa using hv, fun i hi => absurd hi (by simp), by decide⟩
  simp only [if_true] at hmm
  have each : ∀ i, i < m → ∃ q : Sd, ∃ p1 d1, W.cell? (a.add (i * 2)) = some (.int .i64 q.plays) ∧ W.cell? (a.add (i * 2 + 1)) = some (.slice p1 q.parts.length d1) ∧ PairsAt W p1 q.parts := by
    intro i hi
    obtain ⟨cs', h1, h2⟩ := hx i hi
    rw [side_cells] at h1
    obtain ⟨-, hlen, hcell⟩ := World.cells?_some h1
    obtain ⟨xs, k, _, hxy, _, hxl, hf⟩ := DataW.trod_struct Try.underlying72 h2
    match xs, hxl, cs', hlen with
    | [x0, x1], _, [v0, v1], _ =>
      have g0 : DataW.trod enc Try.prog W base (fun _ => true) held k 3 [v0] = some x0 := by have h := hf 0 _ rfl; simpa [cells_i] using h
      have g1 : DataW.trod enc Try.prog W base (fun _ => true) held k 70 [v1] = some x1 := by have h := hf 1 _ rfl; simpa [cells_pts] using h
      have e0 := hcell 0 (by omega)
      have e1 := hcell 1 (by omega)
      rw [add_add] at e0 e1
      obtain ⟨z0, u0, -, -⟩ := DataW.trod_int Try.underlying3 g0
      obtain rfl : v0 = .int .i64 z0 := by simpa using u0
      obtain ⟨p1, c1, l1, u1, a1, b1⟩ := open_pairs_any Try.underlying70 Try.underlying104 (by kernel_rfl) rfl rfl cells_i cells_i Try.underlying3 Try.underlying3 g1
      subst u1
      exact ⟨⟨z0, l1⟩, p1, c1, by simpa using e0, by simpa using e1, a1⟩
  haveI : Inhabited Sd := ⟨⟨0, []⟩⟩
  obtain ⟨q, hq⟩ := choose_lt each
  refine ⟨some a, cap, (List.range len).map q, by simpa using hv, ?_, by simp; omega⟩
  intro i hil
  simp only [List.length_map, List.length_range] at hil
  obtain ⟨p1, d1, k0, k1, r1⟩ := hq i (by omega)
  obtain ⟨_, _, z0, -⟩ := hq 0 (by omega)
  have ha := addr_plain z0
  rw [ha] at k0 k1
  have k0 := add_plain k0
  have k1 := add_plain k1
  have hg : ((List.range len).map q)[i]'(by simpa using hil) = q i := by simp
  refine ⟨a.block, a.off, p1, d1, by rw [← ha], ?_, ?_, ?_⟩ <;> rw [hg]
  · exact k0
  · exact k1
  · exact r1
set_option maxRecDepth 100000 in
theorem open_royal {H : Type} {enc : TypeId × Value → H} {W : World} {r : Reach} {b0 base : Nat} {held : Bool} {v : Value} {d : DataW H} {p : List MemPlace}
    (hv : Value.okWide Try.prog W r b0 28 v) (h : DataW.Trod enc Try.prog W base (fun _ => true) held 28 v d p) : ∃ R, RyV W v R := by
  obtain ⟨cs, rfl, hsz⟩ := okWide_struct Try.underlying28 hv
  rw [royal_cells] at hsz
  obtain ⟨l⟩ := cs
  match l, hsz with
  | [v0, v1, v2], _ =>
    obtain ⟨fuel, hf⟩ := h
    obtain ⟨xs, n, _, hx, _, hlen, hg⟩ := DataW.trod_struct Try.underlying28 hf
    match xs, hlen with
    | [x0, x1, x2], _ =>
      have g0 : DataW.trod enc Try.prog W base (fun _ => true) held n 3 [v0] = some x0 := by have h := hg 0 _ rfl; simpa [Value.cells, cells_i] using h
      have g1 : DataW.trod enc Try.prog W base (fun _ => true) held n 25 [v1] = some x1 := by have h := hg 1 _ rfl; simpa [Value.cells, cells_sds] using h
      have g2 : DataW.trod enc Try.prog W base (fun _ => true) held n 26 [v2] = some x2 := by have h := hg 2 _ rfl; simpa [Value.cells, cells_ints] using h
      obtain ⟨z, e0, -, -⟩ := DataW.trod_int Try.underlying3 g0
      obtain rfl : v0 = .int .i64 z := by simpa using e0
      obtain ⟨q1, c1, L, e1, a1, -⟩ := open_sides g1
      obtain ⟨q2, c2, l, e2, a2, -⟩ := open_ints_any Try.underlying26 g2
      subst e1 e2
      exact ⟨⟨z, L, l⟩, q1, c1, q2, c2, rfl, a1, a2⟩
end Go.Proofs.Ytppncdbhebgcaaa
