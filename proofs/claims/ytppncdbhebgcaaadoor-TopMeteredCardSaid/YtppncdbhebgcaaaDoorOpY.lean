
/- A tray opened. -/
import Derived.Test.YtppncdbhebgcaaaDoorXK
import Derived.Test.YtppncdbhebgcaaaDoorYA
namespace Go.Proofs.YtppncdbhebgcaaaDoor
open Go.ChangeShapes Go.WideShapes Go.ChangeAt Go.RowKit Go.Deep

theorem okY_is {T : TrayD} (h : okY T = true) : ValidY T := by
  simp only [okY, headY, prsB, Bool.and_eq_true, Bool.or_eq_true, decide_eq_true_eq, List.all_eq_true, recB, prB, sideB, timeB] at h
  obtain ⟨⟨h1, h2, h3, h4, h5, h6, h7⟩, h8, h9, h10⟩ := h
  refine ⟨h1, h2, h3, h4, h5, h6, h7, fun r hr => ?_, h9, fun x hx => ?_⟩
  · have := h8 r hr; omega
  · have := h10 x hx; omega
theorem tray_cells : Tryd.prog.cellsOf 37 = 5 := by kernel_rfl
theorem cells_tr : Tryd.prog.cellsOf 34 = 1 := by kernel_rfl
theorem cells_tp : Tryd.prog.cellsOf 35 = 1 := by kernel_rfl
set_option maxRecDepth 100000 in
/-- the five limbs of a tray -/
theorem open_tray5 {H : Type} {enc : TypeId × Value → H} {W : World} {base n : Nat} {held : Bool} {v0 v1 v2 v3 v4 : Value}
    (g0 : ∃ x, DataW.trod enc Tryd.prog W base (fun _ => true) held n 34 [v0] = some x) (g1 : ∃ x, DataW.trod enc Tryd.prog W base (fun _ => true) held n 3 [v1] = some x)
    (g2 : ∃ x, DataW.trod enc Tryd.prog W base (fun _ => true) held n 3 [v2] = some x) (g3 : ∃ x, DataW.trod enc Tryd.prog W base (fun _ => true) held n 3 [v3] = some x)
    (g4 : ∃ x, DataW.trod enc Tryd.prog W base (fun _ => true) held n 35 [v4] = some x) : ∃ T, TyV W (.agg #[v0, v1, v2, v3, v4]) T ∧ T.recs.length ≤ 9223372036854775807 ∧ T.prs.length ≤ 9223372036854775807 := by
  obtain ⟨x0, g0⟩ := g0
  obtain ⟨x1, g1⟩ := g1
  obtain ⟨x2, g2⟩ := g2
  obtain ⟨x3, g3⟩ := g3
  obtain ⟨x4, g4⟩ := g4
  obtain ⟨p0, c0, l0, e0, a0, b0⟩ := open_pairs_any Tryd.underlying34 Tryd.underlying54 (by kernel_rfl) rfl rfl cells_i cells_i Tryd.underlying3 Tryd.underlying3 g0
  obtain ⟨p1, c1, l1, e4, a1, b1⟩ := open_pairs_any Tryd.underlying35 Tryd.underlying77 (by kernel_rfl) rfl rfl cells_i cells_i Tryd.underlying3 Tryd.underlying3 g4
  obtain ⟨z1, e1, -, -⟩ := DataW.trod_int Tryd.underlying3 g1
  obtain ⟨z2, e2, -, -⟩ := DataW.trod_int Tryd.underlying3 g2
  obtain ⟨z3, e3, -, -⟩ := DataW.trod_int Tryd.underlying3 g3
  obtain rfl : v1 = .int .i64 z1 := by simpa using e1
  obtain rfl : v2 = .int .i64 z2 := by simpa using e2
  obtain rfl : v3 = .int .i64 z3 := by simpa using e3
  subst e0 e4
  exact ⟨⟨l0, z1, z2, z3, l1⟩, ⟨p0, c0, p1, c1, rfl, a0, a1⟩, b0, b1⟩
set_option maxRecDepth 100000 in
theorem open_tray {H : Type} {enc : TypeId × Value → H} {W : World} {r : Reach} {b0 base : Nat} {held : Bool} {v : Value} {d : DataW H} {p : List MemPlace}
    (hv : Value.okWide Tryd.prog W r b0 37 v) (h : DataW.Trod enc Tryd.prog W base (fun _ => true) held 37 v d p) : ∃ T, TyV W v T ∧ T.recs.length ≤ 9223372036854775807 ∧ T.prs.length ≤ 9223372036854775807 := by
  obtain ⟨cs, rfl, hsz⟩ := okWide_struct Tryd.underlying37 hv
  rw [tray_cells] at hsz
  obtain ⟨l⟩ := cs
  match l, hsz with
  | [v0, v1, v2, v3, v4], _ =>
    obtain ⟨fuel, hf⟩ := h
    obtain ⟨xs, n, _, hx, _, hlen, hg⟩ := DataW.trod_struct Tryd.underlying37 hf
    match xs, hlen with
    | [x0, x1, x2, x3, x4], _ =>
      have g0 : DataW.trod enc Tryd.prog W base (fun _ => true) held n 34 [v0] = some x0 := by have h := hg 0 _ rfl; simpa [Value.cells, cells_tr] using h
      have g1 : DataW.trod enc Tryd.prog W base (fun _ => true) held n 3 [v1] = some x1 := by have h := hg 1 _ rfl; simpa [Value.cells, cells_i] using h
      have g2 : DataW.trod enc Tryd.prog W base (fun _ => true) held n 3 [v2] = some x2 := by have h := hg 2 _ rfl; simpa [Value.cells, cells_i] using h
      have g3 : DataW.trod enc Tryd.prog W base (fun _ => true) held n 3 [v3] = some x3 := by have h := hg 3 _ rfl; simpa [Value.cells, cells_i] using h
      have g4 : DataW.trod enc Tryd.prog W base (fun _ => true) held n 35 [v4] = some x4 := by have h := hg 4 _ rfl; simpa [Value.cells, cells_tp] using h
      exact open_tray5 ⟨_, g0⟩ ⟨_, g1⟩ ⟨_, g2⟩ ⟨_, g3⟩ ⟨_, g4⟩
end Go.Proofs.YtppncdbhebgcaaaDoor
namespace Go.Proofs.YtppncdbhebgcaaaDoor
open Go.ChangeShapes Go.WideShapes Go.ChangeAt Go.RowKit Go.Deep

/-- a slice of trays -/
def TysAt (w : World) (p : Option Addr) (L : List TrayD) : Prop :=
  ∀ i (h : i < L.length), ∃ b o q c r d, p = some ⟨b, o, none⟩ ∧ w.cell? ⟨b, o + i * 5, none⟩ = some (.slice q L[i].recs.length c) ∧ w.cell? ⟨b, o + i * 5 + 1, none⟩ = some (.int .i64 L[i].at_) ∧ w.cell? ⟨b, o + i * 5 + 2, none⟩ = some (.int .i64 L[i].way) ∧
    w.cell? ⟨b, o + i * 5 + 3, none⟩ = some (.int .i64 L[i].step) ∧ w.cell? ⟨b, o + i * 5 + 4, none⟩ = some (.slice r L[i].prs.length d) ∧ PairsAt w q L[i].recs ∧ PairsAt w r L[i].prs
theorem TysAt.ext {w w' : World} {p : Option Addr} {L : List TrayD} (h : TysAt w p L) (hE : Ext w w') : TysAt w' p L := by
  intro i hi
  obtain ⟨b, o, q, c, r, d, e, h1, h2, h3, h4, h5, h6, h7⟩ := h i hi
  exact ⟨b, o, q, c, r, d, e, hE.cell h1, hE.cell h2, hE.cell h3, hE.cell h4, hE.cell h5, h6.ext hE, h7.ext hE⟩
instance : Inhabited TrayD := ⟨⟨[], 0, 0, 0, []⟩⟩
set_option maxRecDepth 100000 in
theorem open_trays {H : Type} {enc : TypeId × Value → H} {W : World} {base fuel : Nat} {held : Bool} {v : Value} {x : DataW H × List MemPlace}
    (h : DataW.trod enc Tryd.prog W base (fun _ => true) held fuel 22 [v] = some x) : ∃ p c L, v = .slice p (List.length L) c ∧ TysAt W p L ∧ L.length ≤ 9223372036854775807 := by
  have hM : maxLen = 9223372036854775807 := rfl
  rcases open_slice Tryd.underlying22 h with ⟨hv, -⟩ | ⟨a, len, cap, m, n, D, Pl, hv, -, hl, hm, hmm, -, hx⟩
  · exact ⟨none, 0, [], by simpa using hv, fun i hi => absurd hi (by simp), by decide⟩
  simp only [if_true] at hmm
  have each : ∀ i, i < m → ∃ q : TrayD, ∃ p1 d1 p2 d2, W.cell? (a.add (i * 5)) = some (.slice p1 q.recs.length d1) ∧ W.cell? (a.add (i * 5 + 1)) = some (.int .i64 q.at_) ∧ W.cell? (a.add (i * 5 + 2)) = some (.int .i64 q.way) ∧
      W.cell? (a.add (i * 5 + 3)) = some (.int .i64 q.step) ∧ W.cell? (a.add (i * 5 + 4)) = some (.slice p2 q.prs.length d2) ∧ PairsAt W p1 q.recs ∧ PairsAt W p2 q.prs := by
    intro i hi
    obtain ⟨cs', h1, h2⟩ := hx i hi
    rw [tray_cells] at h1
    obtain ⟨-, hlen, hcell⟩ := World.cells?_some h1
    obtain ⟨xs, k, _, hxy, _, hxl, hf⟩ := DataW.trod_struct Tryd.underlying37 h2
    match xs, hxl, cs', hlen with
    | [x0, x1, x2, x3, x4], _, [v0, v1, v2, v3, v4], _ =>
      have g0 : DataW.trod enc Tryd.prog W base (fun _ => true) held k 34 [v0] = some x0 := by have h := hf 0 _ rfl; simpa [cells_tr] using h
      have g1 : DataW.trod enc Tryd.prog W base (fun _ => true) held k 3 [v1] = some x1 := by have h := hf 1 _ rfl; simpa [cells_i] using h
      have g2 : DataW.trod enc Tryd.prog W base (fun _ => true) held k 3 [v2] = some x2 := by have h := hf 2 _ rfl; simpa [cells_i] using h
      have g3 : DataW.trod enc Tryd.prog W base (fun _ => true) held k 3 [v3] = some x3 := by have h := hf 3 _ rfl; simpa [cells_i] using h
      have g4 : DataW.trod enc Tryd.prog W base (fun _ => true) held k 35 [v4] = some x4 := by have h := hf 4 _ rfl; simpa [cells_tp] using h
      have e0 := hcell 0 (by omega)
      have e1 := hcell 1 (by omega)
      have e2 := hcell 2 (by omega)
      have e3 := hcell 3 (by omega)
      have e4 := hcell 4 (by omega)
      rw [add_add] at e0 e1 e2 e3 e4
      obtain ⟨T, ⟨p0, c0, p1, c1, hT, a0, a1⟩, -⟩ := open_tray5 ⟨_, g0⟩ ⟨_, g1⟩ ⟨_, g2⟩ ⟨_, g3⟩ ⟨_, g4⟩
      simp only [Value.agg.injEq, Array.mk.injEq, List.cons.injEq, and_true] at hT
      obtain ⟨rfl, rfl, rfl, rfl, rfl⟩ := hT
      exact ⟨T, p0, c0, p1, c1, by simpa using e0, by simpa using e1, by simpa using e2, by simpa using e3, by simpa using e4, a0, a1⟩
  obtain ⟨q, hq⟩ := choose_lt each
  refine ⟨some a, cap, (List.range len).map q, by simpa using hv, ?_, by simp; omega⟩
  intro i hil
  simp only [List.length_map, List.length_range] at hil
  obtain ⟨p1, d1, p2, d2, k0, k1, k2, k3, k4, r1, r2⟩ := hq i (by omega)
  obtain ⟨_, _, _, _, z0, -⟩ := hq 0 (by omega)
  have ha := addr_plain z0
  rw [ha] at k0 k1 k2 k3 k4
  have k0 := add_plain k0
  have k1 := add_plain k1
  have k2 := add_plain k2
  have k3 := add_plain k3
  have k4 := add_plain k4
  have hg : ((List.range len).map q)[i]'(by simpa using hil) = q i := by simp
  refine ⟨a.block, a.off, p1, d1, p2, d2, by rw [← ha], ?_, ?_, ?_, ?_, ?_, ?_, ?_⟩ <;> rw [hg]
  · exact k0
  · exact k1
  · exact k2
  · exact k3
  · exact k4
  · exact r1
  · exact r2
set_option maxRecDepth 100000 in
theorem open_trays_top {H : Type} {enc : TypeId × Value → H} {W : World} {r : Reach} {b0 base : Nat} {held : Bool} {v : Value} {d : DataW H} {p : List MemPlace}
    (hv : Value.okWide Tryd.prog W r b0 22 v) (h : DataW.Trod enc Tryd.prog W base (fun _ => true) held 22 v d p) : ∃ p c L, v = .slice p (List.length L) c ∧ TysAt W p L ∧ L.length ≤ 9223372036854775807 := by
  obtain ⟨a, len, cap, rfl⟩ := okWide_slice Tryd.underlying22 hv
  obtain ⟨fuel, hf⟩ := h
  exact open_trays (by simpa [Value.cells] using hf)
end Go.Proofs.YtppncdbhebgcaaaDoor
