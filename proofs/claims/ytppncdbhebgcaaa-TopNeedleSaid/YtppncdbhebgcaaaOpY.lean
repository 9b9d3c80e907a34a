
/- A tray opened. -/
import Derived.Test.YtppncdbhebgcaaaXK
import Derived.Test.YtppncdbhebgcaaaYA
namespace Go.Proofs.Ytppncdbhebgcaaa
open Go.ChangeShapes Go.WideShapes Go.ChangeAt Go.RowKit Go.Deep

theorem okY_is {T : TrayD} (h : okY T = true) : ValidY T := by
  simp only [okY, headY, prsB, Bool.and_eq_true, Bool.or_eq_true, decide_eq_true_eq, List.all_eq_true, recB, prB, sideB, timeB] at h
  obtain ⟨⟨h1, h2, h3, h4, h5, h6, h7⟩, h8, h9, h10⟩ := h
  refine ⟨h1, h2, h3, h4, h5, h6, h7, fun r hr => ?_, h9, fun x hx => ?_⟩
  · have := h8 r hr; omega
  · have := h10 x hx; omega
theorem tray_cells : Try.prog.cellsOf 48 = 5 := by kernel_rfl
theorem cells_tr : Try.prog.cellsOf 45 = 1 := by kernel_rfl
theorem cells_tp : Try.prog.cellsOf 46 = 1 := by kernel_rfl
set_option maxRecDepth 100000 in
/-- the five limbs of a tray -/
theorem open_tray5 {H : Type} {enc : TypeId × Value → H} {W : World} {base n : Nat} {held : Bool} {v0 v1 v2 v3 v4 : Value}
    (g0 : ∃ x, DataW.trod enc Try.prog W base (fun _ => true) held n 45 [v0] = some x) (g1 : ∃ x, DataW.trod enc Try.prog W base (fun _ => true) held n 3 [v1] = some x)
    (g2 : ∃ x, DataW.trod enc Try.prog W base (fun _ => true) held n 3 [v2] = some x) (g3 : ∃ x, DataW.trod enc Try.prog W base (fun _ => true) held n 3 [v3] = some x)
    (g4 : ∃ x, DataW.trod enc Try.prog W base (fun _ => true) held n 46 [v4] = some x) : ∃ T, TyV W (.agg #[v0, v1, v2, v3, v4]) T ∧ T.recs.length ≤ 9223372036854775807 ∧ T.prs.length ≤ 9223372036854775807 := by
  obtain ⟨x0, g0⟩ := g0
  obtain ⟨x1, g1⟩ := g1
  obtain ⟨x2, g2⟩ := g2
  obtain ⟨x3, g3⟩ := g3
  obtain ⟨x4, g4⟩ := g4
  obtain ⟨p0, c0, l0, e0, a0, b0⟩ := open_pairs_any Try.underlying45 Try.underlying83 (by kernel_rfl) rfl rfl cells_i cells_i Try.underlying3 Try.underlying3 g0
  obtain ⟨p1, c1, l1, e4, a1, b1⟩ := open_pairs_any Try.underlying46 Try.underlying89 (by kernel_rfl) rfl rfl cells_i cells_i Try.underlying3 Try.underlying3 g4
  obtain ⟨z1, e1, -, -⟩ := DataW.trod_int Try.underlying3 g1
  obtain ⟨z2, e2, -, -⟩ := DataW.trod_int Try.underlying3 g2
  obtain ⟨z3, e3, -, -⟩ := DataW.trod_int Try.underlying3 g3
  obtain rfl : v1 = .int .i64 z1 := by simpa using e1
  obtain rfl : v2 = .int .i64 z2 := by simpa using e2
  obtain rfl : v3 = .int .i64 z3 := by simpa using e3
  subst e0 e4
  exact ⟨⟨l0, z1, z2, z3, l1⟩, ⟨p0, c0, p1, c1, rfl, a0, a1⟩, b0, b1⟩
set_option maxRecDepth 100000 in
theorem open_tray {H : Type} {enc : TypeId × Value → H} {W : World} {r : Reach} {b0 base : Nat} {held : Bool} {v : Value} {d : DataW H} {p : List MemPlace}
    (hv : Value.okWide Try.prog W r b0 48 v) (h : DataW.Trod enc Try.prog W base (fun _ => true) held 48 v d p) : ∃ T, TyV W v T ∧ T.recs.length ≤ 9223372036854775807 ∧ T.prs.length ≤ 9223372036854775807 := by
  obtain ⟨cs, rfl, hsz⟩ := okWide_struct Try.underlying48 hv
  rw [tray_cells] at hsz
  obtain ⟨l⟩ := cs
  match l, hsz with
  | [v0, v1, v2, v3, v4], _ =>
    obtain ⟨fuel, hf⟩ := h
    obtain ⟨xs, n, _, hx, _, hlen, hg⟩ := DataW.trod_struct Try.underlying48 hf
    match xs, hlen with
    | [x0, x1, x2, x3, x4], _ =>
      have g0 : DataW.trod enc Try.prog W base (fun _ => true) held n 45 [v0] = some x0 := by have h := hg 0 _ rfl; simpa [Value.cells, cells_tr] using h
      have g1 : DataW.trod enc Try.prog W base (fun _ => true) held n 3 [v1] = some x1 := by have h := hg 1 _ rfl; simpa [Value.cells, cells_i] using h
      have g2 : DataW.trod enc Try.prog W base (fun _ => true) held n 3 [v2] = some x2 := by have h := hg 2 _ rfl; simpa [Value.cells, cells_i] using h
      have g3 : DataW.trod enc Try.prog W base (fun _ => true) held n 3 [v3] = some x3 := by have h := hg 3 _ rfl; simpa [Value.cells, cells_i] using h
      have g4 : DataW.trod enc Try.prog W base (fun _ => true) held n 46 [v4] = some x4 := by have h := hg 4 _ rfl; simpa [Value.cells, cells_tp] using h
      exact open_tray5 ⟨_, g0⟩ ⟨_, g1⟩ ⟨_, g2⟩ ⟨_, g3⟩ ⟨_, g4⟩
end Go.Proofs.Ytppncdbhebgcaaa
namespace Go.Proofs.Ytppncdbhebgcaaa
open Go.ChangeShapes Go.WideShapes Go.ChangeAt Go.RowKit Go.Deep

/-- a slice of trays -/
def TysAt (w : World) (p : Option Addr) (L : List TrayD) : Prop :=
  ∀ i (h : i < L.length), ∃ b o q c r d, p = some ⟨b, o, none⟩ ∧ w.cell? ⟨b, o + i * 5, none⟩ = some (.slice q L[i].recs.length c) ∧ w.cell? ⟨b, o + i * 5 + 1, none⟩ = some (.int .i64 L[i].at_) ∧ w.cell? ⟨b, o + i * 5 + 2, none⟩ = some (.int .i64 L[i].way) ∧
    w.cell? ⟨b, o + i * 5 + 3, none⟩ = some (.int .i64 L[i].step) ∧ w.cell? ⟨b, o + i * 5 + 4, none⟩ = some (.slice r L[i].prs.length d) ∧ PairsAt w q L[i].recs ∧ PairsAt w r L[i].prs
theorem TysAt.ext {w w' : World} {p : Option Addr} {L : List TrayD} (h : TysAt w p L) (hE : Ext w w') : TysAt w' p L := by
  intro i hi
  obtain ⟨b, o, q, c, r, d, e, h1, h2, h3, h4, h5, h6, h7⟩ := h i hi
  exact ⟨b, o, q, c, r, d, e, hE.cell h1, hE.cell h2, hE.cell h3, hE.cell h4, hE.cell h5, h6.ext hE, h7.ext hE⟩
instance : Inhabited TrayD := ⟨⟨[], 0, 0, 0, []⟩⟩
end Go.Proofs.Ytppncdbhebgcaaa
