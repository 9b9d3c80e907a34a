
/- A reading and a truth opened; what the reach says of a meter. -/
import Derived.Test.YtaoamnhchidjfaaGreatDoorXK
import Derived.SizedLaws
namespace Go.Proofs.YtaoamnhchidjfaaGreatDoor
open Go.ChangeShapes Go.WideShapes Go.ChangeAt Go.RowKit Go.Deep

set_option maxRecDepth 100000 in
theorem open_read {H : Type} {enc : TypeId × Value → H} {W : World} {r : Reach} {b0 base : Nat} {held : Bool} {v : Value} {d : DataW H} {p : List MemPlace}
    (hv : Value.okWide Tryz.prog W r b0 51 v) (h : DataW.Trod enc Tryz.prog W base (fun _ => true) held 51 v d p) :
    ∃ a b : Int, v = .agg #[.int .i64 a, .int .i64 b] := by
  obtain ⟨cs, rfl, hsz⟩ := okWide_struct Tryz.underlying51 hv
  rw [read_cells] at hsz
  obtain ⟨l⟩ := cs
  match l, hsz with
  | [v0, v1], _ =>
    obtain ⟨fuel, hf⟩ := h
    obtain ⟨xs, n, _, hx, _, hlen, hg⟩ := DataW.trod_struct Tryz.underlying51 hf
    match xs, hlen with
    | [x0, x1], _ =>
      have g0 : DataW.trod enc Tryz.prog W base (fun _ => true) held n 3 [v0] = some x0 := by have h := hg 0 _ rfl; simpa [Value.cells, cells_i] using h
      have g1 : DataW.trod enc Tryz.prog W base (fun _ => true) held n 3 [v1] = some x1 := by have h := hg 1 _ rfl; simpa [Value.cells, cells_i] using h
      obtain ⟨a, e0, -, -⟩ := DataW.trod_int Tryz.underlying3 g0
      obtain ⟨b, e1, -, -⟩ := DataW.trod_int Tryz.underlying3 g1
      obtain rfl : v0 = .int .i64 a := by simpa using e0
      obtain rfl : v1 = .int .i64 b := by simpa using e1
      exact ⟨a, b, rfl⟩

theorem cells_il : Tryz.prog.cellsOf 23 = 1 := by kernel_rfl
theorem truth_cells : Tryz.prog.cellsOf 166 = 2 := by kernel_rfl
set_option maxRecDepth 100000 in
theorem open_truth {H : Type} {enc : TypeId × Value → H} {W : World} {r : Reach} {b0 base : Nat} {held : Bool} {v : Value} {d : DataW H} {p : List MemPlace}
    (hv : Value.okWide Tryz.prog W r b0 166 v) (h : DataW.Trod enc Tryz.prog W base (fun _ => true) held 166 v d p) :
    ∃ (st : Int) (pp : Option Addr) (pc : Nat) (pl : List Int), v = .agg #[.int .i64 st, .slice pp pl.length pc] ∧ IntsAt W pp pl ∧ pl.length ≤ 9223372036854775807 := by
  obtain ⟨cs, rfl, hsz⟩ := okWide_struct Tryz.underlying166 hv
  rw [truth_cells] at hsz
  obtain ⟨l⟩ := cs
  match l, hsz with
  | [v0, v1], _ =>
    obtain ⟨fuel, hf⟩ := h
    obtain ⟨xs, n, _, hx, _, hlen, hg⟩ := DataW.trod_struct Tryz.underlying166 hf
    match xs, hlen with
    | [x0, x1], _ =>
      have g0 : DataW.trod enc Tryz.prog W base (fun _ => true) held n 3 [v0] = some x0 := by have h := hg 0 _ rfl; simpa [Value.cells, cells_i] using h
      have g1 : DataW.trod enc Tryz.prog W base (fun _ => true) held n 23 [v1] = some x1 := by have h := hg 1 _ rfl; simpa [Value.cells, cells_il] using h
      obtain ⟨a, e0, -, -⟩ := DataW.trod_int Tryz.underlying3 g0
      obtain rfl : v0 = .int .i64 a := by simpa using e0
      obtain ⟨pp, pc, pl, e1, hP, hl⟩ := open_ints_any Tryz.underlying23 g1
      subst e1
      exact ⟨a, pp, pc, pl, rfl, hP, hl⟩

theorem bytes_span : Tryz.prog.bytesOf 36 = 16 := by kernel_rfl
theorem bytes_read : Tryz.prog.bytesOf 51 = 16 := by kernel_rfl
theorem pairs_reach {H : Type} {enc : TypeId × Value → H} {W : World} {base fuel : Nat} {held : Bool} {t e : TypeId} {f0 f1 : Field} {p : Option Addr} {n c : Nat} {x : DataW H × List MemPlace} (ht : Tryz.prog.underlying t = some (.slice e))
    (he : Tryz.prog.underlying e = some (.struct #[f0, f1])) (ce : Tryz.prog.cellsOf e = 2) (o0 : f0.offset = 0) (o1 : f1.offset = 1) (c0 : Tryz.prog.cellsOf f0.type = 1) (c1 : Tryz.prog.cellsOf f1.type = 1) (hb : Tryz.prog.bytesOf e = 16)
    (h : DataW.trod enc Tryz.prog W base (fun _ => true) held fuel t [.slice p n c] = some x) (hs : ∀ k ∈ x.1.weights Tryz.prog t, k ≤ reachBytes) : n * 16 ≤ reachBytes := by
  rcases open_slice_pairs ht he ce o0 o1 c0 c1 h with ⟨hv, -⟩ | ⟨a, len, cap, m, n', V0, V1, D0, D1, P0, P1, hv, -, hl, hm, hmm, hx, -⟩
  · simp at hv
    obtain ⟨-, rfl, -⟩ := hv
    exact Nat.zero_le _
  · simp at hv
    obtain ⟨-, rfl, -⟩ := hv
    rw [hx] at hs
    have := hs _ (by simp only [DataW.weights, ht]; exact List.mem_cons_self)
    rw [hb, List.length_map, List.length_range, List.length_map, List.length_range] at this
    have h2 : n * 16 ≤ (n + (m - n)) * 16 := Nat.mul_le_mul_right _ (by omega)
    omega
set_option maxRecDepth 100000 in
theorem meter_reach {H : Type} {enc : TypeId × Value → H} {W : World} {base : Nat} {held : Bool} {v : Value} {d : DataW H} {p : List MemPlace} {M : Mt}
    (hM : MtV W v M) (h : DataW.Trod enc Tryz.prog W base (fun _ => true) held 55 v d p) (hs : ∀ k ∈ d.weights Tryz.prog 55, k ≤ reachBytes) : M.weeks.length * 16 ≤ reachBytes ∧ M.reads.length * 16 ≤ reachBytes := by
  obtain ⟨p0, c0, q0, d0, rfl, -, -⟩ := hM
  obtain ⟨fuel, hf⟩ := h
  obtain ⟨xs, n, _, hx, _, hlen, hg⟩ := DataW.trod_struct Tryz.underlying55 hf
  match xs, hlen with
  | [x0, x1, x2], _ =>
    have g0 : DataW.trod enc Tryz.prog W base (fun _ => true) held n 53 [.slice p0 M.weeks.length c0] = some x0 := by have h := hg 0 _ rfl; simpa [Value.cells, cells_ws] using h
    have g1 : DataW.trod enc Tryz.prog W base (fun _ => true) held n 52 [.slice q0 M.reads.length d0] = some x1 := by have h := hg 1 _ rfl; simpa [Value.cells, cells_rs] using h
    have hd : d = .agg [x0.1, x1.1, x2.1] := by have := congrArg Prod.fst hx; simpa using this
    subst hd
    have hw : DataW.weights Tryz.prog 55 (.agg [x0.1, x1.1, x2.1]) = x0.1.weights Tryz.prog 53 ++ (x1.1.weights Tryz.prog 52 ++ (x2.1.weights Tryz.prog 3 ++ [])) := by
      simp only [DataW.weights, Tryz.underlying55]
      rfl
    rw [hw] at hs
    exact ⟨pairs_reach Tryz.underlying53 Tryz.underlying36 (by kernel_rfl) rfl rfl cells_i cells_i bytes_span g0 fun k hk => hs k (List.mem_append.2 (Or.inl hk)),
      pairs_reach Tryz.underlying52 Tryz.underlying51 (by kernel_rfl) rfl rfl cells_i cells_i bytes_read g1 fun k hk => hs k (List.mem_append.2 (Or.inr (List.mem_append.2 (Or.inl hk))))⟩
end Go.Proofs.YtaoamnhchidjfaaGreatDoor
