/- Arguments opened: lists of numbers, and the visit. -/
import Derived.Test.YtpgjkmjejpfkmaaL07c
import Derived.Test.YtpgjkmjejpfkmaaRows
import Derived.ProofKit
import Derived.OpenShut
import Derived.JoinedCond
import Derived.Deep.Matrix
import Derived.Deep.Slices
import Derived.Deep.Fields
import Derived.Deep.SlicePairs
namespace Go.Proofs.Ytpgjkmjejpfkmaa
open Go.ChangeShapes Go.WideShapes Go.ChangeAt Go.RowKit Go.Deep

theorem addr_plain {w : World} {a : Addr} {v : Value} (h : w.cell? (a.add 0) = some v) : a = ⟨a.block, a.off, none⟩ := by
  obtain ⟨b, o, s⟩ := a
  cases s with
  | none => rfl
  | some s =>
    simp only [World.cell?, Addr.add, if_true] at h
    split at h <;> simp at h
theorem add_plain {w : World} {b o n : Nat} {v : Value} (h : w.cell? ((⟨b, o, none⟩ : Addr).add n) = some v) : w.cell? ⟨b, o + n, none⟩ = some v := by
  by_cases hn : n = 0
  · subst hn; exact h
  · simpa [Addr.add, hn] using h
theorem ints_of {W : World} {a : Addr} {len : Nat} {zs : List Int} (hl : len ≤ zs.length) (h : ∀ i, i < len → W.cell? (a.add i) = some (.int .i64 (zs.getD i 0))) : IntsAt W (some a) (zs.take len) := by
  intro i hi
  rw [List.length_take] at hi
  have ha := addr_plain (h 0 (by omega))
  have hc := h i (by omega)
  rw [ha] at hc
  refine ⟨a.block, a.off, _, by rw [← ha], add_plain hc, ?_⟩
  show _ = _
  rw [List.getElem_take, getD_of_lt _ _ _ (by omega : i < zs.length)]
theorem open_ints_any {H : Type} {enc : TypeId × Value → H} {W : World} {base fuel : Nat} {held : Bool} {t : TypeId} {v : Value} {x : DataW H × List MemPlace} (ht : Try.prog.underlying t = some (.slice 3))
    (h : DataW.trod enc Try.prog W base (fun _ => true) held fuel t [v] = some x) : ∃ p c l, v = .slice p (List.length l) c ∧ IntsAt W p l ∧ l.length ≤ 9223372036854775807 := by
  rcases open_ints ht Try.underlying3 (by kernel_rfl) h with ⟨hv, -⟩ | ⟨a, len, cap, zs, hv, -, hl, hm, hz, -, hc, -⟩
  · exact ⟨none, 0, [], by simpa using hv, IntsAt.nil _ _, by decide⟩
  · simp only [if_true] at hz
    have hle : len ≤ zs.length := by omega
    refine ⟨some a, cap, zs.take len, ?_, ints_of hle fun i hi => hc i (by omega), ?_⟩
    · rw [List.length_take, Nat.min_eq_left hle]; simpa using hv
    · rw [List.length_take]
      have : maxLen = 9223372036854775807 := rfl
      omega
theorem open_lists_any {H : Type} {enc : TypeId × Value → H} {W : World} {base fuel : Nat} {held : Bool} {t : TypeId} {v : Value} {x : DataW H × List MemPlace} (ht : Try.prog.underlying t = some (.slice 23))
    (h : DataW.trod enc Try.prog W base (fun _ => true) held fuel t [v] = some x) : ∃ p c L, v = .slice p (List.length L) c ∧ ListsAt W p L ∧ L.length ≤ 9223372036854775807 ∧ ∀ l ∈ L, l.length ≤ 9223372036854775807 := by
  have hM : maxLen = 9223372036854775807 := rfl
  rcases open_int_rows ht Try.underlying23 Try.underlying3 (by kernel_rfl) (by kernel_rfl) h with ⟨hv, -⟩ | ⟨a, len, cap, A, L, C, Z, hv, -, hl, hm, -, hr⟩
  · exact ⟨none, 0, [], by simpa using hv, fun i h => absurd h (by simp), by decide, by simp⟩
  · refine ⟨some a, cap, (List.range len).map fun r => (Z r).take (L r), by simpa using hv, ?_, by simp; omega, ?_⟩
    · intro i hi
      simp only [List.length_map, List.length_range] at hi
      obtain ⟨hc, h1, h2, h3, -, h4, h5⟩ := hr i (by omega)
      have ha := addr_plain (hr 0 (by omega)).1
      rw [ha] at hc
      refine ⟨a.block, a.off, _, by rw [← ha], add_plain hc, A i, C i, ?_, ?_⟩
      · simp only [List.getElem_map, List.getElem_range, List.length_take]
        rw [Nat.min_eq_left (by omega)]
      · simp only [List.getElem_map, List.getElem_range]
        cases hA : A i with
        | none =>
          have := h4 hA
          have h0 : L i = 0 := by omega
          rw [h0, List.take_zero]
          exact IntsAt.nil _ _
        | some a' => exact ints_of (by omega) fun j hj => (h5 a' hA).2 j (by omega)
    · intro l hl'
      obtain ⟨r, hr', rfl⟩ := List.mem_map.1 hl'
      have := hr r (by have := List.mem_range.1 hr'; omega)
      rw [List.length_take]
      omega
theorem open_pairs_any {H : Type} {enc : TypeId × Value → H} {W : World} {base fuel : Nat} {held : Bool} {t e : TypeId} {f0 f1 : Field} {v : Value} {x : DataW H × List MemPlace} (ht : Try.prog.underlying t = some (.slice e))
    (he : Try.prog.underlying e = some (.struct #[f0, f1])) (ce : Try.prog.cellsOf e = 2) (o0 : f0.offset = 0) (o1 : f1.offset = 1) (c0 : Try.prog.cellsOf f0.type = 1) (c1 : Try.prog.cellsOf f1.type = 1)
    (u0 : Try.prog.underlying f0.type = some (.int .i64)) (u1 : Try.prog.underlying f1.type = some (.int .i64))
    (h : DataW.trod enc Try.prog W base (fun _ => true) held fuel t [v] = some x) : ∃ p c l, v = .slice p (List.length l) c ∧ PairsAt W p l ∧ l.length ≤ 9223372036854775807 := by
  have hM : maxLen = 9223372036854775807 := rfl
  rcases open_slice_pairs ht he ce o0 o1 c0 c1 h with ⟨hv, -⟩ | ⟨a, len, cap, m, n, V0, V1, D0, D1, P0, P1, hv, -, hl, hm, hmm, -, hi⟩
  · exact ⟨none, 0, [], by simpa using hv, PairsAt.nil _ _, by decide⟩
  · simp only [if_true] at hmm
    have each : ∀ i, i < m → ∃ z : Int × Int, V0 i = .int .i64 z.1 ∧ V1 i = .int .i64 z.2 := by
      intro i him
      obtain ⟨-, -, g0, g1⟩ := hi i him
      obtain ⟨n0, e0, -⟩ := DataW.trod_int u0 g0
      obtain ⟨n1, e1, -⟩ := DataW.trod_int u1 g1
      exact ⟨(n0, n1), by simpa using e0, by simpa using e1⟩
    obtain ⟨z, hz⟩ := choose_lt each
    refine ⟨some a, cap, (List.range len).map z, by simpa using hv, ?_, by simp; omega⟩
    intro i hil
    simp only [List.length_map, List.length_range] at hil
    obtain ⟨k0, k1, -⟩ := hi i (by omega)
    have ha := addr_plain (hi 0 (by omega)).1
    rw [ha] at k0 k1
    have k0 := add_plain k0
    have k1 := add_plain k1
    refine ⟨a.block, a.off, by rw [← ha], ?_, ?_⟩
    · rw [k0, (hz i (by omega)).1]; simp
    · rw [show a.off + i * 2 + 1 = a.off + (i * 2 + 1) from rfl, k1, (hz i (by omega)).2]; simp

theorem swap_cells : Try.prog.cellsOf 26 = 5 := by kernel_rfl
theorem cells_a : Try.prog.cellsOf 22 = 1 := by kernel_rfl
theorem cells_b : Try.prog.cellsOf 23 = 1 := by kernel_rfl
theorem cells_c : Try.prog.cellsOf 24 = 1 := by kernel_rfl
theorem cells_d : Try.prog.cellsOf 3 = 1 := by kernel_rfl
set_option maxRecDepth 100000 in
theorem open_swap {H : Type} {enc : TypeId × Value → H} {W : World} {r : Reach} {b0 base : Nat} {held : Bool} {v : Value} {d : DataW H} {p : List MemPlace}
    (hv : Value.okWide Try.prog W r b0 26 v) (h : DataW.Trod enc Try.prog W base (fun _ => true) held 26 v d p) : ∃ S, SwapV W v S ∧ Big S := by
  obtain ⟨cs, rfl, hsz⟩ := okWide_struct Try.underlying26 hv
  rw [swap_cells] at hsz
  obtain ⟨l⟩ := cs
  match l, hsz with
  | [v0, v1, v2, v3, v4], _ =>
    obtain ⟨fuel, hf⟩ := h
    obtain ⟨xs, n, _, hx, _, hlen, hg⟩ := DataW.trod_struct Try.underlying26 hf
    match xs, hlen with
    | [x0, x1, x2, x3, x4], _ =>
      have g0 : DataW.trod enc Try.prog W base (fun _ => true) held n 22 [v0] = some x0 := by have h := hg 0 _ rfl; simpa [Value.cells, cells_a] using h
      have g1 : DataW.trod enc Try.prog W base (fun _ => true) held n 23 [v1] = some x1 := by have h := hg 1 _ rfl; simpa [Value.cells, cells_b] using h
      have g2 : DataW.trod enc Try.prog W base (fun _ => true) held n 22 [v2] = some x2 := by have h := hg 2 _ rfl; simpa [Value.cells, cells_a] using h
      have g3 : DataW.trod enc Try.prog W base (fun _ => true) held n 24 [v3] = some x3 := by have h := hg 3 _ rfl; simpa [Value.cells, cells_c] using h
      have g4 : DataW.trod enc Try.prog W base (fun _ => true) held n 3 [v4] = some x4 := by have h := hg 4 _ rfl; simpa [Value.cells, cells_d] using h
      obtain ⟨p0, c0, l0, e0, a0, b0, d0⟩ := open_lists_any Try.underlying22 g0
      obtain ⟨p1, c1, l1, e1, a1, b1⟩ := open_ints_any Try.underlying23 g1
      obtain ⟨p2, c2, l2, e2, a2, b2, d2⟩ := open_lists_any Try.underlying22 g2
      obtain ⟨p3, c3, l3, e3, a3, b3⟩ := open_pairs_any Try.underlying24 Try.underlying45 (by kernel_rfl) rfl rfl cells_d cells_d Try.underlying3 Try.underlying3 g3
      obtain ⟨z, e4, -, -⟩ := DataW.trod_int Try.underlying3 g4
      obtain rfl : v4 = .int .i64 z := by simpa using e4
      subst e0 e1 e2 e3
      exact ⟨⟨l0, l1, l2, l3, z⟩, ⟨p0, c0, p1, c1, p2, c2, p3, c3, rfl, a0, a1, a2, a3⟩, ⟨b0, d0, b1, b2, d2, b3⟩⟩

theorem lawOwn : ownKnob Try.prog.godebug = none := by kernel_rfl
theorem lawLaid : laidOutB Try.prog = true := by kernel_rfl

/-- all arguments read behind a call that leaves the old memory alone as they read before -/
theorem trodAll_ext {H : Type} {enc : TypeId × Value → H} {W W' : World} (hE : Ext W W') : ∀ {ts : List TypeId} {vs : List Value} {ds : List (DataW H)} {p : List MemPlace}
    (_ : ∀ t ∈ ts, Try.prog.readableRec t = true ∧ t < Try.prog.types.size) (_ : DataW.TrodAll enc Try.prog W 0 (fun _ => true) true ts vs ds p) (_ : ∀ x ∈ p, x.block < W.heap.size),
    DataW.TrodAll enc Try.prog W' 0 (fun b => decide (b < W.heap.size)) true ts vs ds p
  | [], _, _, _, _, h, _ => by
    obtain ⟨rfl, rfl, rfl⟩ := trodAll_nil h
    exact trodAll_mk0
  | t :: ts, _, _, _, ht, h, hlt => by
    obtain ⟨v, vs, d, ds, p, q, rfl, rfl, rfl, h0, h1⟩ := trodAll_cons h
    obtain ⟨r1, r2⟩ := ht t (by simp)
    exact trodAll_cons_mk (Below.trod lawLaid r1 r2 h0 hE fun x hx => hlt x (by simp [hx])) (trodAll_ext hE (fun t' h' => ht t' (by simp [h'])) h1 fun x hx => hlt x (by simp [hx]))

/-- the post of a law that returns true and leaves the old memory alone -/
theorem post_true {H : Type} {enc : TypeId × Value → H} {f : Func} {s : ChangeSpec} {W W' : World} {args : Array Value} {ds : List (DataW H)} {before : List MemPlace}
    (hW : DataW.Whole enc Try.prog f.params.toList s.vars false W args.toList ds [] before) (hv : s.vars = []) (hr : f.resultTypes = #[4])
    (hts : ∀ t ∈ f.params.toList, Try.prog.readableRec t = true ∧ t < Try.prog.types.size) (hs : s.fn H (ds ++ []) = { results := [.lit (.bool true)], args := ds }) (hE : Ext W W') :
    s.post enc Try.prog f false true false false W args (.bool true) W' := by
  obtain ⟨p, q, hA, hV, he, -, -⟩ := id hW
  rw [hv] at hV
  obtain ⟨-, rfl⟩ := trodVars_none hV
  rw [List.append_nil] at he
  rw [← he] at hA
  refine ⟨ds, [], before, [], before, [], hW, ?_, ?_, ?_, Below.frame hE _, fun h => by cases h⟩
  · rw [hs, hr]
    exact trodAll_mk1 (shut_bool Try.underlying4 _)
  · rw [hs]
    exact trodAll_ext hE hts hA fun x hx => by simpa using hW.lt x hx
  · rw [hs, hv]
    rfl
end Go.Proofs.Ytpgjkmjejpfkmaa
