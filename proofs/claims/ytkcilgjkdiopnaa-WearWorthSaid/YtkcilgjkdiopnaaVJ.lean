/- Arguments opened: a box and a plan of package wear. Arguments opened: one more replacement. Arguments opened: a budget. -/
import Derived.Test.YtkcilgjkdiopnaaVG
import Derived.Test.YtkcilgjkdiopnaaRows
import Derived.ProofKit
import Derived.OpenShut
import Derived.JoinedCond
import Derived.Deep.Matrix
import Derived.Deep.Slices
import Derived.Deep.Fields
import Derived.Deep.SlicePairs
namespace Go.Proofs.Ytkcilgjkdiopnaa
open Go.ChangeShapes Go.WideShapes Go.ChangeAt Go.RowKit Go.Deep

theorem addr_plain {w : World} {a : Addr} {v : Value} (h : w.cell? (a.add 0) = some v) : a = ⟨a.block, a.off, none⟩ := by
  obtain ⟨b, o, s⟩ := a
  cases s with
  | none => rfl
  | some s =>
    simp only [World.cell?, Addr.add, if_true] at h
    split at h <;> simp at h
theorem add_plain {w : World} {b o n : Nat} {v : Value} (h : w.cell? ((⟨b, o, none⟩ : Addr).add n) = some v) : w.cell? ⟨b, o + n, none⟩ = some v := by
  by_cases hn : n = 0
  · subst hn; exact h
  · simpa [Addr.add, hn] using h
theorem ints_of {W : World} {a : Addr} {len : Nat} {zs : List Int} (hl : len ≤ zs.length) (h : ∀ i, i < len → W.cell? (a.add i) = some (.int .i64 (zs.getD i 0))) : IntsAt W (some a) (zs.take len) := by
  intro i hi
  rw [List.length_take] at hi
  have ha := addr_plain (h 0 (by omega))
  have hc := h i (by omega)
  rw [ha] at hc
  refine ⟨a.block, a.off, _, by rw [← ha], add_plain hc, ?_⟩
  show _ = _
  rw [List.getElem_take]; simp [List.getD, (by omega : i < zs.length)]
theorem open_ints_any {H : Type} {enc : TypeId × Value → H} {W : World} {base fuel : Nat} {held : Bool} {t : TypeId} {v : Value} {x : DataW H × List MemPlace} (ht : Try.prog.underlying t = some (.slice 3))
    (h : DataW.trod enc Try.prog W base (fun _ => true) held fuel t [v] = some x) : ∃ p c l, v = .slice p (List.length l) c ∧ IntsAt W p l ∧ l.length ≤ 9223372036854775807 := by
  rcases open_ints ht Try.underlying3 (by kernel_rfl) h with ⟨hv, -⟩ | ⟨a, len, cap, zs, hv, -, hl, hm, hz, -, hc, -⟩
  · exact ⟨none, 0, [], by simpa using hv, IntsAt.nil _ _, by decide⟩
  · simp only [if_true] at hz
    have hle : len ≤ zs.length := by omega
    refine ⟨some a, cap, zs.take len, ?_, ints_of hle fun i hi => hc i (by omega), ?_⟩
    · rw [List.length_take, Nat.min_eq_left hle]; simpa using hv
    · rw [List.length_take]
      have : maxLen = 9223372036854775807 := rfl
      omega
theorem cells_b : Try.prog.cellsOf 22 = 1 := by kernel_rfl
theorem cells_d : Try.prog.cellsOf 3 = 1 := by kernel_rfl
theorem rec_cells : Try.prog.cellsOf 54 = 4 := by kernel_rfl
theorem week_cells : Try.prog.cellsOf 61 = 2 := by kernel_rfl
set_option maxRecDepth 100000 in
theorem open_recs {H : Type} {enc : TypeId × Value → H} {W : World} {base fuel : Nat} {held : Bool} {v : Value} {x : DataW H × List MemPlace}
    (h : DataW.trod enc Try.prog W base (fun _ => true) held fuel 23 [v] = some x) : ∃ p c l, v = .slice p (List.length l) c ∧ RecsAt W p l ∧ l.length ≤ 9223372036854775807 ∧ ∀ r ∈ l, r.plays.length ≤ 9223372036854775807 := by
  have hM : maxLen = 9223372036854775807 := rfl
  rcases open_slice Try.underlying23 h with ⟨hv, -⟩ | ⟨a, len, cap, m, n, D, Pl, hv, -, hl, hm, hmm, -, hx⟩
  · exact ⟨none, 0, [], by simpa using hv, RecsAt.nil _ _, by decide, by simp⟩
  · simp only [if_true] at hmm
    have each : ∀ i, i < m → ∃ c : Rec, ∃ q cp, W.cell? (a.add (i * 4)) = some (.int .i64 c.worn) ∧ W.cell? (a.add (i * 4 + 1)) = some (.int .i64 c.limit) ∧ W.cell? (a.add (i * 4 + 2)) = some (.int .i64 c.price) ∧ W.cell? (a.add (i * 4 + 3)) = some (.slice q c.plays.length cp) ∧ IntsAt W q c.plays ∧ c.plays.length ≤ 9223372036854775807 := by
      intro i hi
      obtain ⟨cs', h1, h2⟩ := hx i hi
      rw [rec_cells] at h1
      obtain ⟨_, hlen, hcell⟩ := World.cells?_some h1
      obtain ⟨xs, k, hk, hxy, _, hxl, hf⟩ := DataW.trod_struct Try.underlying54 h2
      match xs, hxl, cs', hlen with
      | [z0, z1, z2, z3], _, [v0, v1, v2, v3], _ =>
        have g0 : DataW.trod enc Try.prog W base (fun _ => true) held k 3 [v0] = some z0 := by have h := hf 0 _ rfl; simpa [Value.cells, cells_d] using h
        have g1 : DataW.trod enc Try.prog W base (fun _ => true) held k 3 [v1] = some z1 := by have h := hf 1 _ rfl; simpa [Value.cells, cells_d] using h
        have g2 : DataW.trod enc Try.prog W base (fun _ => true) held k 3 [v2] = some z2 := by have h := hf 2 _ rfl; simpa [Value.cells, cells_d] using h
        have g3 : DataW.trod enc Try.prog W base (fun _ => true) held k 22 [v3] = some z3 := by have h := hf 3 _ rfl; simpa [Value.cells, cells_b] using h
        obtain ⟨n0, e0, -, -⟩ := DataW.trod_int Try.underlying3 g0
        obtain ⟨n1, e1, -, -⟩ := DataW.trod_int Try.underlying3 g1
        obtain ⟨n2, e2, -, -⟩ := DataW.trod_int Try.underlying3 g2
        obtain ⟨q, cp, l, e3, hq, hql⟩ := open_ints_any Try.underlying22 g3
        obtain rfl : v0 = .int .i64 n0 := by simpa using e0
        obtain rfl : v1 = .int .i64 n1 := by simpa using e1
        obtain rfl : v2 = .int .i64 n2 := by simpa using e2
        subst e3
        have b0 := hcell 0 (by omega)
        have b1 := hcell 1 (by omega)
        have b2 := hcell 2 (by omega)
        have b3 := hcell 3 (by omega)
        rw [add_add] at b0 b1 b2 b3
        exact ⟨⟨n0, n1, n2, l⟩, q, cp, by simpa using b0, by simpa using b1, by simpa using b2, by simpa using b3, hq, hql⟩
    haveI : Inhabited Rec := ⟨noRec⟩
    obtain ⟨z, hz⟩ := choose_lt each
    refine ⟨some a, cap, (List.range len).map z, by simpa using hv, ?_, by simp; omega, ?_⟩
    · intro i hil
      simp only [List.length_map, List.length_range] at hil
      obtain ⟨q, cp, k0, k1, k2, k3, k4, -⟩ := hz i (by omega)
      obtain ⟨-, -, g0, -⟩ := hz 0 (by omega)
      have ha := addr_plain (by simpa using g0)
      rw [ha] at k0 k1 k2 k3
      have k0 := add_plain k0
      have k1 := add_plain k1
      have k2 := add_plain k2
      have k3 := add_plain k3
      refine ⟨a.block, a.off, q, cp, by rw [← ha], ?_, ?_, ?_, ?_, ?_⟩
      · rw [k0]; simp
      · rw [show a.off + i * 4 + 1 = a.off + (i * 4 + 1) from rfl, k1]; simp
      · rw [show a.off + i * 4 + 2 = a.off + (i * 4 + 2) from rfl, k2]; simp
      · rw [show a.off + i * 4 + 3 = a.off + (i * 4 + 3) from rfl, k3]; simp
      · simpa using k4
    · intro r hr
      obtain ⟨i, hi, rfl⟩ := List.mem_map.1 hr
      obtain ⟨q, cp, -, -, -, -, -, k5⟩ := hz i (by have := List.mem_range.1 hi; omega)
      exact k5
set_option maxRecDepth 100000 in
theorem open_weeks {H : Type} {enc : TypeId × Value → H} {W : World} {base fuel : Nat} {held : Bool} {v : Value} {x : DataW H × List MemPlace}
    (h : DataW.trod enc Try.prog W base (fun _ => true) held fuel 26 [v] = some x) : ∃ p c l, v = .slice p (List.length l) c ∧ WksAt W p l ∧ BigP l := by
  have hM : maxLen = 9223372036854775807 := rfl
  rcases open_slice Try.underlying26 h with ⟨hv, -⟩ | ⟨a, len, cap, m, n, D, Pl, hv, -, hl, hm, hmm, -, hx⟩
  · exact ⟨none, 0, [], by simpa using hv, fun i h => absurd h (by simp), by decide, by simp⟩
  · simp only [if_true] at hmm
    have each : ∀ i, i < m → ∃ c : Wk, ∃ q cp, W.cell? (a.add (i * 2)) = some (.int .i64 c.needle) ∧ W.cell? (a.add (i * 2 + 1)) = some (.slice q c.recs.length cp) ∧ IntsAt W q c.recs ∧ c.recs.length ≤ 9223372036854775807 := by
      intro i hi
      obtain ⟨cs', h1, h2⟩ := hx i hi
      rw [week_cells] at h1
      obtain ⟨_, hlen, hcell⟩ := World.cells?_some h1
      obtain ⟨xs, k, hk, hxy, _, hxl, hf⟩ := DataW.trod_struct Try.underlying61 h2
      match xs, hxl, cs', hlen with
      | [z0, z1], _, [v0, v1], _ =>
        have g0 : DataW.trod enc Try.prog W base (fun _ => true) held k 3 [v0] = some z0 := by have h := hf 0 _ rfl; simpa [Value.cells, cells_d] using h
        have g1 : DataW.trod enc Try.prog W base (fun _ => true) held k 22 [v1] = some z1 := by have h := hf 1 _ rfl; simpa [Value.cells, cells_b] using h
        obtain ⟨n0, e0, -, -⟩ := DataW.trod_int Try.underlying3 g0
        obtain ⟨q, cp, l, e1, hq, hql⟩ := open_ints_any Try.underlying22 g1
        obtain rfl : v0 = .int .i64 n0 := by simpa using e0
        subst e1
        have b0 := hcell 0 (by omega)
        have b1 := hcell 1 (by omega)
        rw [add_add] at b0 b1
        exact ⟨⟨n0, l⟩, q, cp, by simpa using b0, by simpa using b1, hq, hql⟩
    haveI : Inhabited Wk := ⟨⟨0, []⟩⟩
    obtain ⟨z, hz⟩ := choose_lt each
    refine ⟨some a, cap, (List.range len).map z, by simpa using hv, ?_, by simp; omega, ?_⟩
    · intro i hil
      simp only [List.length_map, List.length_range] at hil
      obtain ⟨q, cp, k0, k1, k2, -⟩ := hz i (by omega)
      obtain ⟨-, -, g0, -⟩ := hz 0 (by omega)
      have ha := addr_plain (by simpa using g0)
      rw [ha] at k0 k1
      have k0 := add_plain k0
      have k1 := add_plain k1
      refine ⟨a.block, a.off, q, cp, by rw [← ha], ?_, ?_, ?_⟩
      · rw [k0]; simp
      · rw [show a.off + i * 2 + 1 = a.off + (i * 2 + 1) from rfl, k1]; simp
      · simpa using k2
    · intro r hr
      obtain ⟨i, hi, rfl⟩ := List.mem_map.1 hr
      obtain ⟨q, cp, -, -, -, k5⟩ := hz i (by have := List.mem_range.1 hi; omega)
      exact k5
theorem wear_cells : Try.prog.cellsOf 25 = 6 := by kernel_rfl
theorem cells_rl : Try.prog.cellsOf 23 = 1 := by kernel_rfl
set_option maxRecDepth 100000 in
theorem open_wear {H : Type} {enc : TypeId × Value → H} {W : World} {r : Reach} {b0 base : Nat} {held : Bool} {v : Value} {d : DataW H} {p : List MemPlace}
    (hv : Value.okWide Try.prog W r b0 25 v) (h : DataW.Trod enc Try.prog W base (fun _ => true) held 25 v d p) : ∃ X, WrV W v X ∧ BigW X := by
  obtain ⟨cs, rfl, hsz⟩ := okWide_struct Try.underlying25 hv
  rw [wear_cells] at hsz
  obtain ⟨l⟩ := cs
  match l, hsz with
  | [v0, v1, v2, v3, v4, v5], _ =>
    obtain ⟨fuel, hf⟩ := h
    obtain ⟨xs, n, _, hx, _, hlen, hg⟩ := DataW.trod_struct Try.underlying25 hf
    match xs, hlen with
    | [x0, x1, x2, x3, x4, x5], _ =>
      have g0 : DataW.trod enc Try.prog W base (fun _ => true) held n 3 [v0] = some x0 := by have h := hg 0 _ rfl; simpa [Value.cells, cells_d] using h
      have g1 : DataW.trod enc Try.prog W base (fun _ => true) held n 3 [v1] = some x1 := by have h := hg 1 _ rfl; simpa [Value.cells, cells_d] using h
      have g2 : DataW.trod enc Try.prog W base (fun _ => true) held n 3 [v2] = some x2 := by have h := hg 2 _ rfl; simpa [Value.cells, cells_d] using h
      have g3 : DataW.trod enc Try.prog W base (fun _ => true) held n 3 [v3] = some x3 := by have h := hg 3 _ rfl; simpa [Value.cells, cells_d] using h
      have g4 : DataW.trod enc Try.prog W base (fun _ => true) held n 22 [v4] = some x4 := by have h := hg 4 _ rfl; simpa [Value.cells, cells_b] using h
      have g5 : DataW.trod enc Try.prog W base (fun _ => true) held n 23 [v5] = some x5 := by have h := hg 5 _ rfl; simpa [Value.cells, cells_rl] using h
      obtain ⟨n0, e0, -, -⟩ := DataW.trod_int Try.underlying3 g0
      obtain ⟨n1, e1, -, -⟩ := DataW.trod_int Try.underlying3 g1
      obtain ⟨n2, e2, -, -⟩ := DataW.trod_int Try.underlying3 g2
      obtain ⟨n3, e3, -, -⟩ := DataW.trod_int Try.underlying3 g3
      obtain ⟨p4, c4, l4, e4, a4, b4⟩ := open_ints_any Try.underlying22 g4
      obtain ⟨p5, c5, l5, e5, a5, b5, d5⟩ := open_recs g5
      obtain rfl : v0 = .int .i64 n0 := by simpa using e0
      obtain rfl : v1 = .int .i64 n1 := by simpa using e1
      obtain rfl : v2 = .int .i64 n2 := by simpa using e2
      obtain rfl : v3 = .int .i64 n3 := by simpa using e3
      subst e4 e5
      exact ⟨⟨n0, n1, n2, n3, l4, l5⟩, ⟨p4, c4, p5, c5, rfl, a4, a5⟩, ⟨b4, b5, d5⟩⟩
set_option maxRecDepth 100000 in
theorem open_plan {H : Type} {enc : TypeId × Value → H} {W : World} {r : Reach} {b0 base : Nat} {held : Bool} {v : Value} {d : DataW H} {p : List MemPlace}
    (hv : Value.okWide Try.prog W r b0 26 v) (h : DataW.Trod enc Try.prog W base (fun _ => true) held 26 v d p) :
    ∃ p c l, v = .slice p (List.length l) c ∧ WksAt W p l ∧ BigP l := by
  obtain ⟨a, len, cap, rfl⟩ := okWide_slice Try.underlying26 hv
  obtain ⟨fuel, hf⟩ := h
  exact open_weeks (by simpa [Value.cells] using hf)

theorem lawOwn : ownKnob Try.prog.godebug = none := by kernel_rfl
theorem lawLaid : laidOutB Try.prog = true := by kernel_rfl

/-- all arguments read behind a call that leaves the old memory alone as they read before -/
theorem trodAll_ext {H : Type} {enc : TypeId × Value → H} {W W' : World} (hE : Ext W W') : ∀ {ts : List TypeId} {vs : List Value} {ds : List (DataW H)} {p : List MemPlace}
    (_ : ∀ t ∈ ts, Try.prog.readableRec t = true ∧ t < Try.prog.types.size) (_ : DataW.TrodAll enc Try.prog W 0 (fun _ => true) true ts vs ds p) (_ : ∀ x ∈ p, x.block < W.heap.size),
    DataW.TrodAll enc Try.prog W' 0 (fun b => decide (b < W.heap.size)) true ts vs ds p
  | [], _, _, _, _, h, _ => by
    obtain ⟨rfl, rfl, rfl⟩ := trodAll_nil h
    exact trodAll_mk0
  | t :: ts, _, _, _, ht, h, hlt => by
    obtain ⟨v, vs, d, ds, p, q, rfl, rfl, rfl, h0, h1⟩ := trodAll_cons h
    obtain ⟨r1, r2⟩ := ht t (by simp)
    exact trodAll_cons_mk (Below.trod lawLaid r1 r2 h0 hE fun x hx => hlt x (by simp [hx])) (trodAll_ext hE (fun t' h' => ht t' (by simp [h'])) h1 fun x hx => hlt x (by simp [hx]))

/-- the post of a law that returns true and leaves the old memory alone -/
theorem post_true {H : Type} {enc : TypeId × Value → H} {f : Func} {s : ChangeSpec} {W W' : World} {args : Array Value} {ds : List (DataW H)} {before : List MemPlace}
    (hW : DataW.Whole enc Try.prog f.params.toList s.vars false W args.toList ds [] before) (hv : s.vars = []) (hr : f.resultTypes = #[4])
    (hts : ∀ t ∈ f.params.toList, Try.prog.readableRec t = true ∧ t < Try.prog.types.size) (hs : s.fn H (ds ++ []) = { results := [.lit (.bool true)], args := ds }) (hE : Ext W W') :
    s.post enc Try.prog f false true false false W args (.bool true) W' := by
  obtain ⟨p, q, hA, hV, he, -, -⟩ := id hW
  rw [hv] at hV
  obtain ⟨-, rfl⟩ := trodVars_none hV
  rw [List.append_nil] at he
  rw [← he] at hA
  refine ⟨ds, [], before, [], before, [], hW, ?_, ?_, ?_, Below.frame hE _, fun h => by cases h⟩
  · rw [hs, hr]
    exact trodAll_mk1 (shut_bool Try.underlying4 _)
  · rw [hs]
    exact trodAll_ext hE hts hA fun x hx => by simpa using hW.lt x hx
  · rw [hs, hv]
    rfl
end Go.Proofs.Ytkcilgjkdiopnaa
namespace Go.Proofs.Ytkcilgjkdiopnaa
open Go.ChangeShapes Go.WideShapes Go.ChangeAt Go.RowKit Go.Deep

theorem more_cells : Try.prog.cellsOf 47 = 2 := by kernel_rfl
set_option maxRecDepth 100000 in
theorem open_more {H : Type} {enc : TypeId × Value → H} {W : World} {r : Reach} {b0 base : Nat} {held : Bool} {v : Value} {d : DataW H} {p : List MemPlace}
    (hv : Value.okWide Try.prog W r b0 47 v) (h : DataW.Trod enc Try.prog W base (fun _ => true) held 47 v d p) :
    ∃ a b : Int, v = .agg #[.int .i64 a, .int .i64 b] := by
  obtain ⟨cs, rfl, hsz⟩ := okWide_struct Try.underlying47 hv
  rw [more_cells] at hsz
  obtain ⟨l⟩ := cs
  match l, hsz with
  | [v0, v1], _ =>
    obtain ⟨fuel, hf⟩ := h
    obtain ⟨xs, n, _, hx, _, hlen, hg⟩ := DataW.trod_struct Try.underlying47 hf
    match xs, hlen with
    | [x0, x1], _ =>
      have g0 : DataW.trod enc Try.prog W base (fun _ => true) held n 3 [v0] = some x0 := by have h := hg 0 _ rfl; simpa [Value.cells, cells_d] using h
      have g1 : DataW.trod enc Try.prog W base (fun _ => true) held n 3 [v1] = some x1 := by have h := hg 1 _ rfl; simpa [Value.cells, cells_d] using h
      obtain ⟨a, e0, -, -⟩ := DataW.trod_int Try.underlying3 g0
      obtain ⟨b, e1, -, -⟩ := DataW.trod_int Try.underlying3 g1
      obtain rfl : v0 = .int .i64 a := by simpa using e0
      obtain rfl : v1 = .int .i64 b := by simpa using e1
      exact ⟨a, b, rfl⟩
end Go.Proofs.Ytkcilgjkdiopnaa
namespace Go.Proofs.Ytkcilgjkdiopnaa
open Go.ChangeShapes Go.WideShapes Go.ChangeAt Go.RowKit Go.Deep

theorem budget_cells : Try.prog.cellsOf 57 = 2 := by kernel_rfl
set_option maxRecDepth 100000 in
theorem open_budget {H : Type} {enc : TypeId × Value → H} {W : World} {r : Reach} {b0 base : Nat} {held : Bool} {v : Value} {d : DataW H} {p : List MemPlace}
    (hv : Value.okWide Try.prog W r b0 57 v) (h : DataW.Trod enc Try.prog W base (fun _ => true) held 57 v d p) :
    ∃ a b : Int, v = .agg #[.int .i64 a, .int .i64 b] := by
  obtain ⟨cs, rfl, hsz⟩ := okWide_struct Try.underlying57 hv
  rw [budget_cells] at hsz
  obtain ⟨l⟩ := cs
  match l, hsz with
  | [v0, v1], _ =>
    obtain ⟨fuel, hf⟩ := h
    obtain ⟨xs, n, _, hx, _, hlen, hg⟩ := DataW.trod_struct Try.underlying57 hf
    match xs, hlen with
    | [x0, x1], _ =>
      have g0 : DataW.trod enc Try.prog W base (fun _ => true) held n 3 [v0] = some x0 := by have h := hg 0 _ rfl; simpa [Value.cells, cells_d] using h
      have g1 : DataW.trod enc Try.prog W base (fun _ => true) held n 3 [v1] = some x1 := by have h := hg 1 _ rfl; simpa [Value.cells, cells_d] using h
      obtain ⟨a, e0, -, -⟩ := DataW.trod_int Try.underlying3 g0
      obtain ⟨b, e1, -, -⟩ := DataW.trod_int Try.underlying3 g1
      obtain rfl : v0 = .int .i64 a := by simpa using e0
      obtain rfl : v1 = .int .i64 b := by simpa using e1
      exact ⟨a, b, rfl⟩
end Go.Proofs.Ytkcilgjkdiopnaa
