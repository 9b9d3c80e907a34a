
/- Arguments opened: a meter, what it is asked; the table that the rows list. -/
import Derived.Test.YtppncdbhebgcaaaXI
import Derived.Test.YtppncdbhebgcaaaRows
import Derived.ProofKit
import Derived.OpenShut
import Derived.JoinedCond
import Derived.LaidMore
import Derived.Stop.Joined
import Derived.Lib.LaidTab
import Derived.Deep.Matrix
import Derived.Deep.Slices
import Derived.Deep.Fields
import Derived.Deep.SlicePairs
namespace Go.Proofs.Ytppncdbhebgcaaa
open Go.ChangeShapes Go.WideShapes Go.ChangeAt Go.RowKit Go.Deep

theorem addr_plain {w : World} {a : Addr} {v : Value} (h : w.cell? (a.add 0) = some v) : a = ⟨a.block, a.off, none⟩ := by
  obtain ⟨b, o, s⟩ := a
  cases s with
  | none => rfl
  | some s =>
    simp only [World.cell?, Addr.add, if_true] at h
    split at h <;> simp at h
theorem add_plain {w : World} {b o n : Nat} {v : Value} (h : w.cell? ((⟨b, o, none⟩ : Addr).add n) = some v) : w.cell? ⟨b, o + n, none⟩ = some v := by
  by_cases hn : n = 0
  · subst hn; exact h
  · simpa [Addr.add, hn] using h
theorem ints_of {W : World} {a : Addr} {len : Nat} {zs : List Int} (hl : len ≤ zs.length) (h : ∀ i, i < len → W.cell? (a.add i) = some (.int .i64 (zs.getD i 0))) : IntsAt W (some a) (zs.take len) := by
  intro i hi
  rw [List.length_take] at hi
  have ha := addr_plain (h 0 (by omega))
  have hc := h i (by omega)
  rw [ha] at hc
  refine ⟨a.block, a.off, _, by rw [← ha], add_plain hc, ?_⟩
  show _ = _
  rw [List.getElem_take]; simp [List.getD, (by omega : i < zs.length)]
theorem open_ints_any {H : Type} {enc : TypeId × Value → H} {W : World} {base fuel : Nat} {held : Bool} {t : TypeId} {v : Value} {x : DataW H × List MemPlace} (ht : Try.prog.underlying t = some (.slice 3))
    (h : DataW.trod enc Try.prog W base (fun _ => true) held fuel t [v] = some x) : ∃ p c l, v = .slice p (List.length l) c ∧ IntsAt W p l ∧ l.length ≤ 9223372036854775807 := by
  rcases open_ints ht Try.underlying3 (by kernel_rfl) h with ⟨hv, -⟩ | ⟨a, len, cap, zs, hv, -, hl, hm, hz, -, hc, -⟩
  · exact ⟨none, 0, [], by simpa using hv, IntsAt.nil _ _, by decide⟩
  · simp only [if_true] at hz
    have hle : len ≤ zs.length := by omega
    refine ⟨some a, cap, zs.take len, ?_, ints_of hle fun i hi => hc i (by omega), ?_⟩
    · rw [List.length_take, Nat.min_eq_left hle]; simpa using hv
    · rw [List.length_take]
      have : maxLen = 9223372036854775807 := rfl
      omega
theorem open_pairs_any {H : Type} {enc : TypeId × Value → H} {W : World} {base fuel : Nat} {held : Bool} {t e : TypeId} {f0 f1 : Field} {v : Value} {x : DataW H × List MemPlace} (ht : Try.prog.underlying t = some (.slice e))
    (he : Try.prog.underlying e = some (.struct #[f0, f1])) (ce : Try.prog.cellsOf e = 2) (o0 : f0.offset = 0) (o1 : f1.offset = 1) (c0 : Try.prog.cellsOf f0.type = 1) (c1 : Try.prog.cellsOf f1.type = 1)
    (u0 : Try.prog.underlying f0.type = some (.int .i64)) (u1 : Try.prog.underlying f1.type = some (.int .i64))
    (h : DataW.trod enc Try.prog W base (fun _ => true) held fuel t [v] = some x) : ∃ p c l, v = .slice p (List.length l) c ∧ PairsAt W p l ∧ l.length ≤ 9223372036854775807 := by
  have hM : maxLen = 9223372036854775807 := rfl
  rcases open_slice_pairs ht he ce o0 o1 c0 c1 h with ⟨hv, -⟩ | ⟨a, len, cap, m, n, V0, V1, D0, D1, P0, P1, hv, -, hl, hm, hmm, -, hi⟩
  · exact ⟨none, 0, [], by simpa using hv, PairsAt.nil _ _, by decide⟩
  · simp only [if_true] at hmm
    have each : ∀ i, i < m → ∃ z : Int × Int, V0 i = .int .i64 z.1 ∧ V1 i = .int .i64 z.2 := by
      intro i him
      obtain ⟨-, -, g0, g1⟩ := hi i him
      obtain ⟨n0, e0, -⟩ := DataW.trod_int u0 g0
      obtain ⟨n1, e1, -⟩ := DataW.trod_int u1 g1
      exact ⟨(n0, n1), by simpa using e0, by simpa using e1⟩
    obtain ⟨z, hz⟩ := choose_lt each
    refine ⟨some a, cap, (List.range len).map z, by simpa using hv, ?_, by simp; omega⟩
    intro i hil
    simp only [List.length_map, List.length_range] at hil
    obtain ⟨k0, k1, -⟩ := hi i (by omega)
    have ha := addr_plain (hi 0 (by omega)).1
    rw [ha] at k0 k1
    have k0 := add_plain k0
    have k1 := add_plain k1
    refine ⟨a.block, a.off, by rw [← ha], ?_, ?_⟩
    · rw [k0, (hz i (by omega)).1]; simp
    · rw [show a.off + i * 2 + 1 = a.off + (i * 2 + 1) from rfl, k1, (hz i (by omega)).2]; simp

theorem cells_i : Try.prog.cellsOf 3 = 1 := by kernel_rfl
/-! The table that the rows list. -/
end Go.Proofs.Ytppncdbhebgcaaa
