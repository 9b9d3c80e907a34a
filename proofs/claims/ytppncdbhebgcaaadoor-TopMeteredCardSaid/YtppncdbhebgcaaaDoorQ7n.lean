
/- The plain laws of a hundred more, of one more reading, of the parts. -/
import Derived.Test.YtppncdbhebgcaaaDoorXI
namespace Go.Proofs.YtppncdbhebgcaaaDoor
open Go.RowKit

/-! A hundred more. -/
section
variable {M : Mt} {k : Nat}
end

/-! What the answers are, for a valid meter. -/
section
variable {M : Mt}
theorem sumsA_list (hM : ValidM M) {f t : Int} (hb : areB f t M.weeks.length = true) (hz : askV M true = 0) : sumsA M f t = (sumsL M f.toNat t.toNat).map (fun n : Nat => (n : Int)) ∧ f.toNat ≤ t.toNat ∧ t.toNat ≤ M.weeks.length := by
  have h := areB_iff.1 hb
  unfold sumsA
  rw [hb, hz, okL_0 rfl, sumsL_bits hM (by omega) (by omega)]
  exact ⟨rfl, by omega, by omega⟩
theorem sumsA_mem (hM : ValidM M) {f t : Int} (hb : areB f t M.weeks.length = true) (hz : askV M true = 0) {x : Int} : x ∈ sumsA M f t ↔ PlaysP M f.toNat t.toNat x := by
  obtain ⟨e, h1, h2⟩ := sumsA_list hM hb hz
  rw [e, List.mem_map]
  constructor
  · rintro ⟨n, hn, rfl⟩
    exact (mem_sumsL hM h1 h2).1 hn
  · rintro ⟨D, hD, e⟩
    have hb' := tru_bound hM hD h1 h2
    exact ⟨x.toNat, (mem_sumsL hM h1 h2).2 ⟨D, hD, by omega⟩, by omega⟩
theorem showsA_list (hM : ValidM M) {a : Int} (hb : isAf a M.weeks.length = true) (hz : askV M true = 0) : showsA M a = (showsL M a.toNat).map (fun n : Nat => (n : Int)) ∧ a.toNat ≤ M.weeks.length := by
  have h := isAf_iff.1 hb
  unfold showsA
  rw [hb, hz, okL_0 rfl, shows_eq hM (by omega)]
  exact ⟨rfl, by omega⟩
theorem showsA_mem (hM : ValidM M) {a : Int} (hb : isAf a M.weeks.length = true) (hz : askV M true = 0) {x : Int} : x ∈ showsA M a ↔ ShownP M a.toNat x := by
  have h := isAf_iff.1 hb
  unfold showsA
  rw [hb, hz, okL_0 rfl]
  exact shows_mem hM (by omega)
theorem roundA_span (hM : ValidM M) (hz : askV M true = 0) : SpanOf (RoundsP M) (roundLo M) (roundHi M) := by
  unfold roundLo roundHi
  rw [hz, okN_0 rfl, okN_0 rfl]
  exact rounds_law hM ((askV_iff hM).1 hz)
theorem weekA_span (hM : ValidM M) {i : Nat} (hi : i < M.weeks.length) (hz : askV M true = 0) : SpanOf (PlaysP M i (i + 1)) (weekLo M i) (weekHi M i) := by
  have hB : isWkB i M.weeks.length = true := isWkB_iff.2 (by omega)
  unfold weekLo weekHi
  rw [hB, hz, okN_0 rfl, okN_0 rfl, Int.toNat_natCast]
  exact (week_span_of hM (by omega) (by omega) ((askV_iff hM).1 hz)).2
end

/-! One more reading. -/
section
variable {M : Mt} {r : Int × Int}
end

/-! The parts. -/
section
variable {M : Mt}
end
end Go.Proofs.YtppncdbhebgcaaaDoor
