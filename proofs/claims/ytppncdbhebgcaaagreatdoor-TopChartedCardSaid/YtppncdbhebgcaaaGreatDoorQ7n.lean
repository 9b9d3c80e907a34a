
/- The plain laws of a hundred more, of one more reading, of the parts. -/
import Derived.Test.YtppncdbhebgcaaaGreatDoorXI
namespace Go.Proofs.YtppncdbhebgcaaaGreatDoor
open Go.RowKit

/-! A hundred more. -/
section
variable {M : Mt} {k : Nat}
end

/-! What the answers are, for a valid meter. -/
section
variable {M : Mt}
theorem sumsA_list (hM : ValidM M) {f t : Int} (hb : areB f t M.weeks.length = true) (hz : askV M true = 0) : sumsA M f t = (sumsL M f.toNat t.toNat).map (fun n : Nat => (n : Int)) ∧ f.toNat ≤ t.toNat ∧ t.toNat ≤ M.weeks.length := by
  have h := areB_iff.1 hb
  unfold sumsA
  rw [hb, hz, okL_0 rfl, sumsL_bits hM (by omega) (by omega)]
  exact ⟨rfl, by omega, by omega⟩
theorem sumsA_mem (hM : ValidM M) {f t : Int} (hb : areB f t M.weeks.length = true) (hz : askV M true = 0) {x : Int} : x ∈ sumsA M f t ↔ PlaysP M f.toNat t.toNat x := by
  obtain ⟨e, h1, h2⟩ := sumsA_list hM hb hz
  rw [e, List.mem_map]
  constructor
  · rintro ⟨n, hn, rfl⟩
    exact (mem_sumsL hM h1 h2).1 hn
  · rintro ⟨D, hD, e⟩
    have hb' := tru_bound hM hD h1 h2
    exact ⟨x.toNat, (mem_sumsL hM h1 h2).2 ⟨D, hD, by omega⟩, by omega⟩
end

/-! One more reading. -/
section
variable {M : Mt} {r : Int × Int}
end

/-! The parts. -/
section
variable {M : Mt}
theorem sumsA_bound (hM : ValidM M) {f t : Int} (hb : areB f t M.weeks.length = true) (hz : askV M true = 0) {x : Int} (hx : x ∈ sumsA M f t) : 0 ≤ x ∧ x ≤ 1500 := by
  obtain ⟨D, hD, e⟩ := (sumsA_mem hM hb hz).1 hx
  obtain ⟨-, h1, h2⟩ := sumsA_list hM hb hz
  have := tru_bound hM hD h1 h2
  omega
theorem sumsA_ne (hM : ValidM M) {f t : Int} (hb : areB f t M.weeks.length = true) (hz : askV M true = 0) : sumsA M f t ≠ [] := by
  obtain ⟨D, hD⟩ := (askV_iff hM).1 hz
  exact List.ne_nil_of_mem ((sumsA_mem hM hb hz).2 ⟨D, hD, rfl⟩)
end
end Go.Proofs.YtppncdbhebgcaaaGreatDoor
