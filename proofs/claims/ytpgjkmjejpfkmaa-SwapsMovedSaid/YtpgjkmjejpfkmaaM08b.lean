/- Rows written one after another. -/
import Derived.Test.YtpgjkmjejpfkmaaM08a
import Derived.Test.YtpgjkmjejpfkmaaM07b
namespace Go.Proofs.Ytpgjkmjejpfkmaa
open Go.RowKit

/-- the first n rows earn d more in box b -/
def mvTo (E : List (List Int)) (b : Nat) (d : Int) : Nat → List (List Int)
  | 0 => E
  | n + 1 => (mvTo E b d n).set n (((mvTo E b d n).getD n []).set b (((mvTo E b d n).getD n []).getD b 0 + d))
theorem mvTo_len (E : List (List Int)) (b : Nat) (d : Int) : ∀ n, (mvTo E b d n).length = E.length
  | 0 => rfl
  | n + 1 => by unfold mvTo; rw [List.length_set, mvTo_len E b d n]
theorem mvTo_hi (E : List (List Int)) (b : Nat) (d : Int) : ∀ n t, n ≤ t → (mvTo E b d n).getD t [] = E.getD t []
  | 0, _, _ => rfl
  | n + 1, t, h => by
    unfold mvTo
    rw [List.getD_eq_getElem?_getD, List.getElem?_set, if_neg (by omega), ← List.getD_eq_getElem?_getD, mvTo_hi E b d n t (by omega)]
theorem mvTo_lo (E : List (List Int)) (b : Nat) (d : Int) : ∀ n t, t < n → n ≤ E.length → (mvTo E b d n).getD t [] = (E.getD t []).set b ((E.getD t []).getD b 0 + d)
  | 0, _, h, _ => absurd h (by omega)
  | n + 1, t, h, hn => by
    unfold mvTo
    by_cases ht : t = n
    · subst ht
      rw [List.getD_eq_getElem?_getD, List.getElem?_set, if_pos rfl, if_pos (by rw [mvTo_len]; omega), Option.getD_some, mvTo_hi E b d t t (Nat.le_refl _)]
    · rw [List.getD_eq_getElem?_getD, List.getElem?_set, if_neg (Ne.symm ht), ← List.getD_eq_getElem?_getD, mvTo_lo E b d n t (by omega) (by omega)]
theorem mvTo_moved {S : Swap} (hS : Valid S) (b : Nat) (hb : b < S.boxes.length) (d : Int) : Moved S.earn (mvTo S.earn b d S.earn.length) b d := by
  refine ⟨mvTo_len _ _ _ _, fun t ht => ?_, fun t j hj => ?_⟩
  · rw [mvTo_lo _ _ _ _ t ht (Nat.le_refl _), getD_of_lt _ _ _ ht]
    have hbl : b < S.earn[t].length := by rw [hS.row t ht]; exact hb
    rw [getD_of_lt ((S.earn[t]).set b _) _ _ (by rw [List.length_set]; exact hbl)]
    simp
  · by_cases ht : t < S.earn.length
    · rw [mvTo_lo _ _ _ _ t ht (Nat.le_refl _)]
      simp only [List.getD_eq_getElem?_getD, List.getElem?_set]
      rw [if_neg (Ne.symm hj)]
    · rw [mvTo_hi _ _ _ _ t (by omega)]
theorem mvTo_row {S : Swap} (hS : Valid S) (b : Nat) (d : Int) (n : Nat) (hn : n ≤ S.earn.length) : ∀ l ∈ mvTo S.earn b d n, l.length ≤ 100 := by
  intro l hl
  obtain ⟨i, hi, rfl⟩ := List.getElem_of_mem hl
  rw [mvTo_len] at hi
  have hb := hS.boxes
  have hr := hS.row i hi
  have e : (mvTo S.earn b d n)[i] = (mvTo S.earn b d n).getD i [] := (getD_of_lt _ _ _ _).symm
  rw [e]
  by_cases h : i < n
  · rw [mvTo_lo _ _ _ _ i h hn, List.length_set, getD_of_lt _ _ _ hi]; omega
  · rw [mvTo_hi _ _ _ _ i (by omega), getD_of_lt _ _ _ hi]; omega
theorem moved_big {S : Swap} (hS : Valid S) (b : Nat) (d : Int) : Big (withEarn S (mvTo S.earn b d S.earn.length)) := by
  have h1 := hS.boxes
  have h2 := hS.stock
  have h3 := hS.earn
  have h4 := hS.keeps
  refine ⟨by show S.boxes.length ≤ _; omega, fun l hl => ?_, by show S.stock.length ≤ _; omega, by show (mvTo _ _ _ _).length ≤ _; rw [mvTo_len]; omega, fun l hl => by have := mvTo_row hS b d _ (Nat.le_refl _) l hl; omega, by show S.keeps.length ≤ _; omega⟩
  obtain ⟨i, hi, rfl⟩ := List.getElem_of_mem hl
  have := (hS.box i hi).1
  show S.boxes[i].length ≤ _
  omega
theorem copy_vals (S : Swap) (t : Int) : ∃ n m : Int, copyV S t = .tuple #[.int .i64 n, .int .i64 m] := by
  unfold copyV
  split
  · split
    · exact ⟨_, _, rfl⟩
    · exact ⟨_, _, rfl⟩
  · exact ⟨_, _, rfl⟩
end Go.Proofs.Ytpgjkmjejpfkmaa
