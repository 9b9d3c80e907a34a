/- The reference's choices: the plain law. -/
import Derived.Test.YtkcilgjkdiopnaaR3h
namespace Go.Proofs.Ytkcilgjkdiopnaa
open Go.RowKit

/-- a choice as the reference keeps it -/
structure RC where
  needles : Int
  cost : Int
  recs : Int
/-- the fewest replacements of record i -/
def fewX (X : Wr) (N n i : Nat) : Int := fewB (recW X i).limit (recW X i).worn (fun k => grd X N k i) n (2 ^ n)
def rgood (X : Wr) (N n m : Nat) : Bool := (List.range m).all fun i => decide (0 ≤ fewX X N n i)
def rcost (X : Wr) (N n : Nat) : Nat → Int
  | 0 => 0
  | i + 1 => rcost X N n i + fewX X N n i * (recW X i).price
def rrep (X : Wr) (N n : Nat) : Nat → Int
  | 0 => 0
  | i + 1 => rrep X N n i + fewX X N n i
theorem rgood_succ (X : Wr) (N n m : Nat) : rgood X N n (m + 1) = (rgood X N n m && decide (0 ≤ fewX X N n m)) := by
  unfold rgood
  rw [List.range_succ, List.all_append]
  simp
theorem rgood_iff (X : Wr) (N n m : Nat) : rgood X N n m = true ↔ ∀ i, i < m → 0 ≤ fewX X N n i := by
  unfold rgood
  simp
theorem fewX_bd (X : Wr) (N n i : Nat) : -1 ≤ fewX X N n i ∧ fewX X N n i ≤ 6 := fewB_bd _ _ _ _ _
theorem rrep_bd (X : Wr) (N n : Nat) : ∀ m : Nat, -(m : Int) ≤ rrep X N n m ∧ rrep X N n m ≤ 6 * m
  | 0 => by simp [rrep]
  | m + 1 => by
    have h1 := rrep_bd X N n m
    have h2 := fewX_bd X N n m
    simp only [rrep]
    omega
theorem mulp_bd {a p : Int} (h1 : -1 ≤ a ∧ a ≤ 6) (h2 : 0 ≤ p ∧ p ≤ 999) : -999 ≤ a * p ∧ a * p ≤ 5994 := by
  have e1 : 0 ≤ (a + 1) * p := Int.mul_nonneg (by omega) h2.1
  have e2 : 0 ≤ (6 - a) * p := Int.mul_nonneg (by omega) h2.1
  rw [Int.add_mul] at e1
  rw [Int.sub_mul] at e2
  omega
theorem rcost_bd {X : Wr} (hX : ValidW X) (N n : Nat) : ∀ m : Nat, -999 * (m : Int) ≤ rcost X N n m ∧ rcost X N n m ≤ 5994 * m
  | 0 => by simp [rcost]
  | m + 1 => by
    have h1 := rcost_bd hX N n m
    have h2 := fewX_bd X N n m
    have h3 := rec_bd hX m
    have h4 := mulp_bd h2 ⟨h3.1, h3.2.1⟩
    simp only [rcost]
    omega
/-- the reference's choices among the first sets of needles -/
def refCh (X : Wr) (n T : Nat) : List RC := (List.range T).filterMap fun N => if rgood X N n X.recs.length = true then some ⟨popc N, rcost X N n X.recs.length, rrep X N n X.recs.length⟩ else none
theorem refCh_good {X : Wr} {n T : Nat} (h : rgood X T n X.recs.length = true) : refCh X n (T + 1) = refCh X n T ++ [⟨popc T, rcost X T n X.recs.length, rrep X T n X.recs.length⟩] := by
  unfold refCh
  rw [List.range_succ, List.filterMap_append]
  simp [h]
theorem refCh_bad {X : Wr} {n T : Nat} (h : rgood X T n X.recs.length = false) : refCh X n (T + 1) = refCh X n T := by
  unfold refCh
  rw [List.range_succ, List.filterMap_append]
  simp [h]
theorem refCh_len (X : Wr) (n : Nat) : ∀ T, (refCh X n T).length ≤ T
  | 0 => by simp [refCh]
  | T + 1 => by
    have := refCh_len X n T
    by_cases h : rgood X T n X.recs.length = true
    · rw [refCh_good h]; simp; omega
    · rw [refCh_bad (by simpa using h)]; omega
theorem fewX_late {X : Wr} (hX : ValidW X) {n : Nat} (hn : n ≤ 6) (N i : Nat) : fewX X N n i = match lateW (recW X i).limit (recW X i).worn (fun k => grd X N k i) n with
    | some x => (popc x : Int)
    | none => -1 := fewB_late hn (rec_bd hX i).2.2.1 (fun k => grd_pos hX N k i)
/-- the sums agree, if each record is the choice's -/
theorem sums_eq {X : Wr} {N n : Nat} {c : Ch} : ∀ m, (∀ i, i < m → fewX X N n i = popc (c.records.getD i 0)) → rcost X N n m = costTo X c m ∧ rrep X N n m = replTo c m
  | 0, _ => ⟨rfl, rfl⟩
  | m + 1, h => by
    have h1 := sums_eq (X := X) (N := N) (n := n) (c := c) m (fun i hi => h i (by omega))
    have h2 := h m (by omega)
    simp only [rcost, rrep, costTo, replTo, h1.1, h1.2, h2]
    exact ⟨trivial, trivial⟩
theorem rgood_choose {X : Wr} (hX : ValidW X) {n : Nat} (hn : n ≤ 6) (N : Nat) : (if rgood X N n X.recs.length = true then some (RC.mk (popc N) (rcost X N n X.recs.length) (rrep X N n X.recs.length)) else none) =
    (chooseW X N n).map fun c => RC.mk (popc c.needles) (costTo X c c.records.length) (replW c) := by
  by_cases h : rgood X N n X.recs.length = true
  · rw [if_pos h]
    have h1 := (rgood_iff ..).1 h
    have h2 : ∀ i, ∃ y, i < X.recs.length → lateW (recW X i).limit (recW X i).worn (fun k => grd X N k i) n = some y := fun i => by
      by_cases hi : i < X.recs.length
      · have := h1 i hi
        rw [fewX_late hX hn] at this
        cases hl : lateW (recW X i).limit (recW X i).worn (fun k => grd X N k i) n with
        | none => rw [hl] at this; exact absurd this (by decide)
        | some y => exact ⟨y, fun _ => rfl⟩
      · exact ⟨0, fun h => absurd h hi⟩
    obtain ⟨f, hf⟩ := Classical.axiomOfChoice h2
    have hr := recsTo_mk (X := X) (N := N) (n := n) (f := f) X.recs.length (fun j hj => hf j hj)
    have hc : chooseW X N n = some ⟨N, (List.range X.recs.length).map f⟩ := by unfold chooseW; rw [hr]; rfl
    rw [hc]
    have hs := sums_eq (X := X) (N := N) (n := n) (c := ⟨N, (List.range X.recs.length).map f⟩) X.recs.length (fun i hi => by
      rw [fewX_late hX hn, hf i hi]
      have : ((List.range X.recs.length).map f).getD i 0 = f i := by simp [List.getD, hi]
      rw [this])
    simp only [Option.map_some, Option.some.injEq, RC.mk.injEq]
    unfold replW
    simp only [List.length_map, List.length_range]
    exact ⟨trivial, by simpa using hs.1, by simpa using hs.2⟩
  · rw [if_neg h]
    cases hc : chooseW X N n with
    | none => rfl
    | some c =>
      exfalso
      apply h
      rw [rgood_iff]
      intro i hi
      unfold chooseW at hc
      obtain ⟨rl, hrl, -⟩ := Option.map_eq_some_iff.1 hc
      have := recsTo_get _ _ hrl i hi
      rw [fewX_late hX hn, this]
      simp only
      omega
theorem refCh_law {X : Wr} (hX : ValidW X) {n : Nat} (hn : n ≤ 6) : refCh X n (2 ^ n) = (choicesW X n).map fun c => RC.mk (popc c.needles) (costTo X c c.records.length) (replW c) := by
  unfold refCh choicesW
  rw [List.map_filterMap]
  congr 1
  funext N
  exact rgood_choose hX hn N
end Go.Proofs.Ytkcilgjkdiopnaa
