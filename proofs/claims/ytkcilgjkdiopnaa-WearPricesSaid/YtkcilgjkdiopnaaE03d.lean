/- What becomes of the age of the needle, and of a record that is never played. Plain law. -/
import Derived.Test.YtkcilgjkdiopnaaL03e
namespace Go.Proofs.Ytkcilgjkdiopnaa
open Go.RowKit

/-- the plays of the first n records in a week -/
def sumWk (X : Wr) (wk : Nat) : Nat → Int
  | 0 => 0
  | n + 1 => sumWk X wk n + playsW X wk n
/-- the age of the needle after k weeks -/
def wantTo (X : Wr) (l : List Wk) : Nat → Int
  | 0 => X.age
  | k + 1 => (if (wkAt l k).needle = 1 then 0 else wantTo X l k) + sumWk X k X.recs.length
/-- the plays of record i in k weeks -/
def playedTo (X : Wr) (i : Nat) : Nat → Int
  | 0 => 0
  | k + 1 => playedTo X i k + playsW X k i
/-- what a record is worn that is not played -/
def leftTo (X : Wr) (l : List Wk) (i : Nat) : Nat → Int
  | 0 => (recW X i).worn
  | k + 1 => if (i : Int) ∈ (wkAt l k).recs then 0 else leftTo X l i k

theorem sumWk_bd {X : Wr} (hX : ValidW X) (wk : Nat) : ∀ n : Nat, 0 ≤ sumWk X wk n ∧ sumWk X wk n ≤ 99 * n
  | 0 => by simp [sumWk]
  | n + 1 => by
    have := sumWk_bd hX wk n
    have := playsW_bd hX wk n
    simp only [sumWk]
    omega
theorem wantTo_bd {X : Wr} (hX : ValidW X) (l : List Wk) : ∀ k : Nat, 0 ≤ wantTo X l k ∧ wantTo X l k ≤ 9999 + 396 * k
  | 0 => by have := hX.age; simp only [wantTo]; omega
  | k + 1 => by
    have := wantTo_bd hX l k
    have := sumWk_bd hX k X.recs.length
    have := hX.recs
    simp only [wantTo]
    split <;> omega
theorem playedTo_bd {X : Wr} (hX : ValidW X) (i : Nat) : ∀ k : Nat, 0 ≤ playedTo X i k ∧ playedTo X i k ≤ 99 * k
  | 0 => by simp [playedTo]
  | k + 1 => by
    have := playedTo_bd hX i k
    have := playsW_bd hX k i
    simp only [playedTo]
    omega

theorem age_playsTo (X : Wr) (wk : Nat) (s : St) : ∀ n, (playsTo X wk s n).age = s.age + sumWk X wk n
  | 0 => by simp [playsTo, sumWk]
  | n + 1 => by
    rw [playsTo_succ, show (playW X wk (playsTo X wk s n) n).age = (playsTo X wk s n).age + playsW X wk n from rfl, age_playsTo X wk s n, sumWk]
    omega
theorem age_rep (X : Wr) (l : List Int) (s : St) : (l.foldl (repW X) s).age = s.age := by
  induction l generalizing s with
  | nil => rfl
  | cons a r ih => rw [List.foldl_cons, ih]; rfl
theorem age_run (X : Wr) (l : List Wk) : ∀ k, (runTo X l k).age = wantTo X l k
  | 0 => rfl
  | k + 1 => by
    rw [runTo, weekW, age_playsTo, age_rep, wantTo]
    unfold newW
    split
    · rfl
    · rw [age_run X l k]

theorem worn_playsTo (X : Wr) (wk i : Nat) (s : St) : ∀ n, (playsTo X wk s n).worn i = if i < n then s.worn i + grindW X (s.age + sumWk X wk i) (playsW X wk i).toNat else s.worn i
  | 0 => by simp [playsTo]
  | n + 1 => by
    rw [playsTo_succ]
    show updI (playsTo X wk s n).worn n _ i = _
    unfold updI
    by_cases e : i = n
    · subst e
      rw [if_pos rfl, if_pos (by omega), worn_playsTo X wk i s i, if_neg (by omega), age_playsTo]
    · rw [if_neg e, worn_playsTo X wk i s n]
      by_cases h : i < n
      · rw [if_pos h, if_pos (by omega)]
      · rw [if_neg h, if_neg (by omega)]
theorem worn_rep (X : Wr) (i : Nat) (l : List Int) (s : St) (h : ∀ n ∈ l, 0 ≤ n) : (l.foldl (repW X) s).worn i = if (i : Int) ∈ l then 0 else s.worn i := by
  induction l generalizing s with
  | nil => rfl
  | cons a r ih =>
    rw [List.foldl_cons, ih _ (fun n hn => h n (by simp [hn]))]
    have ha := h a (by simp)
    by_cases hr : (i : Int) ∈ r
    · rw [if_pos hr, if_pos (by simp [hr])]
    · rw [if_neg hr]
      show updI s.worn a.toNat 0 i = _
      unfold updI
      by_cases e : i = a.toNat
      · rw [if_pos e, if_pos (by rw [show (i : Int) = a by omega]; simp)]
      · rw [if_neg e, if_neg (by simp only [List.mem_cons, not_or]; exact ⟨by omega, hr⟩)]
theorem newW_worn (X : Wr) (p : Wk) (s : St) : (newW X p s).worn = s.worn := by unfold newW; split <;> rfl
theorem wk_pos {X : Wr} {l : List Wk} (hP : PlanOK X l) (k : Nat) : ∀ n ∈ (wkAt l k).recs, 0 ≤ n := by
  intro n hn
  by_cases h : k < l.length
  · rw [wkAt_eq h] at hn
    obtain ⟨i, hi, rfl⟩ := List.getElem_of_mem hn
    exact ((hP.2 _ (List.getElem_mem h)).1.1 i hi).1
  · have : wkAt l k = ⟨0, []⟩ := by simp [wkAt, List.getD, List.getElem?_eq_none (by omega : l.length ≤ k)]
    rw [this] at hn
    cases hn
theorem never_played {X : Wr} (hX : ValidW X) {l : List Wk} (hP : PlanOK X l) {i : Nat} (hi : i < X.recs.length) : ∀ k, playedTo X i k = 0 → (runTo X l k).worn i = leftTo X l i k
  | 0, _ => rfl
  | k + 1, h => by
    have h1 := playedTo_bd hX i k
    have h2 := playsW_bd hX k i
    simp only [playedTo] at h
    have ih := never_played hX hP hi k (by omega)
    have h3 : playsW X k i = 0 := by omega
    rw [runTo, weekW, worn_playsTo, if_pos hi, h3, worn_rep X i _ _ (wk_pos hP k), newW_worn, ih]
    simp [leftTo, grindW]
end Go.Proofs.Ytkcilgjkdiopnaa
