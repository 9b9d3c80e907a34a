
/- The plain law of the fewest changes. The plan of now fits. Which plans the visit at work tries: just those that fit. -/
import Derived.Test.YtppncdbhebgcaaaGreatDoorSA
namespace Go.Proofs.YtppncdbhebgcaaaGreatDoor
open Go.RowKit

theorem Rises.lt {l : List Int} {lo hi : Int} (h : Rises l lo hi) : ∀ j i (hj : j < l.length) (hi : i < j), l[i] < l[j]
  | 0, i, _, hi => absurd hi (by omega)
  | j + 1, i, hj, hi => by
    have h2 := h.2 j hj
    by_cases hij : i = j
    · subst hij; exact h2
    · have := Rises.lt h j i (by omega) (by omega); omega
end Go.Proofs.YtppncdbhebgcaaaGreatDoor
namespace Go.Proofs.YtppncdbhebgcaaaGreatDoor.Sw7
open Go.RowKit

theorem snocInd {α : Type} {P : List α → Prop} (h0 : P []) (hs : ∀ l x, P l → P (l ++ [x])) (l : List α) : P l := by
  have h : ∀ r : List α, P r.reverse := by
    intro r
    induction r with
    | nil => exact h0
    | cons x r ih => rw [List.reverse_cons]; exact hs _ _ ih
  have := h l.reverse
  rwa [List.reverse_reverse] at this

/-- what Best finds -/
theorem best_spec {V : Visit} (hO : VOK V) (L : List (Nat → Nat)) : (L = [] ∧ (bestOf V L).1 = -1) ∨
    ∃ q ∈ L, (bestOf V L).1 = sumTo V q V.S.boxes.length ∧ ∀ q' ∈ L, sumTo V q' V.S.boxes.length ≤ sumTo V q V.S.boxes.length := by
  induction L using snocInd with
  | h0 => exact Or.inl ⟨rfl, rfl⟩
  | hs l x ih =>
    rw [bestOf_snoc]
    unfold bestStep
    have hx := (sumTo_bd hO x V.S.boxes.length).1
    refine Or.inr ?_
    rcases ih with ⟨rfl, h1⟩ | ⟨q, hq, h1, h2⟩
    · rw [h1, if_pos (by omega)]
      exact ⟨x, by simp, rfl, by simp⟩
    · rw [h1]
      by_cases hl : sumTo V q V.S.boxes.length < sumTo V x V.S.boxes.length
      · rw [if_pos hl]
        refine ⟨x, by simp, rfl, ?_⟩
        intro q' hq'
        rcases List.mem_append.1 hq' with h | h
        · have := h2 q' h; omega
        · rw [List.mem_singleton.1 h]; exact Int.le_refl _
      · rw [if_neg hl]
        refine ⟨q, by simp [hq], h1, ?_⟩
        intro q' hq'
        rcases List.mem_append.1 hq' with h | h
        · exact h2 q' h
        · rw [List.mem_singleton.1 h]; omega

end Go.Proofs.YtppncdbhebgcaaaGreatDoor.Sw7
namespace Go.Proofs.YtppncdbhebgcaaaGreatDoor.Sw7
open Go.RowKit

theorem cntB_mono {f g : Nat → Nat} (t : Nat) (h : ∀ j, (f j).testBit t = true → (g j).testBit t = true) : ∀ k, cntB f t k ≤ cntB g t k
  | 0 => Nat.le_refl _
  | k + 1 => by
    have h1 := cntB_mono t h k
    have h2 := h k
    unfold cntB
    by_cases hf : (f k).testBit t = true
    · rw [if_pos hf, if_pos (h2 hf)]; omega
    · rw [if_neg hf]; split <;> omega
theorem cntB_zero {f : Nat → Nat} (t : Nat) (h : ∀ j, (f j).testBit t = false) : ∀ k, cntB f t k = 0
  | 0 => rfl
  | k + 1 => by unfold cntB; rw [cntB_zero t h k, h k]; rfl
end Go.Proofs.YtppncdbhebgcaaaGreatDoor.Sw7
namespace Go.Proofs.YtppncdbhebgcaaaGreatDoor.Sw7
open Go.RowKit

/-- the first boxes of a plan alone -/
def cutP (g : Nat → Nat) (k : Nat) : Nat → Nat := fun j => if j < k then g j else 0
theorem cutP_of {g : Nat → Nat} {k j : Nat} (h : j < k) : cutP g k j = g j := by simp [cutP, h]
theorem cutP_not {g : Nat → Nat} {k j : Nat} (h : ¬j < k) : cutP g k j = 0 := by simp [cutP, h]

/-- a plan that fits, of sets -/
structure PlanF (V : Visit) (f : Nat → Nat) : Prop where
  box : ∀ j, j < V.S.boxes.length → f j < 2 ^ V.S.stock.length ∧ popc (f j) = (V.S.boxes.getD j []).length
  rest : ∀ j, V.S.boxes.length ≤ j → f j = 0
  fits : FitsTo V f V.S.boxes.length

theorem fits_cut {V : Visit} {g : Nat → Nat} {n : Nat} (h : FitsTo V g n) (k : Nat) (hk : k ≤ n) : FitsTo V (cutP g k) k := by
  constructor
  · intro j hj
    have := h.1 j (by omega)
    unfold FitBox at this ⊢
    rw [cutP_of hj]
    exact this
  · intro t ht
    have h2 : cntB (cutP g k) t 3 ≤ cntB g t 3 := by
      refine cntB_mono t ?_ 3
      intro j hj
      by_cases hjk : j < k
      · rwa [cutP_of hjk] at hj
      · rw [cutP_not hjk] at hj; simp at hj
    have := h.2 t ht
    omega

theorem mem_plansL (V : Visit) : ∀ d k (f g : Nat → Nat), (∀ j, k ≤ j → f j = 0) →
    (g ∈ plansL V d f k ↔ cutP g k = f ∧ (∀ j, k + d ≤ j → g j = 0) ∧ ∀ j, k ≤ j → j < k + d → g j < 2 ^ V.S.stock.length ∧ popc (g j) = (V.S.boxes.getD j []).length ∧ FitsTo V (cutP g (j + 1)) (j + 1))
  | 0, k, f, g, hf => by
    unfold plansL
    rw [List.mem_singleton]
    constructor
    · rintro rfl
      refine ⟨?_, hf, fun j h1 h2 => by omega⟩
      funext j
      by_cases h : j < k
      · rw [cutP_of h]
      · rw [cutP_not h, hf j (by omega)]
    · rintro ⟨h1, h2, -⟩
      rw [← h1]
      funext j
      by_cases h : j < k
      · rw [cutP_of h]
      · rw [cutP_not h, h2 j (by omega)]
  | d + 1, k, f, g, hf => by
    unfold plansL
    rw [List.mem_flatMap]
    have hstep : ∀ s, (cutP g (k + 1) = upd f k s ↔ cutP g k = f ∧ g k = s) := by
      intro s
      constructor
      · intro h
        have h1 := fun j => congrFun h j
        constructor
        · funext j
          have := h1 j
          by_cases hj : j < k
          · rw [cutP_of (by omega)] at this
            rw [cutP_of hj, this]
            unfold upd
            rw [if_neg (by omega)]
          · rw [cutP_not hj, hf j (by omega)]
        · have := h1 k
          rw [cutP_of (by omega)] at this
          rw [this]
          unfold upd
          rw [if_pos rfl]
      · rintro ⟨h1, h2⟩
        funext j
        unfold upd
        by_cases hj : j = k
        · subst hj
          rw [if_pos rfl, cutP_of (by omega), h2]
        · rw [if_neg hj]
          have := congrFun h1 j
          by_cases hjk : j < k
          · rw [cutP_of hjk] at this
            rw [cutP_of (by omega), this]
          · rw [cutP_not (by omega), hf j (by omega)]
    have hz : ∀ s j, k + 1 ≤ j → upd f k s j = 0 := by
      intro s j hj
      unfold upd
      rw [if_neg (by omega)]
      exact hf j (by omega)
    constructor
    · rintro ⟨s, hs, hg⟩
      rw [List.mem_range] at hs
      split at hg
      · rename_i hc
        obtain ⟨h1, h2, h3⟩ := (mem_plansL V d (k + 1) _ g (hz s)).1 hg
        obtain ⟨h4, rfl⟩ := (hstep s).1 h1
        refine ⟨h4, fun j hj => h2 j (by omega), fun j hj1 hj2 => ?_⟩
        by_cases hjk : j = k
        · subst hjk
          exact ⟨hs, hc.1, by rw [h1]; exact bP_iff.1 hc.2⟩
        · exact h3 j (by omega) (by omega)
      · exact absurd hg (by simp)
    · rintro ⟨h1, h2, h3⟩
      obtain ⟨h4, h5, h6⟩ := h3 k (Nat.le_refl _) (by omega)
      have h7 := (hstep (g k)).2 ⟨h1, rfl⟩
      refine ⟨g k, List.mem_range.2 h4, ?_⟩
      rw [if_pos ⟨h5, by rw [← h7]; exact bP_t h6⟩]
      exact (mem_plansL V d (k + 1) _ g (hz _)).2 ⟨h7, fun j hj => h2 j (by omega), fun j hj1 hj2 => h3 j (by omega) (by omega)⟩

theorem cntB_zeros (t : Nat) (k : Nat) : cntB (fun _ => 0) t k = 0 := cntB_zero t (fun _ => by simp) k
theorem mem_allP {V : Visit} (hO : VOK V) (g : Nat → Nat) : g ∈ allP V ↔ PlanF V g := by
  unfold allP
  rw [mem_plansL V _ 0 _ g (fun _ _ => rfl)]
  rw [Nat.zero_add]
  constructor
  · rintro ⟨-, h2, h3⟩
    refine ⟨fun j hj => ⟨(h3 j (Nat.zero_le _) hj).1, (h3 j (Nat.zero_le _) hj).2.1⟩, h2, ?_⟩
    have hcut : cutP g V.S.boxes.length = g := by
      funext j
      by_cases h : j < V.S.boxes.length
      · rw [cutP_of h]
      · rw [cutP_not h, h2 j (by omega)]
    by_cases h0 : V.S.boxes.length = 0
    · have hg : g = fun _ => 0 := by funext j; exact h2 j (by omega)
      refine ⟨fun j hj => by omega, fun t ht => ?_⟩
      rw [hg, cntB_zeros]
      exact (hO.copies t ht).1
    · have := (h3 (V.S.boxes.length - 1) (Nat.zero_le _) (by omega)).2.2
      rw [show V.S.boxes.length - 1 + 1 = V.S.boxes.length from by omega, hcut] at this
      exact this
  · rintro ⟨h1, h2, h3⟩
    refine ⟨?_, h2, fun j _ hj => ⟨(h1 j hj).1, (h1 j hj).2, fits_cut h3 (j + 1) hj⟩⟩
    funext j
    rw [cutP_not (by omega)]

/-- the fairest plan -/
theorem fair_ge (V : Visit) (L : List (Nat → Nat)) : ∀ q ∈ L, leastTo V q V.S.boxes.length ≤ fairOf V L := by
  induction L using snocInd with
  | h0 => simp
  | hs l x ih =>
    rw [fairOf_snoc]
    intro q hq
    rcases List.mem_append.1 hq with h | h
    · have := ih q h; omega
    · rw [List.mem_singleton.1 h]; omega
theorem fair_is {V : Visit} (hO : VOK V) (L : List (Nat → Nat)) : (L = [] ∧ fairOf V L = 0) ∨ ∃ q ∈ L, fairOf V L = leastTo V q V.S.boxes.length := by
  induction L using snocInd with
  | h0 => exact Or.inl ⟨rfl, rfl⟩
  | hs l x ih =>
    rw [fairOf_snoc]
    have hx := (leastTo_bd hO x V.S.boxes.length).1
    refine Or.inr ?_
    rcases ih with ⟨rfl, h⟩ | ⟨q, hq, h⟩
    · exact ⟨x, by simp, by omega⟩
    · by_cases hl : leastTo V q V.S.boxes.length ≤ leastTo V x V.S.boxes.length
      · exact ⟨x, by simp, by omega⟩
      · exact ⟨q, by simp [hq], by omega⟩
end Go.Proofs.YtppncdbhebgcaaaGreatDoor.Sw7
