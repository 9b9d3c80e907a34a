/- The plain law of the fewest changes. -/
import Derived.Test.YtpgjkmjejpfkmaaL07g
namespace Go.Proofs.Ytpgjkmjejpfkmaa
open Go.RowKit

theorem snocInd {α : Type} {P : List α → Prop} (h0 : P []) (hs : ∀ l x, P l → P (l ++ [x])) (l : List α) : P l := by
  have h : ∀ r : List α, P r.reverse := by
    intro r
    induction r with
    | nil => exact h0
    | cons x r ih => rw [List.reverse_cons]; exact hs _ _ ih
  have := h l.reverse
  rwa [List.reverse_reverse] at this

theorem Rises.lt {l : List Int} {lo hi : Int} (h : Rises l lo hi) : ∀ j i (hj : j < l.length) (hi : i < j), l[i] < l[j]
  | 0, i, _, hi => absurd hi (by omega)
  | j + 1, i, hj, hi => by
    have h2 := h.2 j hj
    by_cases hij : i = j
    · subst hij; exact h2
    · have := Rises.lt h j i (by omega) (by omega); omega

theorem mask_fold_bit (t : Nat) : ∀ (l : List Int) (s : Nat), (l.foldl (fun s n => s ||| 2 ^ n.toNat) s).testBit t = (s.testBit t || l.any fun n => n.toNat == t)
  | [], s => by simp
  | x :: r, s => by
    rw [List.foldl_cons, mask_fold_bit t r, Nat.testBit_or, Nat.testBit_two_pow, List.any_cons, Bool.or_assoc]
    rfl
theorem maskOf_bit (l : List Int) (t : Nat) : (maskOf l).testBit t = l.any fun n => n.toNat == t := by
  unfold maskOf; rw [mask_fold_bit]; simp
theorem popc_or : ∀ m, m < 64 → ∀ n, n < 6 → m.testBit n = false → popc (m ||| 2 ^ n) = popc m + 1 := by decide +kernel

theorem earnTo_or_le (E : List (List Int)) (m n k : Nat) : ∀ N, N ≤ n → earnTo E (m ||| 2 ^ n) k N = earnTo E m k N
  | 0, _ => rfl
  | N + 1, h => by
    unfold earnTo
    rw [earnTo_or_le E m n k N (by omega), Nat.testBit_or, Nat.testBit_two_pow]
    simp [show ¬ n = N from by omega]
theorem earnTo_or (E : List (List Int)) (m n k : Nat) (hm : m.testBit n = false) : ∀ N, n < N → earnTo E (m ||| 2 ^ n) k N = earnTo E m k N + (E.getD n []).getD k 0
  | 0, h => absurd h (by omega)
  | N + 1, h => by
    unfold earnTo
    by_cases hn : n = N
    · subst hn
      rw [earnTo_or_le E m n k n (Nat.le_refl _), Nat.testBit_or, Nat.testBit_two_pow, hm]
      simp
    · rw [earnTo_or E m n k hm N (by omega), Nat.testBit_or, Nat.testBit_two_pow]
      simp only [hn, decide_false, Bool.or_false]
      omega

/-- a list of titles as a set -/
theorem mask_take {S : Swap} (l : List Int) (T box : Nat) (hT : T ≤ 6) (h : Rises l 0 ((T : Int) - 1)) : ∀ k, k ≤ l.length →
    popc (maskOf (l.take k)) = k ∧ earnTo S.earn (maskOf (l.take k)) box T = earnsIn S box (l.take k)
  | 0, _ => by
    rw [List.take_zero]
    refine ⟨by decide, ?_⟩
    have : ∀ T, earnTo S.earn (maskOf []) box T = 0 := by
      intro T
      induction T with
      | zero => rfl
      | succ n ih => unfold earnTo; rw [ih]; simp [maskOf]
    rw [this]; rfl
  | k + 1, hk => by
    obtain ⟨h1, h2⟩ := mask_take (S := S) l T box hT h k (by omega)
    have hlk := h.1 k (by omega)
    obtain ⟨n, hn⟩ := Int.eq_ofNat_of_zero_le hlk.1
    have hnb : (maskOf (l.take k)).testBit n = false := by
      rw [maskOf_bit, List.any_eq_false]
      intro x hx
      obtain ⟨i, hi, rfl⟩ := List.getElem_of_mem hx
      rw [List.length_take] at hi
      have := h.lt k i (by omega) (by omega)
      have h0 := h.1 i (by omega)
      rw [List.getElem_take]
      simp only [beq_iff_eq]
      omega
    have hm : maskOf (l.take k) < 64 := maskOf_lt _ fun n hn => by have := h.mem n (List.mem_of_mem_take hn); omega
    have htn : (l[k]'(by omega)).toNat = n := by rw [hn]; rfl
    rw [List.take_succ_eq_append_getElem (by omega), maskOf_snoc, earnsIn_snoc, htn, popc_or _ hm _ (by omega) hnb, earnTo_or _ _ _ _ hnb _ (by omega), h1, h2]
    exact ⟨rfl, rfl⟩
theorem mask_box {S : Swap} (l : List Int) (T box : Nat) (hT : T ≤ 6) (h : Rises l 0 ((T : Int) - 1)) : popc (maskOf l) = l.length ∧ earnTo S.earn (maskOf l) box T = earnsIn S box l := by
  have := mask_take (S := S) l T box hT h l.length (Nat.le_refl _)
  rwa [List.take_length] at this

/-- what Fewest finds -/
theorem few_spec (V : Visit) (g : Int) (L : List (Nat → Nat)) : (fewOf V g L = -1 ∧ ∀ q ∈ L, ¬g ≤ sumTo V q V.S.boxes.length) ∨
    ∃ q ∈ L, g ≤ sumTo V q V.S.boxes.length ∧ fewOf V g L = (allTo V q V.S.boxes.length : Int) ∧ ∀ q' ∈ L, g ≤ sumTo V q' V.S.boxes.length → allTo V q V.S.boxes.length ≤ allTo V q' V.S.boxes.length := by
  induction L using snocInd with
  | h0 => exact Or.inl ⟨rfl, by simp⟩
  | hs l x ih =>
    rw [fewOf_snoc, fewC_eq]
    unfold fewC
    by_cases hx : g ≤ sumTo V x V.S.boxes.length
    · rcases ih with ⟨h1, h2⟩ | ⟨q, hq, h1, h2, h3⟩
      · rw [h1, if_pos ⟨hx, Or.inl (by omega)⟩]
        refine Or.inr ⟨x, by simp, hx, rfl, ?_⟩
        intro q' hq' hg
        rcases List.mem_append.1 hq' with h | h
        · exact absurd hg (h2 q' h)
        · rw [List.mem_singleton.1 h]; exact Nat.le_refl _
      · rw [h2]
        by_cases hl : (allTo V x V.S.boxes.length : Int) < (allTo V q V.S.boxes.length : Int)
        · rw [if_pos ⟨hx, Or.inr hl⟩]
          refine Or.inr ⟨x, by simp, hx, rfl, ?_⟩
          intro q' hq' hg
          rcases List.mem_append.1 hq' with h | h
          · have := h3 q' h hg; omega
          · rw [List.mem_singleton.1 h]; exact Nat.le_refl _
        · rw [if_neg (by omega)]
          refine Or.inr ⟨q, by simp [hq], h1, rfl, ?_⟩
          intro q' hq' hg
          rcases List.mem_append.1 hq' with h | h
          · exact h3 q' h hg
          · rw [List.mem_singleton.1 h]; omega
    · rw [if_neg (fun h => hx h.1)]
      rcases ih with ⟨h1, h2⟩ | ⟨q, hq, h1, h2, h3⟩
      · refine Or.inl ⟨h1, ?_⟩
        intro q hq
        rcases List.mem_append.1 hq with h | h
        · exact h2 q h
        · rw [List.mem_singleton.1 h]; exact hx
      · refine Or.inr ⟨q, by simp [hq], h1, h2, ?_⟩
        intro q' hq' hg
        rcases List.mem_append.1 hq' with h | h
        · exact h3 q' h hg
        · rw [List.mem_singleton.1 h] at hg; exact absurd hg hx

/-- what Best finds -/
theorem best_spec {V : Visit} (hO : VOK V) (L : List (Nat → Nat)) : (L = [] ∧ (bestOf V L).1 = -1) ∨
    ∃ q ∈ L, (bestOf V L).1 = sumTo V q V.S.boxes.length ∧ ∀ q' ∈ L, sumTo V q' V.S.boxes.length ≤ sumTo V q V.S.boxes.length := by
  induction L using snocInd with
  | h0 => exact Or.inl ⟨rfl, rfl⟩
  | hs l x ih =>
    rw [bestOf_snoc]
    unfold bestStep
    have hx := (sumTo_bd hO x V.S.boxes.length).1
    refine Or.inr ?_
    rcases ih with ⟨rfl, h1⟩ | ⟨q, hq, h1, h2⟩
    · rw [h1, if_pos (by omega)]
      exact ⟨x, by simp, rfl, by simp⟩
    · rw [h1]
      by_cases hl : sumTo V q V.S.boxes.length < sumTo V x V.S.boxes.length
      · rw [if_pos hl]
        refine ⟨x, by simp, rfl, ?_⟩
        intro q' hq'
        rcases List.mem_append.1 hq' with h | h
        · have := h2 q' h; omega
        · rw [List.mem_singleton.1 h]; exact Int.le_refl _
      · rw [if_neg hl]
        refine ⟨q, by simp [hq], h1, ?_⟩
        intro q' hq'
        rcases List.mem_append.1 hq' with h | h
        · exact h2 q' h
        · rw [List.mem_singleton.1 h]; omega

theorem few_iff {V : Visit} (hO : VOK V) (g : Int) (hg : 0 ≤ g) (L : List (Nat → Nat)) : fewOf V g L < 0 ↔ ¬g ≤ (bestOf V L).1 := by
  rcases few_spec V g L with ⟨h1, h2⟩ | ⟨q, hq, h1, h2, -⟩
  · refine ⟨fun _ hle => ?_, fun _ => by omega⟩
    rcases best_spec hO L with ⟨rfl, h3⟩ | ⟨q, hq, h3, -⟩
    · omega
    · exact h2 q hq (by omega)
  · refine ⟨fun h => by omega, fun h => absurd ?_ h⟩
    rcases best_spec hO L with ⟨rfl, h3⟩ | ⟨q', -, h3, h4⟩
    · exact absurd hq (by simp)
    · have := h4 q hq; omega
theorem few_mono (V : Visit) (g g' : Int) (hg : g ≤ g') (L : List (Nat → Nat)) (h : 0 ≤ fewOf V g' L) : fewOf V g L ≤ fewOf V g' L := by
  rcases few_spec V g' L with ⟨h1, h2⟩ | ⟨q, hq, h1, h2, h3⟩
  · omega
  · rcases few_spec V g L with ⟨k1, k2⟩ | ⟨q', hq', k1, k2, k3⟩
    · exact absurd (by omega) (k2 q hq)
    · have := k3 q hq (by omega); omega
theorem few_zero (V : Visit) (g : Int) (L : List (Nat → Nat)) (q : Nat → Nat) (hq : q ∈ L) (hg : g ≤ sumTo V q V.S.boxes.length) (ha : allTo V q V.S.boxes.length = 0) : fewOf V g L = 0 := by
  rcases few_spec V g L with ⟨h1, h2⟩ | ⟨q', hq', k1, k2, k3⟩
  · exact absurd hg (h2 q hq)
  · have := k3 q hq hg; omega
end Go.Proofs.Ytpgjkmjejpfkmaa
