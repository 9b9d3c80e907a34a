/- The plan of now fits. -/
import Derived.Test.YtpgjkmjejpfkmaaL07h
namespace Go.Proofs.Ytpgjkmjejpfkmaa
open Go.RowKit

theorem nowTo_zero (S : Swap) : nowTo S 0 = fun _ => 0 := by funext j; simp [nowTo]
theorem nowTo_of {S : Swap} {k j : Nat} (h : j < k) : nowTo S k j = maskOf (S.boxes.getD j []) := by simp [nowTo, h]
theorem nowTo_not {S : Swap} {k j : Nat} (h : ¬j < k) : nowTo S k j = 0 := by simp [nowTo, h]
theorem box_rises {S : Swap} (hS : Valid S) (j : Nat) : Rises (S.boxes.getD j []) 0 ((S.stock.length : Int) - 1) := by
  by_cases h : j < S.boxes.length
  · rw [getD_of_lt _ _ _ h]; exact (hS.box j h).2
  · rw [List.getD_eq_getElem?_getD, List.getElem?_eq_none (by omega)]
    exact ⟨fun i h => absurd h (by simp), fun i h => absurd h (by simp)⟩
theorem mask_fold_pow (T : Nat) (l : List Int) (h : ∀ n ∈ l, n.toNat < T) : ∀ s, s < 2 ^ T → l.foldl (fun s n => s ||| 2 ^ n.toNat) s < 2 ^ T := by
  induction l with
  | nil => intro s hs; exact hs
  | cons x r ih =>
    intro s hs
    exact ih (fun n hn => h n (by simp [hn])) _ (Nat.or_lt_two_pow hs (Nat.pow_lt_pow_right (by decide) (h x (by simp))))
theorem mask_pow {l : List Int} {T : Nat} (h : Rises l 0 ((T : Int) - 1)) : maskOf l < 2 ^ T :=
  mask_fold_pow T l (fun n hn => by have := h.mem n hn; omega) 0 (Nat.two_pow_pos T)
theorem mask_no_bit {l : List Int} {T : Nat} (h : Rises l 0 ((T : Int) - 1)) (t : Nat) (ht : T ≤ t) : (maskOf l).testBit t = false := by
  rw [maskOf_bit, List.any_eq_false]
  intro x hx
  have := h.mem x hx
  simp only [beq_iff_eq]
  omega
theorem cntB_mono {f g : Nat → Nat} (t : Nat) (h : ∀ j, (f j).testBit t = true → (g j).testBit t = true) : ∀ k, cntB f t k ≤ cntB g t k
  | 0 => Nat.le_refl _
  | k + 1 => by
    have h1 := cntB_mono t h k
    have h2 := h k
    unfold cntB
    by_cases hf : (f k).testBit t = true
    · rw [if_pos hf, if_pos (h2 hf)]; omega
    · rw [if_neg hf]; split <;> omega
theorem cntB_zero {f : Nat → Nat} (t : Nat) (h : ∀ j, (f j).testBit t = false) : ∀ k, cntB f t k = 0
  | 0 => rfl
  | k + 1 => by unfold cntB; rw [cntB_zero t h k, h k]; rfl
theorem dif_self : ∀ a, a < 64 → dif a a = 0 := by decide +kernel
theorem popc_zero : popc 0 = 0 := by decide
theorem dif_zero : ∀ a, a < 64 → ∀ b, b < 64 → (∀ t, t < 6 → a.testBit t = true → b.testBit t = true) → dif a b = 0 := by decide +kernel

theorem keepTo_bit (l : List (Int × Int)) (j t : Nat) : (keepTo l j).testBit t = l.any fun p => p.1.toNat == j && p.2.toNat == t := by
  induction l using snocInd with
  | h0 => simp [keepTo]
  | hs l x ih =>
    rw [keepTo_snoc, List.any_append]
    unfold upd
    by_cases hj : j = x.1.toNat
    · subst hj
      rw [if_pos rfl, Nat.testBit_or, ih, Nat.testBit_two_pow]
      simp
      rfl
    · rw [if_neg hj, ih]
      simp [Ne.symm hj]
theorem keepTo_in {S : Swap} (hS : Valid S) (j t : Nat) (h : (keepTo S.keeps j).testBit t = true) : j < S.boxes.length ∧ (maskOf (S.boxes.getD j [])).testBit t = true := by
  rw [keepTo_bit, List.any_eq_true] at h
  obtain ⟨x, hx, he⟩ := h
  obtain ⟨i, hi, rfl⟩ := List.getElem_of_mem hx
  obtain ⟨k1, k2, k3⟩ := hS.keep i hi
  simp only [Bool.and_eq_true, beq_iff_eq] at he
  rw [he.1] at k3
  refine ⟨by omega, ?_⟩
  rw [maskOf_bit, List.any_eq_true]
  exact ⟨_, k3, by simp [he.2]⟩
theorem openKeeps_lt {S : Swap} (hS : Valid S) (j : Nat) : keepTo S.keeps j < 64 := by
  have := keepTo_lt hS S.keeps.length (Nat.le_refl _) j
  rwa [List.take_length] at this

/-- the titles that lie in the first boxes now fit -/
theorem fits_now {S : Swap} (hS : Valid S) (k : Nat) (hk : k ≤ S.boxes.length) : FitsTo (openV S) (nowTo S k) k := by
  constructor
  · intro j hj
    have e1 : nowTo S k j = maskOf (S.boxes.getD j []) := nowTo_of hj
    have e2 : (openV S).now j = maskOf (S.boxes.getD j []) := nowTo_of (by omega)
    constructor
    · rw [e1, e2, dif_self _ (maskOf_box hS j), popc_zero]
      exact hS.ch.1
    · rw [e1]
      refine dif_zero _ (openKeeps_lt hS j) _ (maskOf_box hS j) ?_
      intro t _ h
      exact (keepTo_in hS j t h).2
  · intro t ht
    show _ ≤ (openV S).copies t
    simp only [openV, copiesTo]
    by_cases hT : t < S.stock.length
    · rw [if_pos hT, getD_of_lt _ _ _ hT]
      have h1 := (hS.st t hT).1
      have h2 : cntB (nowTo S k) t 3 ≤ cntB (nowTo S S.boxes.length) t 3 := by
        refine cntB_mono t ?_ 3
        intro j h
        by_cases hj : j < k
        · rw [nowTo_of hj] at h; rw [nowTo_of (by omega)]; exact h
        · rw [nowTo_not hj] at h; simp at h
      omega
    · rw [if_neg hT, cntB_zero]
      · exact Int.le_refl _
      · intro j
        by_cases hj : j < k
        · rw [nowTo_of hj]; exact mask_no_bit (box_rises hS j) t (by omega)
        · rw [nowTo_not hj]; simp

theorem plans_now {S : Swap} (hS : Valid S) : ∀ d k, k + d = S.boxes.length → nowTo S S.boxes.length ∈ plansL (openV S) d (nowTo S k) k
  | 0, k, h => by
    obtain rfl : k = S.boxes.length := by omega
    exact List.mem_singleton.2 rfl
  | d + 1, k, h => by
    unfold plansL
    rw [List.mem_flatMap]
    refine ⟨maskOf (S.boxes.getD k []), List.mem_range.2 (mask_pow (box_rises hS k)), ?_⟩
    have hp : popc (maskOf (S.boxes.getD k [])) = ((openV S).S.boxes.getD k []).length := (mask_box (S := S) _ S.stock.length 0 hS.stock (box_rises hS k)).1
    have hf := fits_now hS (k + 1) (by omega)
    rw [← nowTo_succ, if_pos ⟨hp, bP_t hf⟩]
    exact plans_now hS d (k + 1) (by omega)
theorem now_mem {S : Swap} (hS : Valid S) : nowTo S S.boxes.length ∈ allP (openV S) := by
  have := plans_now hS S.boxes.length 0 (by omega)
  rwa [nowTo_zero] at this
theorem sum_now {S : Swap} (hS : Valid S) : ∀ k, k ≤ S.boxes.length → sumTo (openV S) (nowTo S S.boxes.length) k = earnsTo S S.boxes k
  | 0, _ => rfl
  | k + 1, h => by
    unfold sumTo earnsTo
    rw [sum_now hS k (by omega), nowTo_of (by omega)]
    have h1 := (mask_box (S := S) _ S.stock.length k hS.stock (box_rises hS k)).2
    have h2 : (openV S).S.earn.length = S.stock.length := hS.earn
    rw [h2]
    exact congrArg _ h1
theorem all_now {S : Swap} (hS : Valid S) : ∀ k, k ≤ S.boxes.length → allTo (openV S) (nowTo S S.boxes.length) k = 0
  | 0, _ => rfl
  | k + 1, h => by
    unfold allTo
    have e2 : (openV S).now k = nowTo S S.boxes.length k := rfl
    rw [all_now hS k (by omega), e2, dif_self _ (nowTo_lt hS _ _), popc_zero]
theorem few_now {S : Swap} (hS : Valid S) : fewOf (openV S) (earnsAll S S.boxes) (allP (openV S)) = 0 :=
  few_zero _ _ _ _ (now_mem hS) (by rw [show (openV S).S.boxes.length = S.boxes.length from rfl, sum_now hS _ (Nat.le_refl _)]; exact Int.le_refl _) (all_now hS _ (Nat.le_refl _))
theorem earnsAll_bd {S : Swap} (hS : Valid S) : 0 ≤ earnsAll S S.boxes ∧ earnsAll S S.boxes ≤ 99999 := by
  have := sumTo_bd (openV_ok hS) (nowTo S S.boxes.length) S.boxes.length
  rw [sum_now hS _ (Nat.le_refl _)] at this
  have := hS.boxes
  unfold earnsAll
  omega
end Go.Proofs.Ytpgjkmjejpfkmaa
