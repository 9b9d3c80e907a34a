
/- Charts: how many titles are in Top and May. -/
import Derived.Test.YtaoamnhchidjfaaDoorC6c
namespace Go.Proofs.YtaoamnhchidjfaaDoor
open Go.RowKit

theorem mem_pickN {f : Nat → Bool} {k : Nat} {x : Int} : x ∈ pickTo f k ↔ ∃ i : Nat, i < k ∧ f i = true ∧ x = i := by
  unfold pickTo
  simp only [List.mem_map, List.mem_filter, List.mem_range]
  constructor
  · rintro ⟨i, ⟨h1, h2⟩, rfl⟩; exact ⟨i, h1, h2, rfl⟩
  · rintro ⟨i, h1, h2, rfl⟩; exact ⟨i, ⟨h1, h2⟩, rfl⟩
theorem inL_pick {f : Nat → Bool} {k i : Nat} (h : i < k) : inL (pickTo f k) (i : Int) = f i := by
  rw [Bool.eq_iff_iff, inL_iff, mem_pickN]
  constructor
  · rintro ⟨j, -, h2, e⟩
    have : i = j := by omega
    rw [this]; exact h2
  · exact fun h2 => ⟨i, h, h2, rfl⟩
/-- just k titles have one of the first k ranks -/
theorem first_count (n : Nat) (x : Nat → Int) {k : Nat} (hk : k ≤ n) : (List.range n).countP (fun i => decide (rnk n x i ≤ k)) = k := by
  rw [List.countP_eq_length_filter]
  apply Nat.le_antisymm
  · have h := nodup_len (((List.range n).filter fun i => decide (rnk n x i ≤ k)).map (rnk n x)) (List.range' 1 k) ?_ ?_
    · simpa using h
    · rw [List.nodup_iff_pairwise_ne, List.pairwise_map]
      refine List.Pairwise.imp_of_mem ?_ (List.Pairwise.filter _ List.nodup_range)
      intro a b ha hb hne e
      have ha' := List.mem_range.1 (List.mem_filter.1 ha).1
      have hb' := List.mem_range.1 (List.mem_filter.1 hb).1
      exact hne (rnk_inj ha' hb' e)
    · intro r hr
      obtain ⟨i, hi, rfl⟩ := List.mem_map.1 hr
      have h1 := (List.mem_filter.1 hi).2
      have h2 := rnk_pos n x i
      simp only [decide_eq_true_eq] at h1
      rw [List.mem_range'_1]
      omega
  · have h := nodup_len (List.range' 1 k) (((List.range n).filter fun i => decide (rnk n x i ≤ k)).map (rnk n x)) List.nodup_range' ?_
    · simpa using h
    · intro r hr
      rw [List.mem_range'_1] at hr
      obtain ⟨i, hi, e⟩ := rnk_at (n := n) x hr.1 (by omega)
      refine List.mem_map.2 ⟨i, List.mem_filter.2 ⟨List.mem_range.2 hi, ?_⟩, e⟩
      simp only [decide_eq_true_eq]
      omega
theorem top_may {T : Tab} (hT : TabOK T) (f : Int) : ∀ x ∈ topL T f, x ∈ mayL T f := by
  intro x hx
  obtain ⟨i, hi, h, rfl⟩ := mem_pickN.1 hx
  have := (rk_le hT hi).2.1
  exact mem_pickN.2 ⟨i, hi, by simp only [topF, mayF, decide_eq_true_eq] at h ⊢; omega, rfl⟩
theorem top_more {T : Tab} {f g : Int} (h : f ≤ g) : ∀ x ∈ topL T f, x ∈ topL T g := by
  intro x hx
  obtain ⟨i, hi, h, rfl⟩ := mem_pickN.1 hx
  exact mem_pickN.2 ⟨i, hi, by simp only [topF, decide_eq_true_eq] at h ⊢; omega, rfl⟩
theorem may_more {T : Tab} {f g : Int} (h : f ≤ g) : ∀ x ∈ mayL T f, x ∈ mayL T g := by
  intro x hx
  obtain ⟨i, hi, h, rfl⟩ := mem_pickN.1 hx
  exact mem_pickN.2 ⟨i, hi, by simp only [mayF, decide_eq_true_eq] at h ⊢; omega, rfl⟩
theorem pick_le {f g : Nat → Bool} {k : Nat} (h : ∀ i, i < k → f i = true → g i = true) : (pickTo f k).length ≤ (pickTo g k).length := by
  rw [pick_len, pick_len]
  exact countP_le_of _ fun i hi => h i (List.mem_range.1 hi)
theorem sub_len {f g : Nat → Bool} {k : Nat} (h : ∀ x ∈ pickTo f k, x ∈ pickTo g k) : (pickTo f k).length ≤ (pickTo g k).length :=
  pick_le fun i hi hf => by
    obtain ⟨j, -, hg, e⟩ := mem_pickN.1 (h _ (mem_pickN.2 ⟨i, hi, hf, rfl⟩))
    have : i = j := by omega
    rw [this]; exact hg
theorem pick_max {f : Nat → Bool} {k : Nat} : (pickTo f k).length ≤ k := by
  rw [pick_len]
  exact Nat.le_trans List.countP_le_length (by simp)
theorem top_few {T : Tab} (hT : TabOK T) {k : Nat} (hk : k ≤ T.length) : (topL T k).length ≤ k := by
  have h := first_count T.length (loT T) hk
  unfold topL
  rw [pick_len]
  refine Nat.le_trans (countP_le_of _ fun i hi ht => ?_) (Nat.le_of_eq h)
  have := (rk_bounds hT (List.mem_range.1 hi) (tru_lo hT)).2
  simp only [topF, decide_eq_true_eq] at ht ⊢
  omega
theorem may_many {T : Tab} (hT : TabOK T) {k : Nat} (hk : k ≤ T.length) : k ≤ (mayL T k).length := by
  have h := first_count T.length (loT T) hk
  unfold mayL
  rw [pick_len]
  refine Nat.le_trans (Nat.le_of_eq h.symm) (countP_le_of _ fun i hi ht => ?_)
  have := (rk_bounds hT (List.mem_range.1 hi) (tru_lo hT)).1
  simp only [mayF, decide_eq_true_eq] at ht ⊢
  omega
theorem top_all {T : Tab} (hT : TabOK T) : (topL T T.length).length = T.length := by
  unfold topL
  rw [pick_len]
  have : (List.range T.length).countP (topF T T.length) = (List.range T.length).length := List.countP_eq_length.2 fun i hi => by
    have := (rk_le hT (List.mem_range.1 hi)).2.2
    simp only [topF, decide_eq_true_eq]
    omega
  rw [this, List.length_range]
end Go.Proofs.YtaoamnhchidjfaaDoor
