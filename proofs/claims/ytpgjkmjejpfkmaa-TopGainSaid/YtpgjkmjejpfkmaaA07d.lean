/- The plain law of the best plan. -/
import Derived.Test.YtpgjkmjejpfkmaaA07c
namespace Go.Proofs.Ytpgjkmjejpfkmaa
open Go.RowKit

def risesB (l : List Int) (hi : Int) : Bool := l.all (fun t => decide (0 ≤ t) && decide (t ≤ hi)) && (l.zip l.tail).all fun p => decide (p.1 < p.2)
theorem rises_of_B {l : List Int} {hi : Int} (h : risesB l hi = true) : Rises l 0 hi := by
  unfold risesB at h
  simp only [Bool.and_eq_true, List.all_eq_true, decide_eq_true_eq] at h
  refine ⟨fun i hi => h.1 _ (List.getElem_mem hi), fun i hi => ?_⟩
  have hz : i < (l.zip l.tail).length := by simp; omega
  have := h.2 _ (List.getElem_mem hz)
  simpa using this
theorem lst_rises : ∀ T : Nat, T ≤ 6 → ∀ m, m < 2 ^ T → risesB (lstOf m) ((T : Int) - 1) = true := by
  have h : ∀ T : Nat, T < 7 → ∀ m, m < 2 ^ T → risesB (lstOf m) ((T : Int) - 1) = true := by decide +kernel
  exact fun T hT => h T (by omega)
theorem lst_len : ∀ m, m < 64 → (lstOf m).length = popc m := by decide +kernel
theorem lst_mask : ∀ m, m < 64 → maskOf (lstOf m) = m := by decide +kernel

theorem lstP_get (f : Nat → Nat) (n i : Nat) (h : i < n) : (lstP f n).getD i [] = lstOf (f i) := by
  rw [getD_of_lt _ _ _ (by rw [lstP_len]; exact h)]
  simp [lstP]
theorem lstP_plan {S : Swap} (hS : Valid S) {f : Nat → Nat} (h : PlanF (openV S) f) : IsPlan S (lstP f S.boxes.length) ∧ planTo (lstP f S.boxes.length) (lstP f S.boxes.length).length = f := by
  have h64 := planF_lt h hS.stock
  constructor
  · refine ⟨lstP_len _ _, fun i hi => ?_⟩
    have hi' : i < S.boxes.length := by rwa [lstP_len] at hi
    have hg := lstP_get f S.boxes.length i hi'
    rw [getD_of_lt _ _ _ hi] at hg
    obtain ⟨b1, b2⟩ := h.box i hi'
    rw [hg]
    refine ⟨by rw [lst_len _ (h64 i)]; exact b2, rises_of_B (lst_rises S.stock.length hS.stock _ b1)⟩
  · funext j
    rw [lstP_len]
    by_cases hj : j < S.boxes.length
    · rw [planTo_of hj, lstP_get f _ j hj, lst_mask _ (h64 j)]
    · rw [planTo_not hj, h.rest j (by show S.boxes.length ≤ j; omega)]

/-- the plan that Plan returns -/
noncomputable def bestP (S : Swap) : List (List Int) := lstP (bestOf (openV S) (allP (openV S))).2 S.boxes.length
theorem best_plan {S : Swap} (hS : Valid S) : IsPlan S (bestP S) ∧ FitP S (bestP S) ∧ earnsAll S (bestP S) = bestN (openV S) ∧ sumTo (openV S) (planTo (bestP S) (bestP S).length) S.boxes.length = bestN (openV S) := by
  have hO := openV_ok hS
  have hne : allP (openV S) ≠ [] := by
    intro h
    have := now_mem hS
    rw [h] at this
    simp at this
  obtain ⟨h1, h2⟩ := best_val (V := openV S) (allP (openV S)) hne hO
  obtain ⟨k1, k2⟩ := lstP_plan hS ((mem_allP hO _).1 h1)
  have hs : sumTo (openV S) (planTo (bestP S) (bestP S).length) S.boxes.length = bestN (openV S) := by
    unfold bestP
    rw [k2]
    exact h2.symm
  refine ⟨k1, (plan_mem hS k1).1 (by rw [k2]; exact h1), ?_, hs⟩
  have k3 : (bestP S).length = S.boxes.length := lstP_len _ _
  have := plan_sum hS (show IsPlan S (bestP S) from k1) _ (Nat.le_refl _)
  rw [k3, ← k3] at this
  unfold earnsAll
  rw [← this, k3]
  rw [k3] at hs
  exact hs

/-- the order of keeps -/
def ltK (a b : Int × Int) : Prop := a.1 < b.1 ∨ (a.1 = b.1 ∧ a.2 < b.2)
theorem lstTo_sorted (m : Nat) : ∀ n, (lstTo m n).Pairwise (· < ·)
  | 0 => by simp [lstTo]
  | n + 1 => by
    rw [lstTo_succ, List.pairwise_append]
    refine ⟨lstTo_sorted m n, by split <;> simp, ?_⟩
    intro a ha b hb
    obtain ⟨t, h1, -, rfl⟩ := (mem_lstTo _ _ _).1 ha
    split at hb
    · rw [List.mem_singleton.1 hb]; omega
    · simp at hb
theorem alwTo_sorted (f : Nat → Nat) : ∀ n, (alwTo f n).Pairwise ltK
  | 0 => by simp [alwTo]
  | n + 1 => by
    rw [alwTo_succ, List.pairwise_append]
    refine ⟨alwTo_sorted f n, ?_, ?_⟩
    · rw [List.pairwise_map]
      exact (lstTo_sorted (f n) 6).imp fun h => Or.inr ⟨rfl, h⟩
    · intro a ha b hb
      obtain ⟨b1, t1, h1, -, -, rfl⟩ := (mem_alwTo _ _ _).1 ha
      obtain ⟨t2, -, rfl⟩ := List.mem_map.1 hb
      exact Or.inl (by show (b1 : Int) < n; omega)
theorem alwL_sorted (S : Swap) (i : Nat) (hi : i + 1 < (alwL S).length) : ltK (alwL S)[i] (alwL S)[i + 1] :=
  List.pairwise_iff_getElem.1 (alwTo_sorted (alwF S) S.boxes.length) i (i + 1) (by unfold alwL at hi; omega) hi (by omega)
end Go.Proofs.Ytpgjkmjejpfkmaa
