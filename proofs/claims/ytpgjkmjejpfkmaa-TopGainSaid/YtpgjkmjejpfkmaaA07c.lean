/- The plain law of Always, and of a plan that fits. -/
import Derived.Test.YtpgjkmjejpfkmaaA07b
namespace Go.Proofs.Ytpgjkmjejpfkmaa
open Go.RowKit

theorem alw_sub {V : Visit} {m : Int} (c : Nat → Nat) (L : List (Nat → Nat)) : ∀ q ∈ L, sumTo V q V.S.boxes.length = m → ∀ j t, (alwOf V m c L j).testBit t = true → (q j).testBit t = true := by
  induction L using snocInd with
  | h0 => simp
  | hs l x ih =>
    intro q hq hs j t ht
    rw [alwOf_snoc] at ht
    unfold alwStep at ht
    rcases List.mem_append.1 hq with h | h
    · refine ih q h hs j t ?_
      split at ht
      · rw [Nat.testBit_and] at ht
        simp only [Bool.and_eq_true] at ht
        exact ht.1
      · exact ht
    · rw [List.mem_singleton.1 h] at hs ⊢
      rw [if_pos hs, Nat.testBit_and] at ht
      simp only [Bool.and_eq_true] at ht
      exact ht.2

theorem mem_lstTo (m n : Nat) (x : Int) : x ∈ lstTo m n ↔ ∃ t : Nat, t < n ∧ m.testBit t = true ∧ x = t := by
  unfold lstTo
  simp only [List.mem_map, List.mem_filter, List.mem_range]
  constructor
  · rintro ⟨t, ⟨h1, h2⟩, rfl⟩; exact ⟨t, h1, h2, rfl⟩
  · rintro ⟨t, h1, h2, rfl⟩; exact ⟨t, ⟨h1, h2⟩, rfl⟩
theorem mem_alwTo (f : Nat → Nat) (n : Nat) (p : Int × Int) : p ∈ alwTo f n ↔ ∃ b t : Nat, b < n ∧ t < 6 ∧ (f b).testBit t = true ∧ p = ((b : Int), (t : Int)) := by
  unfold alwTo
  simp only [List.mem_flatMap, List.mem_map, List.mem_range]
  constructor
  · rintro ⟨b, hb, x, hx, rfl⟩
    obtain ⟨t, h1, h2, rfl⟩ := (mem_lstTo _ _ _).1 hx
    exact ⟨b, t, hb, h1, h2, rfl⟩
  · rintro ⟨b, t, hb, h1, h2, rfl⟩
    exact ⟨b, hb, _, (mem_lstTo _ _ _).2 ⟨t, h1, h2, rfl⟩, rfl⟩

/-- the titles of Always are in each best plan -/
theorem alw_in {S : Swap} (hS : Valid S) {L : List (List Int)} (hL : IsPlan S L) (hf : FitP S L) (hb : earnsAll S L = bestN (openV S)) (i : Nat) (hi : i < (alwL S).length) :
    0 ≤ (alwL S)[i].1 ∧ (alwL S)[i].1 < S.boxes.length ∧ (alwL S)[i].2 ∈ L.getD (alwL S)[i].1.toNat [] := by
  obtain ⟨b, t, h1, h2, h3, h4⟩ := (mem_alwTo _ _ _).1 (List.getElem_mem hi)
  have hsum : sumTo (openV S) (planTo L L.length) S.boxes.length = bestN (openV S) := by
    rw [← hL.1, plan_sum hS hL _ (Nat.le_refl _), ← hb]; rfl
  have := alw_sub (V := openV S) (bestOf (openV S) (allP (openV S))).2 (allP (openV S)) _ ((plan_mem hS hL).2 hf) hsum b t h3
  rw [planTo_of (by have := hL.1; omega), maskOf_mem (hL.titles.getD b).mem] at this
  rw [h4]
  refine ⟨by omega, by simpa using h1, ?_⟩
  simpa using this
theorem alwL_len (S : Swap) (hb : S.boxes.length ≤ 3) : (alwL S).length ≤ 18 := by
  have := alwTo_len (alwF S) S.boxes.length
  unfold alwL
  omega

theorem fit_boxes {S : Swap} (hS : Valid S) : IsPlan S S.boxes ∧ FitP S S.boxes := by
  have hp : IsPlan S S.boxes := ⟨rfl, fun i h => ⟨by rw [getD_of_lt _ _ _ h], (hS.box i h).2⟩⟩
  refine ⟨hp, (fits_iff hS hp).1 ?_⟩
  rw [planTo_now]
  exact fits_now hS _ (Nat.le_refl _)
theorem fitsV_plan {S : Swap} (hS : Valid S) {L : List (List Int)} (hL : IsPlan S L) : fitsV S L = .tuple #[.bool (bP (FitP S L)), .int .i64 0] := by
  unfold fitsV
  rw [if_pos (bP_t hS), if_pos (bP_t hL)]
  have : bP (FitsTo (openV S) (planTo L L.length) S.boxes.length) = bP (FitP S L) := by
    by_cases h : FitP S L
    · rw [bP_t h, bP_t ((fits_iff hS hL).2 h)]
    · rw [bP_f h, bP_f (fun k => h ((fits_iff hS hL).1 k))]
  rw [this]
theorem plan_facts {S : Swap} (hS : Valid S) {L : List (List Int)} (hL : IsPlan S L) (hf : FitP S L) : 0 ≤ earnsAll S L ∧ earnsAll S L ≤ bestN (openV S) ∧ bestN (openV S) ≤ 17982 ∧
    0 ≤ fewOf (openV S) (earnsAll S L) (allP (openV S)) ∧ fewOf (openV S) (earnsAll S L) (allP (openV S)) ≤ chAll S.boxes L := by
  have hO := openV_ok hS
  have hm := (plan_mem hS hL).2 hf
  have hs : sumTo (openV S) (planTo L L.length) (openV S).S.boxes.length = earnsAll S L := by
    show sumTo (openV S) (planTo L L.length) S.boxes.length = earnsAll S L
    rw [← hL.1, plan_sum hS hL _ (Nat.le_refl _)]; rfl
  have ha : allTo (openV S) (planTo L L.length) (openV S).S.boxes.length = chAll S.boxes L := by
    show allTo (openV S) (planTo L L.length) S.boxes.length = chAll S.boxes L
    rw [← hL.1, plan_all hS hL _ (Nat.le_refl _)]; rfl
  have h1 := sumTo_bd hO (planTo L L.length) (openV S).S.boxes.length
  have h2 := best_ge hO _ _ hm
  have h3 := bestOf_bd hO (allP (openV S))
  rw [hs] at h1 h2
  refine ⟨h1.1, h2, h3.2, ?_⟩
  rcases few_spec (openV S) (earnsAll S L) (allP (openV S)) with ⟨k1, k2⟩ | ⟨q, hq, k1, k2, k3⟩
  · exact absurd (by rw [hs]; exact Int.le_refl _) (k2 _ hm)
  · have := k3 _ hm (by rw [hs]; exact Int.le_refl _)
    rw [ha] at this
    omega
theorem fewV_plan {S : Swap} (hS : Valid S) {L : List (List Int)} (hL : IsPlan S L) (hf : FitP S L) : fewV S (earnsAll S L) = .tuple #[.int .i64 (fewOf (openV S) (earnsAll S L) (allP (openV S))), .int .i64 0] := by
  obtain ⟨h1, h2, h3, h4, -⟩ := plan_facts hS hL hf
  unfold fewV
  rw [if_pos (bP_t hS), if_pos (bP_t ⟨h1, by omega⟩), if_neg (by rw [bP_iff]; omega)]
end Go.Proofs.Ytpgjkmjejpfkmaa
