/- What one more replacement does to a plan. Plain law. -/
import Derived.Test.YtkcilgjkdiopnaaCp8
namespace Go.Proofs.Ytkcilgjkdiopnaa
open Go.RowKit

theorem roughW_mono {X : Wr} (hX : ValidW X) {a b : Int} (ha : 0 ≤ a) (hab : a ≤ b) : roughW X a ≤ roughW X b := by
  rw [roughW_eq hX ha, roughW_eq hX (by omega)]
  have hs := hX.step
  have hd : a / X.step ≤ b / X.step := Int.ediv_le_ediv (by omega) hab
  have h0 : 0 ≤ a / X.step := Int.ediv_nonneg ha (by omega)
  have hi : roughI X a ≤ roughI X b := by unfold roughI; omega
  have hl := roughI_lt hX (a := b) (by omega)
  have key : ∀ n i (h : i + n < X.rough.length), X.rough[i]'(by omega) ≤ X.rough[i + n] := by
    intro n
    induction n with
    | zero => intro i h; exact Int.le_refl _
    | succ n ih =>
      intro i h
      have h1 := ih i (by omega)
      have h2 := hX.up (i + n) (by omega)
      simp only [show i + (n + 1) = i + n + 1 from by omega]
      omega
  have h5 := key (roughI X b - roughI X a) (roughI X a) (by omega)
  simp only [show roughI X a + (roughI X b - roughI X a) = roughI X b from by omega] at h5
  exact h5
theorem grindW_mono {X : Wr} (hX : ValidW X) {a b : Int} (ha : 0 ≤ a) (hab : a ≤ b) : ∀ n, grindW X a n ≤ grindW X b n
  | 0 => Int.le_refl _
  | n + 1 => by
    have := grindW_mono hX ha hab n
    have := roughW_mono hX (a := a + n) (b := b + n) (by omega) (by omega)
    simp only [grindW]
    omega

/-- the prices of some records -/
def sumPr (X : Wr) : List Int → Int
  | [] => 0
  | n :: r => (recW X n.toNat).price + sumPr X r
theorem sumPr_snoc (X : Wr) (l : List Int) (n : Int) : sumPr X (l ++ [n]) = sumPr X l + (recW X n.toNat).price := by
  induction l with
  | nil => simp [sumPr]
  | cons a r ih => rw [List.cons_append, sumPr, ih, sumPr]; omega
theorem cost_rep (X : Wr) (l : List Int) (s : St) : (l.foldl (repW X) s).cost = s.cost + sumPr X l := by
  induction l generalizing s with
  | nil => simp [sumPr]
  | cons a r ih => rw [List.foldl_cons, ih, sumPr]; simp only [repW]; omega
theorem cost_playsTo (X : Wr) (wk : Nat) (s : St) : ∀ n, (playsTo X wk s n).cost = s.cost
  | 0 => rfl
  | n + 1 => by rw [playsTo_succ]; exact cost_playsTo X wk s n
/-- the prices of those records below n that lie in a list, or are one number -/
def sumIn (X : Wr) (rs : List Int) (what : Int) : Nat → Int
  | 0 => 0
  | i + 1 => sumIn X rs what i + if (i : Int) = what ∨ (i : Int) ∈ rs then (recW X i).price else 0
theorem sumPr_addTo (X : Wr) (rs : List Int) (what : Int) : ∀ n, sumPr X (addTo rs what n) = sumIn X rs what n
  | 0 => rfl
  | n + 1 => by
    rw [addTo, sumIn]
    split
    · rw [sumPr_snoc, sumPr_addTo X rs what n, Int.toNat_natCast]
    · rw [sumPr_addTo X rs what n]; omega
theorem sumIn_cons (X : Wr) (a : Int) (r : List Int) (h : a ∉ r) (ha : 0 ≤ a) : ∀ n, sumIn X (a :: r) (-1) n = sumIn X r (-1) n + if a < n then (recW X a.toNat).price else 0
  | 0 => by simp only [sumIn]; rw [if_neg (by omega)]; omega
  | n + 1 => by
    have ih := sumIn_cons X a r h ha n
    have hn1 : ¬(n : Int) = -1 := by omega
    have hc1 : ((n : Int) = -1 ∨ (n : Int) ∈ a :: r) ↔ ((n : Int) = a ∨ (n : Int) ∈ r) := by
      rw [List.mem_cons]
      exact ⟨fun h => h.elim (fun h => absurd h hn1) (fun h => h), Or.inr⟩
    have hc2 : ((n : Int) = -1 ∨ (n : Int) ∈ r) ↔ (n : Int) ∈ r := ⟨fun h => h.elim (fun h => absurd h hn1) (fun h => h), Or.inr⟩
    simp only [sumIn, ih, hc1, hc2]
    by_cases e : (n : Int) = a
    · subst e
      rw [if_neg (by omega), if_pos (Or.inl rfl), if_neg h, if_pos (by omega), Int.toNat_natCast]
    · have hc3 : ((n : Int) = a ∨ (n : Int) ∈ r) ↔ (n : Int) ∈ r := ⟨fun h => h.elim (fun h => absurd h e) (fun h => h), Or.inr⟩
      simp only [hc3]
      by_cases e3 : a < (n : Int)
      · rw [if_pos e3, if_pos (show a < ((n + 1 : Nat) : Int) by omega)]; omega
      · rw [if_neg e3, if_neg (show ¬a < ((n + 1 : Nat) : Int) by omega)]; omega
theorem Rises.tail {a : Int} {r : List Int} {lo hi : Int} (h : Rises (a :: r) lo hi) : Rises r lo hi ∧ (∀ x ∈ r, a < x) ∧ lo ≤ a ∧ a ≤ hi := by
  refine ⟨⟨fun i hi' => h.1 (i + 1) (by simpa using hi'), fun i hi' => h.2 (i + 1) (by simpa using hi')⟩, fun x hx => ?_, h.1 0 (by simp)⟩
  obtain ⟨i, hi', rfl⟩ := List.getElem_of_mem hx
  induction i with
  | zero => exact h.2 0 (by simpa using hi')
  | succ j ih =>
    have h1 := ih (by omega) (List.getElem_mem _)
    have h2 : r[j] < r[j + 1] := h.2 (j + 1) (by simpa using hi')
    omega
theorem sumPr_rises (X : Wr) (n : Nat) (rs : List Int) (h : Rises rs 0 ((n : Int) - 1)) : sumPr X rs = sumIn X rs (-1) n := by
  induction rs with
  | nil =>
    have : ∀ m : Nat, sumIn X [] (-1) m = 0 := by
      intro m
      induction m with
      | zero => rfl
      | succ m ih => rw [sumIn, ih, if_neg (by rintro (h1 | h1); omega; cases h1)]; omega
    rw [this n]
    rfl
  | cons a r ih =>
    obtain ⟨h1, h2, h3, h4⟩ := h.tail
    rw [sumPr, ih h1, sumIn_cons X a r (fun hm => by have := h2 a hm; omega) h3, if_pos (by omega)]
    omega
theorem sumIn_mono {X : Wr} (hX : ValidW X) (rs : List Int) (what : Int) : ∀ n, sumIn X rs (-1) n ≤ sumIn X rs what n
  | 0 => Int.le_refl _
  | n + 1 => by
    have ih := sumIn_mono hX rs what n
    have hb := (rec_bd hX n).2.2
    have hb2 : 0 ≤ (recW X n).price := (rec_bd hX n).1
    simp only [sumIn]
    by_cases e : (n : Int) ∈ rs
    · rw [if_pos (Or.inr e), if_pos (Or.inr e)]; omega
    · rw [if_neg (by rintro (h1 | h1); omega; exact e h1)]
      split <;> omega

/-- a state that is worn no more, and has cost no less -/
structure LeSt (s' s : St) : Prop where
  age : 0 ≤ s'.age ∧ s'.age ≤ s.age
  worn : ∀ i, s'.worn i ≤ s.worn i
  cost : s.cost ≤ s'.cost
/-- a week in which nothing less is replaced -/
structure GeWk (X : Wr) (p' p : Wk) : Prop where
  needle : p.needle = 1 → p'.needle = 1
  recs : ∀ n ∈ p.recs, n ∈ p'.recs
  pos : ∀ n ∈ p'.recs, 0 ≤ n
  cost : sumPr X p.recs ≤ sumPr X p'.recs
theorem GeWk.refl (X : Wr) (p : Wk) (h : ∀ n ∈ p.recs, 0 ≤ n) : GeWk X p p := ⟨fun h => h, fun _ h => h, h, Int.le_refl _⟩
theorem le_week {X : Wr} (hX : ValidW X) {s' s : St} (wk : Nat) {p' p : Wk} (h : LeSt s' s) (hw : ∀ i, 0 ≤ s.worn i) (hp : GeWk X p' p) : LeSt (weekW X s' wk p') (weekW X s wk p) := by
  have hpr : 0 ≤ X.price := hX.price.1
  have hna : 0 ≤ (newW X p' s').age ∧ (newW X p' s').age ≤ (newW X p s).age := by
    unfold newW
    by_cases e : p'.needle = 1
    · rw [if_pos e]
      refine ⟨Int.le_refl _, ?_⟩
      split
      · exact Int.le_refl _
      · have := h.age; show (0 : Int) ≤ s.age; omega
    · rw [if_neg e, if_neg (fun h1 => e (hp.needle h1))]
      exact h.age
  have hnc : (newW X p s).cost ≤ (newW X p' s').cost := by
    have := h.cost
    unfold newW
    by_cases e : p.needle = 1
    · rw [if_pos e, if_pos (hp.needle e)]
      show s.cost + X.price ≤ s'.cost + X.price
      omega
    · rw [if_neg e]
      split
      · show s.cost ≤ s'.cost + X.price; omega
      · exact this
  refine ⟨?_, fun i => ?_, ?_⟩
  · unfold weekW
    rw [age_playsTo, age_playsTo, age_rep, age_rep]
    have := (sumWk_bd hX wk X.recs.length).1
    omega
  · unfold weekW
    rw [worn_playsTo, worn_playsTo, age_rep, age_rep, worn_rep X i _ _ hp.pos, worn_rep X i _ _ (fun n hn => hp.pos n (hp.recs n hn)), newW_worn, newW_worn]
    have hgm := grindW_mono hX (a := (newW X p' s').age + sumWk X wk i) (b := (newW X p s).age + sumWk X wk i) (by have := (sumWk_bd hX wk i).1; omega) (by omega) (playsW X wk i).toNat
    have hwi := h.worn i
    have hwp := hw i
    by_cases e : (i : Int) ∈ p'.recs
    · rw [if_pos e]
      by_cases e2 : (i : Int) ∈ p.recs
      · rw [if_pos e2]; split <;> omega
      · rw [if_neg e2]; split <;> omega
    · rw [if_neg e, if_neg (fun h1 => e (hp.recs _ h1))]
      split <;> omega
  · unfold weekW
    rw [cost_playsTo, cost_playsTo, cost_rep, cost_rep]
    have := hp.cost
    omega
theorem worn_pos {X : Wr} (hX : ValidW X) {l : List Wk} (hP : PlanOK X l) : ∀ k i, 0 ≤ (runTo X l k).worn i ∧ 0 ≤ (runTo X l k).age
  | 0, i => ⟨by
      show 0 ≤ (recW X i).worn
      by_cases h : i < X.recs.length
      · rw [recW_eq h]; exact (hX.rc i h).worn.1
      · have : recW X i = noRec := by simp [recW, List.getD, List.getElem?_eq_none (by omega : X.recs.length ≤ i)]
        rw [this]; exact Int.le_refl _, hX.age.1⟩
  | k + 1, i => by
    have ih := worn_pos hX hP k
    have hag : 0 ≤ (runTo X l (k + 1)).age := by rw [age_run]; exact (wantTo_bd hX l (k + 1)).1
    have hna : 0 ≤ (newW X (wkAt l k) (runTo X l k)).age := by
      unfold newW
      split
      · exact Int.le_refl _
      · exact (ih 0).2
    refine ⟨?_, hag⟩
    rw [runTo, weekW, worn_playsTo, worn_rep X i _ _ (wk_pos hP k), newW_worn, age_rep]
    have h1 := (ih i).1
    have h2 := (grindW_bd hX (a := (newW X (wkAt l k) (runTo X l k)).age + sumWk X k i) (by have := (sumWk_bd hX k i).1; omega) (playsW X k i).toNat).1
    split <;> split <;> omega
theorem le_run {X : Wr} (hX : ValidW X) {l l' : List Wk} (hP : PlanOK X l) (h : ∀ k, GeWk X (wkAt l' k) (wkAt l k)) : ∀ k, LeSt (runTo X l' k) (runTo X l k)
  | 0 => ⟨⟨hX.age.1, Int.le_refl _⟩, fun _ => Int.le_refl _, Int.le_refl _⟩
  | k + 1 => le_week hX k (le_run hX hP h k) (fun i => (worn_pos hX hP k i).1) (h k)

theorem addTo_mem (rs : List Int) (what x : Int) : ∀ n, x ∈ addTo rs what n ↔ (0 ≤ x ∧ x < n) ∧ (x = what ∨ x ∈ rs)
  | 0 => by simp only [addTo, List.not_mem_nil, false_iff]; omega
  | n + 1 => by
    have ih := addTo_mem rs what x n
    rw [addTo]
    split
    · next h =>
      rw [List.mem_append, ih, List.mem_singleton]
      constructor
      · rintro (⟨h1, h2⟩ | rfl)
        · exact ⟨by omega, h2⟩
        · exact ⟨by omega, h⟩
      · rintro ⟨h1, h2⟩
        by_cases e : x = n
        · exact Or.inr e
        · exact Or.inl ⟨by omega, h2⟩
    · next h =>
      rw [ih]
      constructor
      · rintro ⟨h1, h2⟩; exact ⟨by omega, h2⟩
      · rintro ⟨h1, h2⟩
        refine ⟨⟨h1.1, ?_⟩, h2⟩
        apply Classical.byContradiction
        intro hn
        have e : x = n := by omega
        rw [e] at h2
        exact h h2
theorem Rises.put {l : List Int} {lo hi m : Int} (h : Rises l lo hi) (h1 : lo ≤ m) (h2 : m ≤ hi) (h3 : ∀ x ∈ l, x < m) : Rises (l ++ [m]) lo hi := by
  refine ⟨fun i hi' => ?_, fun i hi' => ?_⟩
  · rw [List.length_append, List.length_singleton] at hi'
    by_cases e : i < l.length
    · rw [List.getElem_append_left e]; exact h.1 i e
    · obtain rfl : i = l.length := by omega
      simp; exact ⟨h1, h2⟩
  · rw [List.length_append, List.length_singleton] at hi'
    by_cases e : i + 1 < l.length
    · rw [List.getElem_append_left e, List.getElem_append_left (by omega)]; exact h.2 i e
    · obtain e2 : i + 1 = l.length := by omega
      rw [List.getElem_append_left (by omega : i < l.length)]
      simp only [e2]
      simp
      exact h3 _ (List.getElem_mem _)
theorem addTo_rises (rs : List Int) (what hi : Int) : ∀ n : Nat, (n : Int) - 1 ≤ hi → Rises (addTo rs what n) 0 hi
  | 0, _ => Rises.nil _ _
  | n + 1, h => by
    have ih := addTo_rises rs what hi n (by omega)
    rw [addTo]
    split
    · exact ih.put (by omega) (by omega) (fun x hx => by have := (addTo_mem rs what x n).1 hx; omega)
    · exact ih

theorem with_wk {X : Wr} {l : List Wk} (week what : Int) (k : Nat) : wkAt (withL X.recs.length l week what) k = wkAt l k ∨
    (k < l.length ∧ what < 0 ∧ wkAt (withL X.recs.length l week what) k = ⟨1, (wkAt l k).recs⟩) ∨ (k < l.length ∧ ¬what < 0 ∧ wkAt (withL X.recs.length l week what) k = ⟨(wkAt l k).needle, addTo (wkAt l k).recs what X.recs.length⟩) := by
  unfold withL
  by_cases hw : 0 ≤ week ∧ week < l.length
  · rw [if_pos hw]
    obtain ⟨j, rfl⟩ : ∃ j : Nat, week = j := ⟨week.toNat, by omega⟩
    rw [Int.toNat_natCast]
    have hj : j < l.length := by omega
    have hset : ∀ x : Wk, wkAt (l.set j x) k = if k = j then x else wkAt l k := by
      intro x
      unfold wkAt
      simp only [List.getD_eq_getElem?_getD, List.getElem?_set]
      by_cases e : k = j
      · subst e; simp [hj]
      · rw [if_neg (fun e2 => e e2.symm), if_neg e]
    by_cases hwh : what < 0
    · rw [if_pos hwh, hset]
      by_cases e : k = j
      · subst e; rw [if_pos rfl]; exact Or.inr (Or.inl ⟨hj, hwh, rfl⟩)
      · rw [if_neg e]; exact Or.inl rfl
    · rw [if_neg hwh, hset]
      by_cases e : k = j
      · subst e; rw [if_pos rfl]; exact Or.inr (Or.inr ⟨hj, hwh, rfl⟩)
      · rw [if_neg e]; exact Or.inl rfl
  · rw [if_neg hw]; exact Or.inl rfl
theorem week_ok {X : Wr} {l : List Wk} (hP : PlanOK X l) {k : Nat} (h : k < l.length) : WeekOK X.recs.length (wkAt l k) := by rw [wkAt_eq h]; exact hP.2 _ (List.getElem_mem h)
theorem with_ok {X : Wr} {l : List Wk} (hP : PlanOK X l) (week what : Int) : PlanOK X (withL X.recs.length l week what) := by
  refine ⟨by rw [withL_len]; exact hP.1, fun x hx => ?_⟩
  obtain ⟨k, hk, rfl⟩ := List.getElem_of_mem hx
  have hkl : k < l.length := by rwa [withL_len] at hk
  have ho := week_ok hP hkl
  rw [← wkAt_eq hk]
  rcases with_wk (X := X) (l := l) week what k with h | ⟨-, -, h⟩ | ⟨-, -, h⟩
  · rw [h]; exact ho
  · rw [h]; exact ⟨ho.1, by simp, by simp⟩
  · rw [h]; exact ⟨addTo_rises _ _ _ _ (Int.le_refl _), ho.2⟩
theorem with_ge {X : Wr} (hX : ValidW X) {l : List Wk} (hP : PlanOK X l) (week what : Int) (k : Nat) : GeWk X (wkAt (withL X.recs.length l week what) k) (wkAt l k) := by
  rcases with_wk (X := X) (l := l) week what k with h | ⟨-, -, h⟩ | ⟨hk, -, h⟩
  · rw [h]; exact GeWk.refl X _ (wk_pos hP k)
  · rw [h]; exact ⟨fun _ => rfl, fun _ h => h, wk_pos hP k, Int.le_refl _⟩
  · rw [h]
    have ho := (week_ok hP hk).1
    refine ⟨fun h => h, fun n hn => ?_, fun n hn => ?_, ?_⟩
    · refine (addTo_mem _ _ _ _).2 ⟨?_, Or.inr hn⟩
      obtain ⟨i, hi, rfl⟩ := List.getElem_of_mem hn
      have := ho.1 i hi
      omega
    · exact ((addTo_mem _ _ _ _).1 hn).1.1
    · show sumPr X (wkAt l k).recs ≤ sumPr X (addTo (wkAt l k).recs what X.recs.length)
      rw [sumPr_rises X X.recs.length _ ho, sumPr_addTo]
      exact sumIn_mono hX _ _ _
theorem firstBad_neg {X : Wr} {l : List Wk} : firstBad X l < 0 ↔ ∀ k, k < l.length → ∀ i, i < X.recs.length → (runTo X l (k + 1)).worn i ≤ (recW X i).limit := by
  unfold firstBad
  cases h : (List.range l.length).find? (badAt X l) with
  | none =>
    have h2 := List.find?_eq_none.1 h
    refine ⟨fun _ k hk i hi => ?_, fun _ => by simp only; omega⟩
    have := h2 k (List.mem_range.2 hk)
    simp [badAt] at this
    exact this i hi
  | some k =>
    have h1 := List.find?_some h
    have h2 := List.mem_range.1 (List.mem_of_find?_eq_some h)
    simp only
    refine ⟨fun h => by omega, fun hall => ?_⟩
    simp [badAt] at h1
    obtain ⟨i, hi, hb⟩ := h1
    have := hall k h2 i hi
    omega
theorem good_mono {X : Wr} {l l' : List Wk} (hl : l'.length = l.length) (h : ∀ k, LeSt (runTo X l' k) (runTo X l k)) (hg : firstBad X l < 0) : firstBad X l' < 0 := by
  rw [firstBad_neg] at hg ⊢
  intro k hk i hi
  have := hg k (by omega) i hi
  have := (h (k + 1)).worn i
  omega
end Go.Proofs.Ytkcilgjkdiopnaa
