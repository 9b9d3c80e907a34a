/- Good plans and choices: each good plan has a choice that costs no more, each choice is a good plan. Plain. -/
import Derived.Test.YtkcilgjkdiopnaaPa3
namespace Go.Proofs.Ytkcilgjkdiopnaa
open Go.RowKit

/-- the set of those k < n for which p is true -/
def maskP (p : Nat → Bool) : Nat → Nat
  | 0 => 0
  | k + 1 => if p k = true then maskP p k ||| 2 ^ k else maskP p k
theorem maskP_lt (p : Nat → Bool) : ∀ k, maskP p k < 2 ^ k
  | 0 => by simp [maskP]
  | k + 1 => by
    have h := maskP_lt p k
    have h2 : 2 ^ (k + 1) = 2 ^ k + 2 ^ k := by rw [Nat.pow_succ]; omega
    simp only [maskP]
    split
    · exact Nat.or_lt_two_pow (by omega) (by rw [h2]; have := Nat.two_pow_pos k; omega)
    · omega
theorem maskP_bit (p : Nat → Bool) : ∀ k j, j < k → (maskP p k).testBit j = p j
  | 0, j, h => by omega
  | k + 1, j, h => by
    simp only [maskP]
    by_cases e : j = k
    · subst e
      split
      · next hp => rw [bit_or.1, hp]
      · next hp => rw [bit_high (maskP_lt p j) (Nat.le_refl j)]; simpa using hp
    · split
      · rw [bit_or.2 j (by omega)]; exact maskP_bit p k j (by omega)
      · exact maskP_bit p k j (by omega)

/-- the weeks in which a plan replaces the needle -/
def needM (l : List Wk) : Nat := maskP (fun k => decide ((wkAt l k).needle = 1)) l.length
/-- the weeks in which it replaces record i -/
def recM (l : List Wk) (i : Nat) : Nat := maskP (fun k => decide ((i : Int) ∈ (wkAt l k).recs)) l.length
theorem needM_bit (l : List Wk) {k : Nat} (h : k < l.length) : (needM l).testBit k = decide ((wkAt l k).needle = 1) := maskP_bit _ _ k h
theorem recM_bit (l : List Wk) (i : Nat) {k : Nat} (h : k < l.length) : (recM l i).testBit k = decide ((i : Int) ∈ (wkAt l k).recs) := maskP_bit _ _ k h

theorem ageTo_sum (X : Wr) (wk : Nat) (a : Int) : ∀ n, ageTo X wk a n = a + sumWk X wk n
  | 0 => by simp [ageTo, sumWk]
  | n + 1 => by simp only [ageTo, sumWk, ageTo_sum X wk a n]; omega
theorem want_ageB {X : Wr} {l : List Wk} {N n : Nat} (hN : ∀ k, k < n → N.testBit k = decide ((wkAt l k).needle = 1)) : ∀ k, k ≤ n → wantTo X l k = ageB X N k
  | 0, _ => rfl
  | k + 1, h => by
    rw [wantTo, ageB, ageTo_sum, want_ageB hN k (by omega), hN k (by omega)]
    congr 1
    by_cases e : (wkAt l k).needle = 1 <;> simp [e]
theorem run_worn {X : Wr} (hX : ValidW X) {l : List Wk} (hP : PlanOK X l) {N n : Nat} {S : Nat → Nat} (hN : ∀ k, k < n → N.testBit k = decide ((wkAt l k).needle = 1)) (hS : ∀ i k, k < n → (S i).testBit k = decide ((i : Int) ∈ (wkAt l k).recs)) {i : Nat} (hi : i < X.recs.length) :
    ∀ k, k ≤ n → (runTo X l k).worn i = wornS (recW X i).worn (fun k => grd X N k i) (S i) k
  | 0, _ => rfl
  | k + 1, h => by
    have ih := run_worn hX hP hN hS hi k (by omega)
    rw [runTo, weekW, worn_playsTo, if_pos hi, worn_rep X i _ _ (wk_pos hP k), age_rep, newW_worn, ih, wornS, hS i k (by omega)]
    have hage : (newW X (wkAt l k) (runTo X l k)).age = begA X N k := by
      unfold newW begA
      rw [hN k (by omega)]
      by_cases e : (wkAt l k).needle = 1
      · simp [e]
      · simp only [e, if_false, decide_false, Bool.false_eq_true]
        rw [age_run, want_ageB hN k (by omega)]
    rw [hage]
    congr 1
    · by_cases e : (i : Int) ∈ (wkAt l k).recs <;> simp [e]
    · unfold grd
      rw [ageTo_sum]

/-- prices of records, replaced in the first n weeks of sets -/
def costS (X : Wr) (S : Nat → Nat) (n : Nat) : Nat → Int
  | 0 => 0
  | i + 1 => costS X S n i + popTo (S i) n * (recW X i).price
theorem costS_zero (X : Wr) (S : Nat → Nat) : ∀ m, costS X S 0 m = 0
  | 0 => rfl
  | m + 1 => by simp only [costS, costS_zero X S m, popTo]; simp
theorem costS_succ (X : Wr) (S : Nat → Nat) (k : Nat) (rs : List Int) (hS : ∀ i, (S i).testBit k = decide ((i : Int) ∈ rs)) : ∀ m, costS X S (k + 1) m = costS X S k m + sumIn X rs (-1) m
  | 0 => by simp [costS, sumIn]
  | m + 1 => by
    simp only [costS, sumIn, costS_succ X S k rs hS m, popTo_succ, hS m]
    have hm : ¬((m : Int) = -1) := by omega
    by_cases e : (m : Int) ∈ rs
    · simp only [e, decide_true, if_true, or_true]
      rw [Int.natCast_add, Int.add_mul]
      simp
      omega
    · simp only [e, hm, decide_false, Bool.false_eq_true, if_false, or_self, Nat.add_zero]
      omega
theorem plan_cost {X : Wr} {l : List Wk} (hP : PlanOK X l) {N : Nat} {S : Nat → Nat} : ∀ k, k ≤ l.length → (∀ j, j < k → N.testBit j = decide ((wkAt l j).needle = 1)) → (∀ i j, j < k → (S i).testBit j = decide ((i : Int) ∈ (wkAt l j).recs)) →
    costPl X l k = popTo N k * X.price + costS X S k X.recs.length
  | 0, _, _, _ => by simp [costPl, popTo, costS_zero]
  | k + 1, h, hN, hS => by
    have ih := plan_cost hP k (by omega) (fun j hj => hN j (by omega)) (fun i j hj => hS i j (by omega))
    have hw := week_ok hP (show k < l.length by omega)
    rw [costPl, ih, costS_succ X S k _ (fun i => hS i k (by omega)), popTo_succ, hN k (by omega), sumPr_rises X X.recs.length _ hw.1]
    rcases (show (wkAt l k).needle = 0 ∨ (wkAt l k).needle = 1 by have := hw.2; omega) with e | e
    · simp [e]; omega
    · simp only [e, decide_true, if_true]
      rw [Int.natCast_add, Int.add_mul]
      simp
      omega
theorem plan_needles {X : Wr} {l : List Wk} (hP : PlanOK X l) {N : Nat} : ∀ k, k ≤ l.length → (∀ j, j < k → N.testBit j = decide ((wkAt l j).needle = 1)) → cntN l k = popTo N k
  | 0, _, _ => rfl
  | k + 1, h, hN => by
    have hw := week_ok hP (show k < l.length by omega)
    rw [cntN, plan_needles hP k (by omega) (fun j hj => hN j (by omega)), popTo_succ, hN k (by omega)]
    rcases (show (wkAt l k).needle = 0 ∨ (wkAt l k).needle = 1 by have := hw.2; omega) with e | e
    · simp [e]
    · simp [e]
/-- the box with all prices 1, but for the needle's -/
def oneR (r : Rec) : Rec := { r with price := 1 }
def oneX (X : Wr) : Wr := { X with price := 0, recs := X.recs.map oneR }
theorem one_price (X : Wr) {i : Nat} (h : i < X.recs.length) : (recW (oneX X) i).price = 1 := by
  unfold recW oneX
  simp [List.getD, h, oneR]
theorem one_sum (X : Wr) : ∀ rs : List Int, (∀ n ∈ rs, 0 ≤ n ∧ n < X.recs.length) → sumPr (oneX X) rs = rs.length
  | [], _ => rfl
  | a :: r, h => by
    rw [sumPr, one_sum X r (fun n hn => h n (List.mem_cons_of_mem _ hn)), one_price X (by have := h a (List.mem_cons_self ..); omega)]
    simp
    omega
theorem cntR_cost {X : Wr} (hX : ValidW X) {l : List Wk} (hP : PlanOK X l) : ∀ k, cntR l k = costPl (oneX X) l k
  | 0 => rfl
  | k + 1 => by
    rw [cntR, costPl, cntR_cost hX hP k, one_sum X _ (wk_small hX hP k).2.2.2]
    simp [oneX]
theorem one_plan {X : Wr} {l : List Wk} (hP : PlanOK X l) : PlanOK (oneX X) l := by
  refine ⟨hP.1, fun x hx => ?_⟩
  have h1 := hP.2 x hx
  have h2 : (oneX X).recs.length = X.recs.length := by simp [oneX]
  rw [h2]
  exact h1
theorem plan_records {X : Wr} (hX : ValidW X) {l : List Wk} (hP : PlanOK X l) {N : Nat} {S : Nat → Nat} (k : Nat) (hk : k ≤ l.length) (hN : ∀ j, j < k → N.testBit j = decide ((wkAt l j).needle = 1)) (hS : ∀ i j, j < k → (S i).testBit j = decide ((i : Int) ∈ (wkAt l j).recs)) :
    cntR l k = costS (oneX X) S k X.recs.length := by
  have h2 : (oneX X).recs.length = X.recs.length := by simp [oneX]
  rw [cntR_cost hX hP, plan_cost (one_plan hP) (S := S) k hk hN hS, h2]
  simp [oneX]
theorem cost_le_S {X : Wr} {c : Ch} {S : Nat → Nat} {n : Nat} (hp : ∀ i, 0 ≤ (recW X i).price) : ∀ m, (∀ i, i < m → popc (c.records.getD i 0) ≤ popTo (S i) n) → costTo X c m ≤ costS X S n m
  | 0, _ => Int.le_refl _
  | m + 1, h => by
    have h1 := cost_le_S (c := c) (S := S) (n := n) hp m (fun i hi => h i (by omega))
    have h2 : (popc (c.records.getD m 0) : Int) * (recW X m).price ≤ popTo (S m) n * (recW X m).price := Int.mul_le_mul_of_nonneg_right (by have := h m (by omega); omega) (hp m)
    simp only [costTo, costS]
    omega
theorem repl_one (X : Wr) (c : Ch) : ∀ m, m ≤ X.recs.length → replTo c m = costTo (oneX X) c m
  | 0, _ => rfl
  | m + 1, h => by
    simp only [replTo, costTo, repl_one X c m (by omega), one_price X (show m < X.recs.length by omega)]
    omega
theorem one_pos (X : Wr) (i : Nat) : 0 ≤ (recW (oneX X) i).price := by
  by_cases h : i < X.recs.length
  · rw [one_price X h]; decide
  · unfold recW oneX
    rw [List.getD, List.getElem?_eq_none (by simp; omega)]
    decide

/-- records are chosen one by one -/
theorem recsTo_mk {X : Wr} {N n : Nat} {f : Nat → Nat} : ∀ i, (∀ j, j < i → lateW (recW X j).limit (recW X j).worn (fun k => grd X N k j) n = some (f j)) → recsTo X N n i = some ((List.range i).map f)
  | 0, _ => rfl
  | i + 1, h => by
    simp only [recsTo, recsTo_mk i (fun j hj => h j (by omega)), h i (by omega)]
    rw [List.range_succ, List.map_append]
    rfl
theorem recsTo_get {X : Wr} {N n : Nat} : ∀ i l, recsTo X N n i = some l → ∀ j, j < i → lateW (recW X j).limit (recW X j).worn (fun k => grd X N k j) n = some (l.getD j 0)
  | 0, l, h, j, hj => by omega
  | i + 1, l, h, j, hj => by
    simp only [recsTo] at h
    split at h
    · next l' x h1 h2 =>
      simp only [Option.some.injEq] at h
      subst h
      have hl := recsTo_len i l' h1
      simp only [List.getD_eq_getElem?_getD]
      by_cases e : j < i
      · rw [List.getElem?_append_left (by omega)]
        have := recsTo_get i l' h1 j e
        simpa only [List.getD_eq_getElem?_getD] using this
      · obtain rfl : j = i := by omega
        rw [List.getElem?_append_right (by omega), hl, Nat.sub_self]
        exact h2
    · cases h
theorem grd_pos {X : Wr} (hX : ValidW X) (N k i : Nat) : 0 ≤ grd X N k i := (grd_bd hX N k i).1

/-- each good plan has a choice that replaces no more -/
theorem each_choice {X : Wr} (hX : ValidW X) {l : List Wk} (hP : PlanOK X l) (hg : firstBad X l < 0) :
    ∃ c ∈ choicesW X l.length, popc c.needles = popTo (needM l) l.length ∧ c.records.length = X.recs.length ∧ ∀ i, i < X.recs.length → popc (c.records.getD i 0) ≤ popTo (recM l i) l.length := by
  have hn6 : l.length ≤ 6 := by have := hP.1; have := hX.weeks; omega
  have hgs : ∀ i, i < X.recs.length → GoodS (recW X i).limit (recW X i).worn (fun k => grd X (needM l) k i) (recM l i) l.length := fun i hi k hk => by
    have := firstBad_neg.1 hg k hk i hi
    rwa [run_worn hX hP (n := l.length) (N := needM l) (S := recM l) (fun k hk => needM_bit l hk) (fun i k hk => recM_bit l i hk) hi (k + 1) (by omega)] at this
  have hb : ∀ i, ∃ x, i < X.recs.length → lateW (recW X i).limit (recW X i).worn (fun k => grd X (needM l) k i) l.length = some x ∧ popc x ≤ popTo (recM l i) l.length := fun i => by
    by_cases hi : i < X.recs.length
    · obtain ⟨x, h1, h2⟩ := lateW_best hn6 (rec_bd hX i).2.2.1 (fun k => grd_pos hX _ k i) (hgs i hi)
      exact ⟨x, fun _ => ⟨h1, h2⟩⟩
    · exact ⟨0, fun h => absurd h hi⟩
  obtain ⟨f, hf⟩ := Classical.axiomOfChoice hb
  have hr := recsTo_mk (X := X) (N := needM l) (n := l.length) (f := f) X.recs.length (fun j hj => (hf j hj).1)
  refine ⟨⟨needM l, (List.range X.recs.length).map f⟩, List.mem_filterMap.2 ⟨needM l, List.mem_range.2 (maskP_lt _ _), by unfold chooseW; rw [hr]; rfl⟩, popc_popTo hn6 (maskP_lt _ _), by simp, fun i hi => ?_⟩
  have : ((List.range X.recs.length).map f).getD i 0 = f i := by simp [List.getD, hi]
  rw [this]
  exact (hf i hi).2
theorem each_law {X : Wr} (hX : ValidW X) {l : List Wk} (hP : PlanOK X l) (hg : firstBad X l < 0) :
    ∃ c ∈ choicesW X X.weeks.toNat, allW X c X.price ≤ costPl X l l.length ∧ (popc c.needles : Int) ≤ cntN l l.length ∧ replW c ≤ cntR l l.length := by
  obtain ⟨c, hc, h1, h2, h3⟩ := each_choice hX hP hg
  have hlen : l.length = X.weeks.toNat := by have := hP.1; omega
  rw [hlen] at hc
  have hN : ∀ k, k < l.length → (needM l).testBit k = decide ((wkAt l k).needle = 1) := fun k hk => needM_bit l hk
  have hS : ∀ i k, k < l.length → (recM l i).testBit k = decide ((i : Int) ∈ (wkAt l k).recs) := fun i k hk => recM_bit l i hk
  refine ⟨c, hc, ?_, ?_, ?_⟩
  · rw [plan_cost hP l.length (Nat.le_refl _) hN hS]
    unfold allW
    rw [h2, h1]
    have := cost_le_S (c := c) (S := recM l) (n := l.length) (fun i => (rec_bd hX i).1) X.recs.length h3
    omega
  · rw [plan_needles hP l.length (Nat.le_refl _) hN, h1]
    exact Int.le_refl _
  · rw [plan_records hX hP l.length (Nat.le_refl _) hN hS]
    unfold replW
    rw [h2, repl_one X c _ (Nat.le_refl _)]
    exact cost_le_S (one_pos X) X.recs.length h3

theorem plan_bits {X : Wr} (c : Ch) {k : Nat} (hk : k < X.weeks.toNat) :
    c.needles.testBit k = decide ((wkAt (planOf X c) k).needle = 1) ∧ ∀ i, i < X.recs.length → (c.records.getD i 0).testBit k = decide ((i : Int) ∈ (wkAt (planOf X c) k).recs) := by
  rw [planOf_wk X c hk]
  constructor
  · simp only [needBit]
    by_cases e : c.needles.testBit k = true
    · simp [e]
    · simp [e]
  · intro i hi
    have := idxTo_mem c k (i : Int) X.recs.length
    rw [Int.toNat_natCast] at this
    by_cases e : (c.records.getD i 0).testBit k = true
    · rw [e]; symm; rw [decide_eq_true_eq]; exact this.2 ⟨by omega, by omega, e⟩
    · have hn : ¬((i : Int) ∈ idxTo c k X.recs.length) := fun h => e (this.1 h).2.2
      simp [hn]
      simpa using e
/-- each choice is a good plan -/
theorem plan_law {X : Wr} (hX : ValidW X) {c : Ch} (hc : c ∈ choicesW X X.weeks.toNat) : firstBad X (planOf X c) < 0 ∧ costPl X (planOf X c) (planOf X c).length = allW X c X.price := by
  obtain ⟨hlt, hch⟩ := choice_lt hc
  have hn6 : X.weeks.toNat ≤ 6 := by have := hX.weeks; omega
  unfold chooseW at hch
  obtain ⟨rl, hrl, hce⟩ := Option.map_eq_some_iff.1 hch
  have hrec : c.records = rl := by rw [← hce]
  have hlen : c.records.length = X.recs.length := by rw [hrec]; exact recsTo_len _ _ hrl
  have hget := recsTo_get _ _ hrl
  rw [← hrec] at hget
  have hpl := planOf_len X c
  -- the sets: those of records beyond are empty
  let S : Nat → Nat := fun i => if i < X.recs.length then c.records.getD i 0 else recM (planOf X c) i
  have hN : ∀ k, k < X.weeks.toNat → c.needles.testBit k = decide ((wkAt (planOf X c) k).needle = 1) := fun k hk => (plan_bits c hk).1
  have hS : ∀ i k, k < X.weeks.toNat → (S i).testBit k = decide ((i : Int) ∈ (wkAt (planOf X c) k).recs) := fun i k hk => by
    show (if i < X.recs.length then c.records.getD i 0 else recM (planOf X c) i).testBit k = _
    split
    · next hi => exact (plan_bits c hk).2 i hi
    · exact recM_bit _ _ (by rw [hpl]; exact hk)
  have hP := planOf_ok hX c
  constructor
  · rw [firstBad_neg]
    intro k hk i hi
    rw [hpl] at hk
    rw [run_worn hX hP (n := X.weeks.toNat) (N := c.needles) (S := S) hN hS hi (k + 1) (by omega)]
    have h1 := lateW_good hn6 (hget i hi)
    have : S i = c.records.getD i 0 := if_pos hi
    rw [this]
    exact h1.2.1 k hk
  · rw [hpl, plan_cost hP (N := c.needles) (S := S) X.weeks.toNat (by rw [hpl]; exact Nat.le_refl _) hN hS]
    unfold allW
    rw [hlen, ← popc_popTo hn6 hlt]
    have hcs : ∀ m, m ≤ X.recs.length → costS X S X.weeks.toNat m = costTo X c m := by
      intro m
      induction m with
      | zero => intro _; rfl
      | succ m ih =>
        intro hm
        have h1 := lateW_good hn6 (hget m (by omega))
        have : S m = c.records.getD m 0 := if_pos (by omega)
        simp only [costS, costTo, ih (by omega), this, h1.2.2]
    rw [hcs _ (Nat.le_refl _)]
    omega
end Go.Proofs.Ytkcilgjkdiopnaa
