/- The least cost: of other prices, and of fewer weeks. Plain law. -/
import Derived.Test.YtkcilgjkdiopnaaE03e
import Derived.Test.YtkcilgjkdiopnaaW3q
import Derived.Test.YtkcilgjkdiopnaaW3t
namespace Go.Proofs.Ytkcilgjkdiopnaa
open Go.RowKit

/-! the least of a list -/
def minOf (f : Ch → Int) (l : List Ch) : Option Int := (leastL f l).map f
theorem leastL_spec (f : Ch → Int) : ∀ (l : List Ch) (b : Option Ch), (∀ c, l.foldl (leastS f) b = some c → (c ∈ l ∨ b = some c) ∧ (∀ d ∈ l, f c ≤ f d) ∧ ∀ d, b = some d → f c ≤ f d)
  | [], b, c, h => ⟨Or.inr h, by simp, fun d hd => by rw [List.foldl_nil] at h; rw [h] at hd; cases hd; exact Int.le_refl _⟩
  | x :: r, b, c, h => by
    rw [List.foldl_cons] at h
    obtain ⟨h1, h2, h3⟩ := leastL_spec f r (leastS f b x) c h
    cases hb : b with
    | none =>
      rw [hb] at h1 h3
      simp only [leastS] at h1 h3
      refine ⟨Or.inl ?_, fun d hd => ?_, fun d hd => by cases hd⟩
      · rcases h1 with h1 | h1
        · exact List.mem_cons_of_mem _ h1
        · cases h1; exact List.mem_cons_self
      · rcases List.mem_cons.1 hd with rfl | hd
        · exact h3 _ rfl
        · exact h2 d hd
    | some y =>
      rw [hb] at h1 h3
      simp only [leastS] at h1 h3
      by_cases e : f x < f y
      · rw [if_pos e] at h1 h3
        refine ⟨Or.inl ?_, fun d hd => ?_, fun d hd => ?_⟩
        · rcases h1 with h1 | h1
          · exact List.mem_cons_of_mem _ h1
          · cases h1; exact List.mem_cons_self
        · rcases List.mem_cons.1 hd with rfl | hd
          · exact h3 _ rfl
          · exact h2 d hd
        · cases hd; have := h3 _ rfl; omega
      · rw [if_neg e] at h1 h3
        refine ⟨?_, fun d hd => ?_, fun d hd => ?_⟩
        · rcases h1 with h1 | h1
          · exact Or.inl (List.mem_cons_of_mem _ h1)
          · exact Or.inr h1
        · rcases List.mem_cons.1 hd with rfl | hd
          · have := h3 _ rfl; omega
          · exact h2 d hd
        · cases hd; exact h3 _ rfl
theorem minOf_none {f : Ch → Int} {l : List Ch} : minOf f l = none ↔ l = [] := by
  unfold minOf
  rw [Option.map_eq_none_iff, leastL_none]
theorem minOf_some {f : Ch → Int} {l : List Ch} {m : Int} (h : minOf f l = some m) : (∃ c ∈ l, f c = m) ∧ ∀ d ∈ l, m ≤ f d := by
  unfold minOf at h
  obtain ⟨c, hc, rfl⟩ := Option.map_eq_some_iff.1 h
  obtain ⟨h1, h2, -⟩ := leastL_spec f l none c hc
  exact ⟨⟨c, (h1.elim (fun h => h) (fun h => by cases h)), rfl⟩, h2⟩
theorem minOf_ex {f : Ch → Int} {l : List Ch} (h : l ≠ []) : ∃ m, minOf f l = some m := by
  cases hm : minOf f l with
  | none => exact absurd (minOf_none.1 hm) h
  | some m => exact ⟨m, rfl⟩
theorem minOf_eq {f : Ch → Int} {l : List Ch} {m : Int} (h1 : ∃ c ∈ l, f c = m) (h2 : ∀ d ∈ l, m ≤ f d) : minOf f l = some m := by
  obtain ⟨c, hc, hm⟩ := h1
  obtain ⟨m', hm'⟩ := minOf_ex (f := f) (List.ne_nil_of_mem hc)
  obtain ⟨⟨c', hc', e⟩, h3⟩ := minOf_some hm'
  have := h2 c' hc'
  have := h3 c hc
  rw [hm', show m' = m from by omega]

/-- the least cost of the first weeks -/
def costOf (X : Wr) (long : Nat) : Option Int := minOf (fun c => allW X c X.price) (choicesW X long)
theorem cheap_costOf (X : Wr) : cheapV X = match costOf X X.weeks.toNat with
    | some m => .tuple #[.int .i64 m, .int .i64 0]
    | none => .tuple #[.int .i64 0, .int .i64 3] := by
  unfold cheapV costOf minOf bestW
  cases leastL (fun c => allW X c X.price) (choicesW X X.weeks.toNat) <;> rfl
theorem enough_costOf (X : Wr) (b : Int) (long : Nat) : enoughB X b long = true ↔ ∃ m, costOf X long = some m ∧ m ≤ b := by
  unfold enoughB costOf minOf bestTo
  cases leastL (fun c => allW X c X.price) (choicesW X long) with
  | none => simp
  | some c => simp
theorem costOf_bd {X : Wr} (hX : ValidW X) {m : Int} (h : costOf X X.weeks.toNat = some m) : 0 ≤ m ∧ m ≤ 30000 := by
  obtain ⟨⟨c, hc, rfl⟩, -⟩ := minOf_some h
  exact allW_bd hX (choices_ok hX (by have := hX.weeks; omega) hc) hX.price

/-! boxes that wear alike in the first weeks -/
structure Alike (k : Nat) (X Y : Wr) : Prop where
  age : X.age = Y.age
  step : X.step = Y.step
  rough : X.rough = Y.rough
  len : X.recs.length = Y.recs.length
  worn : ∀ i, (recW X i).worn = (recW Y i).worn
  limit : ∀ i, (recW X i).limit = (recW Y i).limit
  plays : ∀ j i, j < k → playsW X j i = playsW Y j i
theorem Alike.rw' {k : Nat} {X Y : Wr} (h : Alike k X Y) (a : Int) : roughW X a = roughW Y a := by
  unfold roughW roughI
  rw [h.step, h.rough]
theorem Alike.gr {k : Nat} {X Y : Wr} (h : Alike k X Y) (a : Int) : ∀ n, grindW X a n = grindW Y a n
  | 0 => rfl
  | n + 1 => by simp only [grindW, h.gr a n, h.rw']
theorem Alike.ageTo {k : Nat} {X Y : Wr} (h : Alike k X Y) {j : Nat} (hj : j < k) (a : Int) : ∀ i, ageTo X j a i = Proofs.Ytkcilgjkdiopnaa.ageTo Y j a i
  | 0 => rfl
  | i + 1 => by simp only [Proofs.Ytkcilgjkdiopnaa.ageTo, h.ageTo hj a i, h.plays j i hj]
theorem Alike.ageB {k : Nat} {X Y : Wr} (h : Alike k X Y) (N : Nat) : ∀ j, j ≤ k → ageB X N j = Proofs.Ytkcilgjkdiopnaa.ageB Y N j
  | 0, _ => h.age
  | j + 1, hj => by simp only [Proofs.Ytkcilgjkdiopnaa.ageB, h.ageB N j (by omega), h.ageTo (show j < k by omega), h.len]
theorem Alike.grd {k : Nat} {X Y : Wr} (h : Alike k X Y) (N i : Nat) {j : Nat} (hj : j < k) : grd X N j i = Proofs.Ytkcilgjkdiopnaa.grd Y N j i := by
  unfold Proofs.Ytkcilgjkdiopnaa.grd begA
  rw [h.ageB N j (by omega), h.ageTo hj, h.plays j i hj, h.gr]
theorem lateTo_same {lim w0 : Int} {g g' : Nat → Int} : ∀ k, (∀ j, j < k → g j = g' j) → lateTo lim w0 g k = lateTo lim w0 g' k
  | 0, _ => rfl
  | k + 1, h => by simp only [lateTo, lateTo_same k (fun j hj => h j (by omega)), h k (by omega)]
theorem Alike.recsTo {k : Nat} {X Y : Wr} (h : Alike k X Y) (N : Nat) : ∀ i, recsTo X N k i = Proofs.Ytkcilgjkdiopnaa.recsTo Y N k i
  | 0 => rfl
  | i + 1 => by
    simp only [Proofs.Ytkcilgjkdiopnaa.recsTo, h.recsTo N i, h.limit, h.worn]
    rw [show lateW (recW Y i).limit (recW Y i).worn (fun j => Proofs.Ytkcilgjkdiopnaa.grd X N j i) k = lateW (recW Y i).limit (recW Y i).worn (fun j => Proofs.Ytkcilgjkdiopnaa.grd Y N j i) k from by
      unfold lateW
      rw [lateTo_same k (fun j hj => h.grd N i hj)]]
theorem Alike.choices {k : Nat} {X Y : Wr} (h : Alike k X Y) : choicesW X k = choicesW Y k := by
  unfold choicesW chooseW
  simp only [h.recsTo, h.len]

/-! other prices -/
theorem costTo_le {X Y : Wr} (h : ∀ i, (recW X i).price ≤ (recW Y i).price) (c : Ch) : ∀ n, costTo X c n ≤ costTo Y c n
  | 0 => Int.le_refl _
  | n + 1 => by
    have h1 := costTo_le h c n
    have h2 : (popc (c.records.getD n 0) : Int) * (recW X n).price ≤ popc (c.records.getD n 0) * (recW Y n).price := Int.mul_le_mul_of_nonneg_left (h n) (by omega)
    simp only [costTo]
    omega
theorem costTo_mul {X Y : Wr} {k : Int} (h : ∀ i, (recW Y i).price = k * (recW X i).price) (c : Ch) : ∀ n, costTo Y c n = k * costTo X c n
  | 0 => by simp [costTo]
  | n + 1 => by
    simp only [costTo, costTo_mul h c n, h, Int.mul_add]
    congr 1
    rw [Int.mul_left_comm]
theorem costOf_le {X Y : Wr} {n : Nat} (hA : Alike n X Y) (hp : X.price ≤ Y.price) (h : ∀ i, (recW X i).price ≤ (recW Y i).price) : (costOf Y n = none ↔ costOf X n = none) ∧ ∀ m, costOf X n = some m → ∀ m', costOf Y n = some m' → m ≤ m' := by
  unfold costOf
  rw [minOf_none, minOf_none, hA.choices]
  refine ⟨Iff.rfl, fun m hm m' hm' => ?_⟩
  obtain ⟨⟨c, hc, rfl⟩, -⟩ := minOf_some hm'
  obtain ⟨-, h2⟩ := minOf_some hm
  have h3 := h2 c hc
  have h4 := costTo_le h c c.records.length
  have h5 : (popc c.needles : Int) * X.price ≤ popc c.needles * Y.price := Int.mul_le_mul_of_nonneg_left hp (by omega)
  unfold allW at h3 ⊢
  omega
theorem costOf_mul {X Y : Wr} {n : Nat} {k : Int} (hk : 0 ≤ k) (hA : Alike n X Y) (hp : Y.price = k * X.price) (h : ∀ i, (recW Y i).price = k * (recW X i).price) : costOf Y n = (costOf X n).map (k * ·) := by
  unfold costOf
  rw [← hA.choices]
  have hf : ∀ c, allW Y c Y.price = k * allW X c X.price := fun c => by
    unfold allW
    rw [costTo_mul h, hp, Int.mul_add, Int.mul_left_comm]
  cases hm : minOf (fun c => allW X c X.price) (choicesW X n) with
  | none =>
    rw [minOf_none] at hm
    rw [Option.map_none, minOf_none]
    exact hm
  | some m =>
    obtain ⟨⟨c, hc, e⟩, h2⟩ := minOf_some hm
    rw [Option.map_some]
    refine minOf_eq ⟨c, hc, ?_⟩ (fun d hd => ?_)
    · show allW Y c Y.price = k * m
      rw [hf, ← e]
    · show k * m ≤ allW Y d Y.price
      rw [hf]
      exact Int.mul_le_mul_of_nonneg_left (h2 d hd) hk

/-! fewer weeks -/
theorem popc_mono {s t : Nat} (h : ∀ i, s.testBit i = true → t.testBit i = true) : popc s ≤ popc t := by
  unfold popc
  generalize List.range 6 = l
  induction l with
  | nil => exact Nat.le_refl _
  | cons a r ih =>
    rw [List.filter_cons, List.filter_cons]
    by_cases e : s.testBit a = true
    · rw [if_pos e, if_pos (h a e)]; simpa using ih
    · rw [if_neg e]
      split
      · rw [List.length_cons]; omega
      · exact ih
theorem low_bits {N k j : Nat} (hj : j < k) : (N % 2 ^ k).testBit j = N.testBit j := by
  rw [Nat.testBit_mod_two_pow]; simp [hj]
theorem ageB_low (X : Wr) (N k : Nat) : ∀ j, j ≤ k → ageB X (N % 2 ^ k) j = ageB X N j
  | 0, _ => rfl
  | j + 1, hj => by simp only [ageB, ageB_low X N k j (by omega), low_bits (show j < k by omega)]
theorem grd_low (X : Wr) (N i : Nat) {k j : Nat} (hj : j < k) : grd X (N % 2 ^ k) j i = grd X N j i := by
  unfold grd begA
  rw [ageB_low X N k j (by omega), low_bits hj]
theorem lateW_low {lim w0 : Int} {g : Nat → Int} {k x : Nat} (h : lateW lim w0 g (k + 1) = some x) : ∃ y, lateW lim w0 g k = some y ∧ popc y ≤ popc x := by
  unfold lateW at h ⊢
  simp only [lateTo] at h
  cases hl : lateTo lim w0 g k with
  | none => simp [hl] at h
  | some p =>
    obtain ⟨w1, x1⟩ := p
    simp only [hl] at h
    refine ⟨x1, rfl, ?_⟩
    split at h
    · cases h
    · split at h
      · simp only [Option.map_some, Option.some.injEq] at h
        subst h
        exact popc_mono (fun i hi => by rw [Nat.testBit_or, hi]; rfl)
      · simp only [Option.map_some, Option.some.injEq] at h
        subst h
        exact Nat.le_refl _
theorem recsTo_low {X : Wr} {N k : Nat} : ∀ i l, recsTo X N (k + 1) i = some l → ∃ l', recsTo X (N % 2 ^ k) k i = some l' ∧ l'.length = l.length ∧ ∀ j, popc (l'.getD j 0) ≤ popc (l.getD j 0)
  | 0, l, h => by
    simp only [recsTo, Option.some.injEq] at h
    subst h
    exact ⟨[], rfl, rfl, fun j => Nat.le_refl _⟩
  | i + 1, l, h => by
    simp only [recsTo] at h
    cases hr : recsTo X N (k + 1) i with
    | none => simp [hr] at h
    | some l1 =>
      cases hx : lateW (recW X i).limit (recW X i).worn (fun k => grd X N k i) (k + 1) with
      | none => simp [hr, hx] at h
      | some x =>
        simp only [hr, hx, Option.some.injEq] at h
        subst h
        obtain ⟨l2, h2, h3, h4⟩ := recsTo_low i l1 hr
        obtain ⟨y, hy, hyx⟩ := lateW_low hx
        have hy2 : lateW (recW X i).limit (recW X i).worn (fun j => grd X (N % 2 ^ k) j i) k = some y := by
          rw [← hy]
          unfold lateW
          rw [lateTo_same k (fun j hj => grd_low X N i hj)]
        refine ⟨l2 ++ [y], by simp only [recsTo, h2, hy2], by simp [h3], fun j => ?_⟩
        simp only [List.getD_eq_getElem?_getD]
        by_cases e : j < l1.length
        · rw [List.getElem?_append_left (by omega), List.getElem?_append_left e]
          have := h4 j
          simpa only [List.getD_eq_getElem?_getD] using this
        · rw [List.getElem?_append_right (by omega), List.getElem?_append_right (by omega), h3]
          by_cases e2 : j - l1.length = 0
          · rw [e2]; simpa using hyx
          · rw [List.getElem?_eq_none (by simp; omega), List.getElem?_eq_none (by simp; omega)]
            exact Nat.le_refl _
theorem costTo_low {X : Wr} (hX : ValidW X) {c d : Ch} (h : ∀ j, popc (d.records.getD j 0) ≤ popc (c.records.getD j 0)) : ∀ n, costTo X d n ≤ costTo X c n
  | 0 => Int.le_refl _
  | n + 1 => by
    have h1 := costTo_low hX h n
    have h2 : (popc (d.records.getD n 0) : Int) * (recW X n).price ≤ popc (c.records.getD n 0) * (recW X n).price := Int.mul_le_mul_of_nonneg_right (by have := h n; omega) (rec_bd hX n).1
    simp only [costTo]
    omega
theorem choices_low {X : Wr} (hX : ValidW X) {k : Nat} {c : Ch} (hc : c ∈ choicesW X (k + 1)) : ∃ d ∈ choicesW X k, allW X d X.price ≤ allW X c X.price := by
  unfold choicesW at hc ⊢
  obtain ⟨N, hN, hcN⟩ := List.mem_filterMap.1 hc
  unfold chooseW at hcN
  obtain ⟨l, hl, rfl⟩ := Option.map_eq_some_iff.1 hcN
  obtain ⟨l2, h2, h3, h4⟩ := recsTo_low _ l hl
  refine ⟨⟨N % 2 ^ k, l2⟩, List.mem_filterMap.2 ⟨N % 2 ^ k, List.mem_range.2 (Nat.mod_lt _ (Nat.two_pow_pos k)), by unfold chooseW; rw [h2]; rfl⟩, ?_⟩
  have h5 := costTo_low hX (c := ⟨N, l⟩) (d := ⟨N % 2 ^ k, l2⟩) h4 l.length
  have h6 : popc (N % 2 ^ k) ≤ popc N := popc_mono (fun i hi => by
    rw [Nat.testBit_mod_two_pow] at hi
    simp at hi
    exact hi.2)
  have h7 : (popc (N % 2 ^ k) : Int) * X.price ≤ popc N * X.price := Int.mul_le_mul_of_nonneg_right (by omega) hX.price.1
  unfold allW
  simp only [h3]
  omega
theorem costOf_low {X : Wr} (hX : ValidW X) {k m : Nat} {n : Int} (hk : k ≤ m) (h : costOf X m = some n) : ∃ n', costOf X k = some n' ∧ n' ≤ n := by
  induction m generalizing n with
  | zero => obtain rfl : k = 0 := by omega
            exact ⟨n, h, Int.le_refl _⟩
  | succ m ih =>
    by_cases e : k = m + 1
    · subst e; exact ⟨n, h, Int.le_refl _⟩
    · obtain ⟨⟨c, hc, hcm⟩, -⟩ := minOf_some h
      obtain ⟨d, hd, hle⟩ := choices_low hX hc
      obtain ⟨n1, h1⟩ := minOf_ex (f := fun c => allW X c X.price) (List.ne_nil_of_mem hd)
      obtain ⟨-, h2⟩ := minOf_some h1
      have h3 := h2 d hd
      obtain ⟨n2, h4, h5⟩ := ih (by omega) h1
      exact ⟨n2, h4, by have e1 : allW X c X.price = n := hcm; have e2 : n1 ≤ allW X d X.price := h3; omega⟩
theorem costOf_zero (X : Wr) : ∃ n, costOf X 0 = some n ∧ n ≤ 0 := by
  have hr : ∀ i, ∃ l, recsTo X 0 0 i = some l ∧ ∀ j, l.getD j 0 = 0 := by
    intro i
    induction i with
    | zero => exact ⟨[], rfl, fun j => by simp⟩
    | succ i ih =>
      obtain ⟨l, hl, h0⟩ := ih
      refine ⟨l ++ [0], by simp only [recsTo, hl, lateW, lateTo, Option.map_some], fun j => ?_⟩
      have := h0 j
      simp only [List.getD_eq_getElem?_getD] at this ⊢
      by_cases e : j < l.length
      · rw [List.getElem?_append_left e]; exact this
      · rw [List.getElem?_append_right (by omega)]
        by_cases e2 : j - l.length = 0
        · rw [e2]; rfl
        · rw [List.getElem?_eq_none (by simp; omega)]; rfl
  obtain ⟨l, hl, h0⟩ := hr X.recs.length
  have hm : (⟨0, l⟩ : Ch) ∈ choicesW X 0 := List.mem_filterMap.2 ⟨0, List.mem_range.2 (by decide), by unfold chooseW; rw [hl]; rfl⟩
  obtain ⟨n, hn⟩ := minOf_ex (f := fun c => allW X c X.price) (List.ne_nil_of_mem hm)
  obtain ⟨-, h2⟩ := minOf_some hn
  refine ⟨n, hn, ?_⟩
  have h3 := h2 _ hm
  have hp0 : popc 0 = 0 := by decide
  have hz : ∀ n, costTo X ⟨0, l⟩ n = 0 := by
    intro n
    induction n with
    | zero => rfl
    | succ n ih => simp only [costTo, ih, h0, hp0]; omega
  simp only [allW, hz, hp0] at h3
  omega

/-! how many weeks a budget is enough for -/
theorem lastTo_le (X : Wr) (b : Int) : ∀ n, lastTo X b n ≤ n
  | 0 => Nat.le_refl _
  | n + 1 => by
    have := lastTo_le X b n
    simp only [lastTo]
    split <;> omega
theorem lastTo_ge (X : Wr) (b : Int) {j : Nat} (hj : enoughB X b j = true) : ∀ n, j ≤ n → j ≤ lastTo X b n
  | 0, h => h
  | n + 1, h => by
    simp only [lastTo]
    split
    · exact h
    · next hn =>
      by_cases e : j = n + 1
      · subst e; exact absurd hj hn
      · exact lastTo_ge X b hj n (by omega)
theorem lastTo_ok (X : Wr) {b : Int} (hb : 0 ≤ b) : ∀ n, enoughB X b (lastTo X b n) = true
  | 0 => by
    obtain ⟨m, h1, h2⟩ := costOf_zero X
    exact (enough_costOf X b 0).2 ⟨m, h1, by omega⟩
  | n + 1 => by
    simp only [lastTo]
    split
    · next h => exact h
    · exact lastTo_ok X hb n
theorem lastTo_mono (X : Wr) {b b' : Int} (hb : 0 ≤ b) (h : b ≤ b') (n : Nat) : lastTo X b n ≤ lastTo X b' n := by
  refine lastTo_ge X b' ?_ n (lastTo_le X b n)
  obtain ⟨m, h1, h2⟩ := (enough_costOf X b _).1 (lastTo_ok X hb n)
  exact (enough_costOf X b' _).2 ⟨m, h1, by omega⟩
theorem lastTo_eq (X : Wr) {b : Int} (hb : 0 ≤ b) (n : Nat) : lastTo X b n = n ↔ ∃ m, costOf X n = some m ∧ m ≤ b := by
  rw [← enough_costOf]
  constructor
  · intro h; rw [← h]; exact lastTo_ok X hb n
  · intro h; have := lastTo_ge X b h n (Nat.le_refl _); have := lastTo_le X b n; omega
theorem lastTo_low {X : Wr} (hX : ValidW X) {b : Int} (hb : 0 ≤ b) {n k : Nat} (h : k ≤ lastTo X b n) : ∃ m, costOf X k = some m ∧ m ≤ b := by
  obtain ⟨m, h1, h2⟩ := (enough_costOf X b _).1 (lastTo_ok X hb n)
  obtain ⟨m', h3, h4⟩ := costOf_low hX h h1
  exact ⟨m', h3, by omega⟩
end Go.Proofs.Ytkcilgjkdiopnaa
