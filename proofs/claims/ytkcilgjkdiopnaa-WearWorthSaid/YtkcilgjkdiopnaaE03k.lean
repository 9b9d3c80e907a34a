/- Less wear: a good plan is still good, and costs no more. Plain. -/
import Derived.Test.YtkcilgjkdiopnaaWEach3
namespace Go.Proofs.Ytkcilgjkdiopnaa
open Go.RowKit

structure LessW (X Y : Wr) : Prop where
  weeks : Y.weeks = X.weeks
  price : Y.price = X.price
  age : Y.age ≤ X.age
  step : X.step ≤ Y.step
  rlen : Y.rough.length = X.rough.length
  rough : ∀ i, Y.rough.getD i 0 ≤ X.rough.getD i 0
  len : Y.recs.length = X.recs.length
  worn : ∀ i, (recW Y i).worn ≤ (recW X i).worn
  limit : ∀ i, (recW X i).limit ≤ (recW Y i).limit
  rprice : ∀ i, (recW Y i).price = (recW X i).price
  plays : ∀ k i, playsW Y k i ≤ playsW X k i

theorem rough_up {X : Wr} (hX : ValidW X) (i : Nat) : ∀ d, i + d < X.rough.length → X.rough.getD i 0 ≤ X.rough.getD (i + d) 0
  | 0, _ => Int.le_refl _
  | d + 1, h => by
    have h1 := rough_up hX i d (by omega)
    have h2 := hX.up (i + d) (by omega)
    simp only [List.getD_eq_getElem?_getD] at h1 ⊢
    rw [List.getElem?_eq_getElem (show i + d < X.rough.length by omega)] at h1
    rw [List.getElem?_eq_getElem (show i + (d + 1) < X.rough.length by omega)]
    have e : X.rough[i + (d + 1)]'(by omega) = X.rough[i + d + 1]'(by omega) := rfl
    simp only [Option.getD_some] at h1 ⊢
    rw [e]
    omega
theorem roughW_pos {X : Wr} (hX : ValidW X) (a : Int) : 0 ≤ roughW X a := by
  unfold roughW
  by_cases h : roughI X a < X.rough.length
  · simp only [List.getD_eq_getElem?_getD]
    rw [List.getElem?_eq_getElem h]
    exact (hX.rg _ h).1
  · simp only [List.getD_eq_getElem?_getD]
    rw [List.getElem?_eq_none (by omega)]
    decide
theorem less_rough {X Y : Wr} (hX : ValidW X) (hL : LessW X Y) {a b : Int} (ha : 0 ≤ b) (hab : b ≤ a) : roughW Y b ≤ roughW X a := by
  have hs := hX.step
  have hr := hX.rough
  have h1 : b / Y.step ≤ b / X.step := by
    have h2 : Y.step * (b / Y.step) ≤ b := by have := Int.emod_nonneg b (show Y.step ≠ 0 by have := hL.step; omega); have := Int.mul_ediv_add_emod b Y.step; omega
    have h3 : 0 ≤ b / Y.step := Int.ediv_nonneg ha (by have := hL.step; omega)
    have h4 : X.step * (b / Y.step) ≤ Y.step * (b / Y.step) := Int.mul_le_mul_of_nonneg_right hL.step h3
    exact (Int.le_ediv_iff_mul_le (by omega)).2 (by rw [Int.mul_comm]; omega)
  have h2 : b / X.step ≤ a / X.step := Int.ediv_le_ediv (by omega) hab
  have h0 : 0 ≤ b / Y.step := Int.ediv_nonneg ha (by have := hL.step; omega)
  have hi : roughI Y b ≤ roughI X a := by
    unfold roughI
    rw [hL.rlen]
    omega
  have hlt : roughI X a < X.rough.length := by unfold roughI; omega
  have h5 := hL.rough (roughI Y b)
  have h6 := rough_up hX (roughI Y b) (roughI X a - roughI Y b) (by omega)
  rw [show roughI Y b + (roughI X a - roughI Y b) = roughI X a by omega] at h6
  unfold roughW
  omega
theorem less_grind {X Y : Wr} (hX : ValidW X) (hL : LessW X Y) {a b : Int} (ha : 0 ≤ b) (hab : b ≤ a) : ∀ n, grindW Y b n ≤ grindW X a n
  | 0 => Int.le_refl _
  | n + 1 => by
    have h1 := less_grind hX hL ha hab n
    have h2 := less_rough hX hL (b := b + n) (a := a + n) (by omega) (by omega)
    simp only [grindW]
    omega
theorem grind_up {X : Wr} (hX : ValidW X) (a : Int) (n : Nat) : ∀ d, grindW X a n ≤ grindW X a (n + d)
  | 0 => Int.le_refl _
  | d + 1 => by
    have h1 := grind_up hX a n d
    have h2 := roughW_pos hX (a + (n + d : Nat))
    have e : grindW X a (n + (d + 1)) = grindW X a (n + d) + roughW X (a + (n + d : Nat)) := rfl
    rw [e]
    omega
theorem less_sum {X Y : Wr} (hL : LessW X Y) (wk : Nat) : ∀ n, sumWk Y wk n ≤ sumWk X wk n
  | 0 => Int.le_refl _
  | n + 1 => by
    have h1 := less_sum hL wk n
    have h2 := hL.plays wk n
    simp only [sumWk]
    omega
theorem less_ageB {X Y : Wr} (hX : ValidW X) (hY : ValidW Y) (hL : LessW X Y) (N : Nat) : ∀ k, 0 ≤ ageB Y N k ∧ ageB Y N k ≤ ageB X N k
  | 0 => ⟨hY.age.1, hL.age⟩
  | k + 1 => by
    have h1 := less_ageB hX hY hL N k
    have h2 := less_sum hL k X.recs.length
    have h3 := sumWk_bd hY k X.recs.length
    simp only [ageB, ageTo_sum, hL.len]
    by_cases e : N.testBit k = true
    · simp only [e, if_true]; omega
    · simp only [e, if_false, Bool.false_eq_true]; omega
theorem less_grd {X Y : Wr} (hX : ValidW X) (hY : ValidW Y) (hL : LessW X Y) (N k i : Nat) : grd Y N k i ≤ grd X N k i := by
  unfold grd
  rw [ageTo_sum, ageTo_sum]
  have h1 := less_ageB hX hY hL N k
  have h2 := less_sum hL k i
  have h3 := sumWk_bd hY k i
  have h4 := hL.plays k i
  have h5 : 0 ≤ begA Y N k ∧ begA Y N k ≤ begA X N k := by
    unfold begA
    by_cases e : N.testBit k = true
    · simp only [e, if_true]; omega
    · simp only [e, if_false, Bool.false_eq_true]; exact h1
  have h6 := less_grind hX hL (b := begA Y N k + sumWk Y k i) (a := begA X N k + sumWk X k i) (by omega) (by omega) (playsW X k i).toNat
  have h7 := grind_up hY (begA Y N k + sumWk Y k i) (playsW Y k i).toNat ((playsW X k i).toNat - (playsW Y k i).toNat)
  rw [show (playsW Y k i).toNat + ((playsW X k i).toNat - (playsW Y k i).toNat) = (playsW X k i).toNat by omega] at h7
  omega
theorem wornS_mono {w0 w1 : Int} {g h : Nat → Int} {S : Nat} (hw : w1 ≤ w0) (hg : ∀ k, h k ≤ g k) : ∀ k, wornS w1 h S k ≤ wornS w0 g S k
  | 0 => hw
  | k + 1 => by
    have h1 := wornS_mono (S := S) hw hg k
    have h2 := hg k
    simp only [wornS]
    split <;> omega
theorem GoodS.mono {lim lim' w0 w1 : Int} {g h : Nat → Int} {S n : Nat} (hG : GoodS lim w0 g S n) (hw : w1 ≤ w0) (hg : ∀ k, h k ≤ g k) (hl : lim ≤ lim') : GoodS lim' w1 h S n := fun k hk => by
  have h1 := hG k hk
  have h2 := wornS_mono (S := S) hw hg (k + 1)
  omega
theorem less_plan {X Y : Wr} {l : List Wk} (hL : LessW X Y) (hP : PlanOK X l) : PlanOK Y l := ⟨by rw [hL.weeks]; exact hP.1, fun x hx => by rw [hL.len]; exact hP.2 x hx⟩
theorem less_good {X Y : Wr} (hX : ValidW X) (hY : ValidW Y) (hL : LessW X Y) {l : List Wk} (hP : PlanOK X l) (hg : firstBad X l < 0) : firstBad Y l < 0 := by
  have hN : ∀ k, k < l.length → (needM l).testBit k = decide ((wkAt l k).needle = 1) := fun k hk => needM_bit l hk
  have hS : ∀ i k, k < l.length → (recM l i).testBit k = decide ((i : Int) ∈ (wkAt l k).recs) := fun i k hk => recM_bit l i hk
  rw [firstBad_neg]
  intro k hk i hi
  rw [hL.len] at hi
  rw [run_worn hY (less_plan hL hP) hN hS (by rw [hL.len]; exact hi) (k + 1) (by omega)]
  have h1 := firstBad_neg.1 hg k hk i hi
  rw [run_worn hX hP hN hS hi (k + 1) (by omega)] at h1
  have h2 := wornS_mono (S := recM l i) (hL.worn i) (fun k => less_grd hX hY hL (needM l) k i) (k + 1)
  have h3 := hL.limit i
  omega
theorem less_choice {X Y : Wr} (hX : ValidW X) (hY : ValidW Y) (hL : LessW X Y) {n : Nat} (hn6 : n ≤ 6) {c : Ch} (hc : c ∈ choicesW X n) :
    ∃ d ∈ choicesW Y n, d.needles = c.needles ∧ d.records.length = c.records.length ∧ c.records.length = X.recs.length ∧ ∀ i, i < X.recs.length → popc (d.records.getD i 0) ≤ popc (c.records.getD i 0) := by
  obtain ⟨hlt, hch⟩ := choice_lt hc
  unfold chooseW at hch
  obtain ⟨rl, hrl, hce⟩ := Option.map_eq_some_iff.1 hch
  have hrec : c.records = rl := by rw [← hce]
  have hget := recsTo_get _ _ hrl
  have hlen := recsTo_len _ _ hrl
  rw [← hrec] at hget hlen
  have hb : ∀ i, ∃ y, i < X.recs.length → lateW (recW Y i).limit (recW Y i).worn (fun k => grd Y c.needles k i) n = some y ∧ popc y ≤ popc (c.records.getD i 0) := fun i => by
    by_cases hi : i < X.recs.length
    · obtain ⟨h1, h2, h3⟩ := lateW_good hn6 (hget i hi)
      obtain ⟨y, h4, h5⟩ := lateW_best hn6 (rec_bd hY i).2.2.1 (fun k => grd_pos hY _ k i) (h2.mono (hL.worn i) (fun k => less_grd hX hY hL c.needles k i) (hL.limit i))
      exact ⟨y, fun _ => ⟨h4, by omega⟩⟩
    · exact ⟨0, fun h => absurd h hi⟩
  obtain ⟨f, hf⟩ := Classical.axiomOfChoice hb
  have hr := recsTo_mk (X := Y) (N := c.needles) (n := n) (f := f) X.recs.length (fun j hj => (hf j hj).1)
  refine ⟨⟨c.needles, (List.range X.recs.length).map f⟩, List.mem_filterMap.2 ⟨c.needles, List.mem_range.2 hlt, by unfold chooseW; rw [hL.len, hr]; rfl⟩, rfl, by simp [hlen], hlen, fun i hi => ?_⟩
  have : ((List.range X.recs.length).map f).getD i 0 = f i := by simp [List.getD, hi]
  rw [this]
  exact (hf i hi).2
theorem less_cost {X Y : Wr} (hX : ValidW X) (hL : LessW X Y) {c d : Ch} : ∀ m, (∀ i, i < m → popc (d.records.getD i 0) ≤ popc (c.records.getD i 0)) → costTo Y d m ≤ costTo X c m ∧ replTo d m ≤ replTo c m
  | 0, _ => ⟨Int.le_refl _, Int.le_refl _⟩
  | m + 1, h => by
    have h1 := less_cost hX hL (c := c) (d := d) m (fun i hi => h i (by omega))
    have h2 : (popc (d.records.getD m 0) : Int) * (recW X m).price ≤ popc (c.records.getD m 0) * (recW X m).price := Int.mul_le_mul_of_nonneg_right (by have := h m (by omega); omega) (rec_bd hX m).1
    have h3 := h m (by omega)
    simp only [costTo, replTo, hL.rprice]
    omega
/-- what Cheapest, Needles and Records answer -/
theorem answers {X : Wr} (hX : ValidW X) : (choicesW X X.weeks.toNat = [] ∧ cheapV X = .tuple #[.int .i64 0, .int .i64 3] ∧ needV X = .tuple #[.int .i64 0, .int .i64 3] ∧ recsV X = .tuple #[.int .i64 0, .int .i64 3]) ∨
    ∃ m a b : Int, cheapV X = .tuple #[.int .i64 m, .int .i64 0] ∧ needV X = .tuple #[.int .i64 a, .int .i64 0] ∧ recsV X = .tuple #[.int .i64 b, .int .i64 0] ∧ (0 ≤ m ∧ m ≤ 30000) ∧ (0 ≤ a ∧ a ≤ 6) ∧ (0 ≤ b ∧ b ≤ 24) ∧
      (∃ c ∈ choicesW X X.weeks.toNat, allW X c X.price = m) ∧ (∃ c ∈ choicesW X X.weeks.toNat, (popc c.needles : Int) = a) ∧ (∃ c ∈ choicesW X X.weeks.toNat, replW c = b) ∧
      ∀ c ∈ choicesW X X.weeks.toNat, m ≤ allW X c X.price ∧ a ≤ popc c.needles ∧ b ≤ replW c := by
  have hok : ∀ c ∈ choicesW X X.weeks.toNat, ChOK X c := fun c hc => choices_ok hX (by have := hX.weeks; omega) hc
  by_cases hnil : choicesW X X.weeks.toNat = []
  · refine Or.inl ⟨hnil, ?_, ?_, ?_⟩
    · unfold cheapV bestW; rw [hnil]; rfl
    · unfold needV; rw [hnil]; rfl
    · unfold recsV; rw [hnil]; rfl
  · have some : ∀ f : Ch → Int, ∃ d, leastL f (choicesW X X.weeks.toNat) = some d ∧ d ∈ choicesW X X.weeks.toNat ∧ ∀ e ∈ choicesW X X.weeks.toNat, f d ≤ f e := fun f => by
      cases h : leastL f (choicesW X X.weeks.toNat) with
      | none => exact absurd (leastL_none.1 h) hnil
      | some d =>
        obtain ⟨h1, h2, -⟩ := leastL_spec f _ none d h
        exact ⟨d, rfl, h1.elim (fun h => h) (fun h => by cases h), h2⟩
    obtain ⟨c, hc, hcm, hcl⟩ := some (fun c => allW X c X.price)
    obtain ⟨d, hd, hdm, hdl⟩ := some (fun c => (popc c.needles : Int))
    obtain ⟨f, hf, hfm, hfl⟩ := some replW
    have h6 := popc_le d.needles
    have h7 := replTo_bd f f.records.length
    have h8 := (hok f hfm).len
    have h9 := hX.recs
    exact Or.inr ⟨allW X c X.price, popc d.needles, replW f, by unfold cheapV bestW; rw [hc], by unfold needV; rw [hd], by unfold recsV; rw [hf], allW_bd hX (hok c hcm) hX.price, by omega, by unfold replW; omega,
      ⟨c, hcm, rfl⟩, ⟨d, hdm, rfl⟩, ⟨f, hfm, rfl⟩, fun e he => ⟨hcl e he, hdl e he, hfl e he⟩⟩
theorem less_law {X Y : Wr} (hX : ValidW X) (hY : ValidW Y) (hL : LessW X Y) : ∃ m e a b n f a' b' : Int,
    cheapV X = .tuple #[.int .i64 m, .int .i64 e] ∧ needV X = .tuple #[.int .i64 a, .int .i64 e] ∧ recsV X = .tuple #[.int .i64 b, .int .i64 e] ∧
    cheapV Y = .tuple #[.int .i64 n, .int .i64 f] ∧ needV Y = .tuple #[.int .i64 a', .int .i64 f] ∧ recsV Y = .tuple #[.int .i64 b', .int .i64 f] ∧ (e = 0 ∨ e = 3) ∧ (f = 0 ∨ f = 3) ∧
    (e = 0 → f = 0 ∧ n ≤ m ∧ a' ≤ a ∧ b' ≤ b) := by
  have hw6 : X.weeks.toNat ≤ 6 := by have := hX.weeks; omega
  have hch := fun c hc => less_choice hX hY hL hw6 (c := c) hc
  have hwk : Y.weeks.toNat = X.weeks.toNat := by rw [hL.weeks]
  have cmp : ∀ c d : Ch, d.needles = c.needles → d.records.length = c.records.length → c.records.length = X.recs.length → (∀ i, i < X.recs.length → popc (d.records.getD i 0) ≤ popc (c.records.getD i 0)) → allW Y d Y.price ≤ allW X c X.price ∧ replW d ≤ replW c := fun c d h1 h2 h3 h4 => by
    have h5 := less_cost hX hL (c := c) (d := d) X.recs.length h4
    unfold allW replW
    rw [h1, h2, h3, hL.price]
    omega
  have hYa := answers hY
  rw [hwk] at hYa
  rcases answers hX with ⟨hn, h1, h2, h3⟩ | ⟨m, a, b, h1, h2, h3, -, -, -, ⟨c1, hc1, e1⟩, ⟨c2, hc2, e2⟩, ⟨c3, hc3, e3⟩, -⟩
  · rcases hYa with ⟨-, k1, k2, k3⟩ | ⟨n, a', b', k1, k2, k3, -⟩
    · exact ⟨_, _, _, _, _, _, _, _, h1, h2, h3, k1, k2, k3, Or.inr rfl, Or.inr rfl, fun h => absurd h (by decide)⟩
    · exact ⟨_, _, _, _, _, _, _, _, h1, h2, h3, k1, k2, k3, Or.inr rfl, Or.inl rfl, fun h => absurd h (by decide)⟩
  · obtain ⟨d1, hd1, n1, l1, l1', p1⟩ := hch c1 hc1
    obtain ⟨d2, hd2, n2, l2, l2', p2⟩ := hch c2 hc2
    obtain ⟨d3, hd3, n3, l3, l3', p3⟩ := hch c3 hc3
    rcases hYa with ⟨hn, -⟩ | ⟨n, a', b', k1, k2, k3, -, -, -, -, -, -, hle⟩
    · rw [hn] at hd1; cases hd1
    · refine ⟨_, _, _, _, _, _, _, _, h1, h2, h3, k1, k2, k3, Or.inl rfl, Or.inl rfl, fun _ => ⟨rfl, ?_, ?_, ?_⟩⟩
      · have := (hle d1 hd1).1; have := (cmp c1 d1 n1 l1 l1' p1).1; omega
      · have := (hle d2 hd2).2.1; rw [n2] at this; omega
      · have := (hle d3 hd3).2.2; have := (cmp c3 d3 n3 l3 l3' p3).2; omega
end Go.Proofs.Ytkcilgjkdiopnaa
