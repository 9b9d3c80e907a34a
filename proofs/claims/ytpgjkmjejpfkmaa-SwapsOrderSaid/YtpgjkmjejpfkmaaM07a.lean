/- The plain law of more. -/
import Derived.Test.YtpgjkmjejpfkmaaF07b
namespace Go.Proofs.Ytpgjkmjejpfkmaa
open Go.RowKit

/-- O has no less of anything than S -/
structure MoreS (S O : Swap) : Prop where
  boxes : O.boxes = S.boxes
  slen : O.stock.length = S.stock.length
  elen : O.earn.length = S.earn.length
  ch : S.changes ≤ O.changes
  keeps : ∀ p ∈ O.keeps, p ∈ S.keeps
  klen : O.keeps.length ≤ S.keeps.length
  st : ∀ t, S.stock.getD t 0 ≤ O.stock.getD t 0
  ea : ∀ t b, (S.earn.getD t []).getD b 0 ≤ (O.earn.getD t []).getD b 0
  row : ∀ l ∈ O.earn, l.length ≤ 100

theorem more_fits {S O : Swap} (hS : Valid S) (hO : Valid O) (h : MoreS S O) {f : Nat → Nat} {n : Nat} (h64 : ∀ k, f k < 64) (hf : FitsTo (openV S) f n) : FitsTo (openV O) f n := by
  have hnow : (openV O).now = (openV S).now := by
    show nowTo O O.boxes.length = nowTo S S.boxes.length
    unfold nowTo
    rw [h.boxes]
  constructor
  · intro k hk
    obtain ⟨h1, h2⟩ := hf.1 k hk
    constructor
    · rw [hnow]
      exact Int.le_trans h1 h.ch
    · refine dif_zero _ (openKeeps_lt hO k) _ (h64 k) ?_
      intro t ht hb
      have hb' : (keepTo O.keeps k).testBit t = true := hb
      rw [keepTo_bit, List.any_eq_true] at hb'
      obtain ⟨p, hp, he⟩ := hb'
      have hb2 : (keepTo S.keeps k).testBit t = true := by
        rw [keepTo_bit, List.any_eq_true]
        exact ⟨p, h.keeps p hp, he⟩
      exact bit_of_dif_zero _ (openKeeps_lt hS k) _ (h64 k) h2 t ht hb2
  · intro t ht
    have h1 := hf.2 t ht
    have h2 : (openV S).copies t ≤ (openV O).copies t := by
      show copiesTo S (nowTo S S.boxes.length) S.stock.length t ≤ copiesTo O (nowTo O O.boxes.length) O.stock.length t
      have hn : nowTo O O.boxes.length = nowTo S S.boxes.length := hnow
      unfold copiesTo
      rw [hn, h.slen]
      split
      · have := h.st t; omega
      · exact Int.le_refl _
    omega
theorem more_plan {S O : Swap} (hS : Valid S) (hO : Valid O) (h : MoreS S O) {q : Nat → Nat} (hq : q ∈ allP (openV S)) : q ∈ allP (openV O) := by
  have hp := (mem_allP (openV_ok hS) q).1 hq
  have hb : (openV O).S.boxes = (openV S).S.boxes := h.boxes
  have ht : (openV O).S.stock.length = (openV S).S.stock.length := h.slen
  refine (mem_allP (openV_ok hO) q).2 ⟨?_, ?_, ?_⟩
  · rw [hb, ht]; exact hp.box
  · rw [hb]; exact hp.rest
  · rw [hb]
    have h64 : ∀ k, q k < 64 := by
      intro k
      by_cases hk : k < (openV S).S.boxes.length
      · have h1 := (hp.box k hk).1
        have h2 : 2 ^ (openV S).S.stock.length ≤ 2 ^ 6 := Nat.pow_le_pow_right (by decide) hS.stock
        omega
      · rw [hp.rest k (by omega)]; decide
    exact more_fits hS hO h h64 hp.fits
theorem more_earnTo {E E' : List (List Int)} (h : ∀ t b, (E.getD t []).getD b 0 ≤ (E'.getD t []).getD b 0) (m k : Nat) : ∀ n, earnTo E m k n ≤ earnTo E' m k n
  | 0 => Int.le_refl _
  | n + 1 => by
    have h1 := more_earnTo h m k n
    have h2 := h n k
    unfold earnTo
    split <;> omega
theorem more_earn {S O : Swap} (h : MoreS S O) (q : Nat → Nat) (k : Nat) : earnTo S.earn (q k) k S.earn.length ≤ earnTo O.earn (q k) k O.earn.length := by
  rw [h.elen]; exact more_earnTo h.ea _ _ _
theorem more_sum {S O : Swap} (h : MoreS S O) (q : Nat → Nat) : ∀ n, sumTo (openV S) q n ≤ sumTo (openV O) q n
  | 0 => Int.le_refl _
  | n + 1 => by
    have h1 := more_sum h q n
    have h2 : earnTo (openV S).S.earn (q n) n (openV S).S.earn.length ≤ earnTo (openV O).S.earn (q n) n (openV O).S.earn.length := more_earn h q n
    unfold sumTo
    omega
theorem more_least {S O : Swap} (h : MoreS S O) (q : Nat → Nat) : ∀ n, leastTo (openV S) q n ≤ leastTo (openV O) q n
  | 0 => more_earn h q 0
  | n + 1 => by
    have h1 := more_least h q n
    have h2 : earnTo (openV S).S.earn (q n) n (openV S).S.earn.length ≤ earnTo (openV O).S.earn (q n) n (openV O).S.earn.length := more_earn h q n
    unfold leastTo
    omega
theorem more_all {S O : Swap} (h : MoreS S O) (q : Nat → Nat) : ∀ n, allTo (openV O) q n = allTo (openV S) q n
  | 0 => rfl
  | n + 1 => by
    have hnow : (openV O).now = (openV S).now := by
      show nowTo O O.boxes.length = nowTo S S.boxes.length
      unfold nowTo
      rw [h.boxes]
    unfold allTo
    rw [more_all h q n, hnow]

theorem more_best {S O : Swap} (hS : Valid S) (hO : Valid O) (h : MoreS S O) : bestN (openV S) ≤ bestN (openV O) := by
  have hb : (openV O).S.boxes = (openV S).S.boxes := h.boxes
  rcases best_spec (openV_ok hS) (allP (openV S)) with ⟨h1, -⟩ | ⟨q, hq, h1, -⟩
  · have := now_mem hS
    rw [h1] at this
    simp at this
  · have h2 := best_ge (openV_ok hO) _ _ (more_plan hS hO h hq)
    have h3 := more_sum h q (openV S).S.boxes.length
    rw [hb] at h2
    unfold bestN
    omega
theorem more_fair {S O : Swap} (hS : Valid S) (hO : Valid O) (h : MoreS S O) : fairOf (openV S) (allP (openV S)) ≤ fairOf (openV O) (allP (openV O)) := by
  have hb : (openV O).S.boxes = (openV S).S.boxes := h.boxes
  rcases fair_is (openV_ok hS) (allP (openV S)) with ⟨h1, -⟩ | ⟨q, hq, h1⟩
  · have := now_mem hS
    rw [h1] at this
    simp at this
  · have h2 := fair_ge (openV O) _ _ (more_plan hS hO h hq)
    have h3 := more_least h q (openV S).S.boxes.length
    rw [hb] at h2
    omega
theorem more_few {S O : Swap} (hS : Valid S) (hO : Valid O) (h : MoreS S O) (g : Int) (hf : 0 ≤ fewOf (openV S) g (allP (openV S))) : 0 ≤ fewOf (openV O) g (allP (openV O)) ∧ fewOf (openV O) g (allP (openV O)) ≤ fewOf (openV S) g (allP (openV S)) := by
  have hb : (openV O).S.boxes = (openV S).S.boxes := h.boxes
  rcases few_spec (openV S) g (allP (openV S)) with ⟨h1, -⟩ | ⟨q, hq, h1, h2, -⟩
  · omega
  · have hm := more_plan hS hO h hq
    have hs := more_sum h q (openV S).S.boxes.length
    have ha := more_all h q (openV S).S.boxes.length
    rcases few_spec (openV O) g (allP (openV O)) with ⟨k1, k2⟩ | ⟨q', hq', k1, k2, k3⟩
    · have := k2 q hm
      rw [hb] at this
      omega
    · have := k3 q hm (by rw [hb]; omega)
      rw [hb] at this k2
      omega
end Go.Proofs.Ytpgjkmjejpfkmaa
