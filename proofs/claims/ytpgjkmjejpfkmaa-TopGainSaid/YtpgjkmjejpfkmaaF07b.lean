/- A plan of lists and the same plan of sets. -/
import Derived.Test.YtpgjkmjejpfkmaaF07a
import Derived.Test.YtpgjkmjejpfkmaaR07c
namespace Go.Proofs.Ytpgjkmjejpfkmaa
open Go.RowKit

theorem popc_dif_or : ∀ b, b < 64 → ∀ a, a < 64 → ∀ n, n < 6 → a.testBit n = false → popc (dif (a ||| 2 ^ n) b) = popc (dif a b) + (if b.testBit n then 0 else 1) := by decide +kernel
theorem bit_of_dif_zero : ∀ a, a < 64 → ∀ b, b < 64 → dif a b = 0 → ∀ t, t < 6 → a.testBit t = true → b.testBit t = true := by decide +kernel

theorem maskOf_mem {l : List Int} {hi : Int} (h : ∀ n ∈ l, 0 ≤ n ∧ n ≤ hi) (t : Nat) : (maskOf l).testBit t = true ↔ (t : Int) ∈ l := by
  rw [maskOf_bit, List.any_eq_true]
  constructor
  · rintro ⟨x, hx, he⟩
    have := h x hx
    simp only [beq_iff_eq] at he
    rw [show (t : Int) = x from by omega]
    exact hx
  · intro hx
    exact ⟨_, hx, by simp⟩

theorem mask_ch {l now : List Int} {T : Nat} (hT : T ≤ 6) (h : Rises l 0 ((T : Int) - 1)) (hn : ∀ n ∈ now, 0 ≤ n ∧ n ≤ (T : Int) - 1) : ∀ k, k ≤ l.length →
    popc (dif (maskOf (l.take k)) (maskOf now)) = chOf now (l.take k)
  | 0, _ => by
    rw [List.take_zero]
    have : ∀ b, b < 64 → popc (dif (maskOf []) b) = 0 := by decide +kernel
    rw [this _ (maskOf_lt _ fun n hnn => by have := hn n hnn; omega)]
    rfl
  | k + 1, hk => by
    have h1 := mask_ch hT h hn k (by omega)
    have hlk := h.1 k (by omega)
    obtain ⟨n, hnn⟩ := Int.eq_ofNat_of_zero_le hlk.1
    have hnb : (maskOf (l.take k)).testBit n = false := by
      rw [maskOf_bit, List.any_eq_false]
      intro x hx
      obtain ⟨i, hi, rfl⟩ := List.getElem_of_mem hx
      rw [List.length_take] at hi
      have := h.lt k i (by omega) (by omega)
      have h0 := h.1 i (by omega)
      rw [List.getElem_take]
      simp only [beq_iff_eq]
      omega
    have hm : maskOf (l.take k) < 64 := maskOf_lt _ fun n hn => by have := h.mem n (List.mem_of_mem_take hn); omega
    have hb : maskOf now < 64 := maskOf_lt _ fun n hnn => by have := hn n hnn; omega
    have htn : (l[k]'(by omega)).toNat = n := by rw [hnn]; rfl
    rw [List.take_succ_eq_append_getElem (by omega), maskOf_snoc, htn, popc_dif_or _ hb _ hm _ (by omega) hnb, chOf_snoc, h1]
    congr 1
    have hmm := maskOf_mem hn n
    rw [hnn]
    by_cases hin : ((n : Nat) : Int) ∈ now
    · rw [if_pos (hmm.2 hin), if_pos hin]
    · rw [if_neg (fun h => hin (hmm.1 h)), if_neg hin]
theorem mask_chAll {l now : List Int} {T : Nat} (hT : T ≤ 6) (h : Rises l 0 ((T : Int) - 1)) (hn : ∀ n ∈ now, 0 ≤ n ∧ n ≤ (T : Int) - 1) : popc (dif (maskOf l) (maskOf now)) = chOf now l := by
  have := mask_ch hT h hn l.length (Nat.le_refl _)
  rwa [List.take_length] at this

theorem planTo_of {L : List (List Int)} {k j : Nat} (h : j < k) : planTo L k j = maskOf (L.getD j []) := by simp [planTo, h]
theorem planTo_not {L : List (List Int)} {k j : Nat} (h : ¬j < k) : planTo L k j = 0 := by simp [planTo, h]
theorem planTo_now (S : Swap) (k : Nat) : planTo S.boxes k = nowTo S k := rfl

/-- lists of titles, strictly ascending -/
def TitlesL (T : Nat) (L : List (List Int)) : Prop := ∀ i (h : i < L.length), Rises L[i] 0 ((T : Int) - 1)
theorem TitlesL.getD {T : Nat} {L : List (List Int)} (h : TitlesL T L) (j : Nat) : Rises (L.getD j []) 0 ((T : Int) - 1) := by
  by_cases hj : j < L.length
  · rw [getD_of_lt _ _ _ hj]; exact h j hj
  · rw [List.getD_eq_getElem?_getD, List.getElem?_eq_none (by omega)]
    exact ⟨fun i h => absurd h (by simp), fun i h => absurd h (by simp)⟩

theorem cntB_take {T : Nat} {L : List (List Int)} (h : TitlesL T L) (t : Nat) : ∀ k, k ≤ L.length → cntB (planTo L L.length) t k = cntL (L.take k) t
  | 0, _ => by rw [List.take_zero]; rfl
  | k + 1, hk => by
    unfold cntB
    rw [cntB_take h t k (by omega), planTo_of (by omega), List.take_succ_eq_append_getElem (by omega), cntL_snoc, getD_of_lt _ _ _ (by omega)]
    congr 1
    have hmm := maskOf_mem (h k (by omega)).mem t
    by_cases hin : (t : Int) ∈ L[k]
    · rw [if_pos (hmm.2 hin), if_pos hin]
    · rw [if_neg (fun h => hin (hmm.1 h)), if_neg hin]
theorem cntB_beyond {f : Nat → Nat} {n : Nat} (t : Nat) (h : ∀ j, n ≤ j → f j = 0) : ∀ d, cntB f t (n + d) = cntB f t n
  | 0 => rfl
  | d + 1 => by
    show cntB f t (n + d) + (if (f (n + d)).testBit t then 1 else 0) = _
    rw [cntB_beyond t h d, h (n + d) (by omega)]
    simp
theorem cntB_lists {T : Nat} {L : List (List Int)} (h : TitlesL T L) (hl : L.length ≤ 3) (t : Nat) : cntB (planTo L L.length) t 3 = cntL L t := by
  have := cntB_take h t L.length (Nat.le_refl _)
  rw [List.take_length] at this
  rw [← this]
  have hb := cntB_beyond (f := planTo L L.length) (n := L.length) t (fun j hj => planTo_not (by omega)) (3 - L.length)
  rwa [show L.length + (3 - L.length) = 3 from by omega] at hb

theorem Valid.titles {S : Swap} (hS : Valid S) : TitlesL S.stock.length S.boxes := fun i h => (hS.box i h).2
theorem IsPlan.titles {S : Swap} {L : List (List Int)} (hL : IsPlan S L) : TitlesL S.stock.length L := fun i h => (hL.2 i h).2
theorem IsPlan.row_le {S : Swap} (hS : Valid S) {L : List (List Int)} (hL : IsPlan S L) (i : Nat) (h : i < L.length) : L[i].length ≤ 3 := by
  have h1 := (hL.2 i h).1
  have h2 : i < S.boxes.length := by have := hL.1; omega
  rw [getD_of_lt _ _ _ h2] at h1
  have := (hS.box i h2).1
  omega

theorem fits_iff {S : Swap} (hS : Valid S) {L : List (List Int)} (hL : IsPlan S L) : FitsTo (openV S) (planTo L L.length) S.boxes.length ↔ FitP S L := by
  have hlen := hL.1
  have hb3 := hS.boxes
  have hT := hS.stock
  have hch : ∀ j, j < L.length → popc (dif (planTo L L.length j) ((openV S).now j)) = chOf (S.boxes.getD j []) (L.getD j []) := by
    intro j hj
    rw [planTo_of hj, show (openV S).now j = maskOf (S.boxes.getD j []) from nowTo_of (by omega)]
    exact mask_chAll hT (hL.titles.getD j) (hS.titles.getD j).mem
  have hp64 := fun j => planTo_lt hS hL L.length j
  constructor
  · rintro ⟨h1, h2⟩
    refine ⟨fun j hj => ?_, fun j hj => ?_, fun t ht => ?_⟩
    · have := (h1 j (by omega)).1
      rw [hch j hj, getD_of_lt L _ _ hj] at this
      exact this
    · obtain ⟨k1, k2, k3⟩ := hS.keep j hj
      have hbj : S.keeps[j].1.toNat < L.length := by omega
      have hz := (h1 S.keeps[j].1.toNat (by omega)).2
      have hkb : (keepTo S.keeps S.keeps[j].1.toNat).testBit S.keeps[j].2.toNat = true := by
        rw [keepTo_bit, List.any_eq_true]
        exact ⟨_, List.getElem_mem hj, by simp⟩
      have hr := (hS.titles.getD S.keeps[j].1.toNat).mem _ k3
      have hbit := bit_of_dif_zero _ (openKeeps_lt hS _) _ (hp64 _) hz S.keeps[j].2.toNat (by omega) hkb
      rw [planTo_of hbj, maskOf_mem (hL.titles.getD _).mem] at hbit
      rwa [Int.toNat_of_nonneg hr.1] at hbit
    · have := h2 t (by omega)
      rw [cntB_lists hL.titles (by omega)] at this
      have hc : (openV S).copies t = S.stock[t] + cntL S.boxes t := by
        show copiesTo S (nowTo S S.boxes.length) S.stock.length t = _
        unfold copiesTo
        rw [if_pos ht, getD_of_lt _ _ _ ht, ← planTo_now, cntB_lists hS.titles hb3]
      rw [hc] at this
      exact this
  · intro h
    refine ⟨fun j hj => ⟨?_, ?_⟩, fun t ht => ?_⟩
    · rw [hch j (by omega), getD_of_lt L _ _ (by omega)]
      exact h.ch j (by omega)
    · refine dif_zero _ (openKeeps_lt hS j) _ (hp64 j) ?_
      intro t ht hb
      have hb' : (keepTo S.keeps j).testBit t = true := hb
      rw [keepTo_bit, List.any_eq_true] at hb'
      obtain ⟨x, hx, he⟩ := hb'
      obtain ⟨i, hi, rfl⟩ := List.getElem_of_mem hx
      simp only [Bool.and_eq_true, beq_iff_eq] at he
      have hk := h.keep i hi
      have hkk := (hS.keep i hi).2.2
      rw [he.1] at hk hkk
      rw [planTo_of (by omega), maskOf_mem (hL.titles.getD _).mem]
      have hr := (hS.titles.getD j).mem _ hkk
      rw [show (t : Int) = S.keeps[i].2 from by omega]
      exact hk
    · rw [cntB_lists hL.titles (by omega)]
      by_cases htt : t < S.stock.length
      · have hc : (openV S).copies t = S.stock[t] + cntL S.boxes t := by
          show copiesTo S (nowTo S S.boxes.length) S.stock.length t = _
          unfold copiesTo
          rw [if_pos htt, getD_of_lt _ _ _ htt, ← planTo_now, cntB_lists hS.titles hb3]
        rw [hc]
        exact h.cnt t htt
      · rw [show cntL L t = 0 from ?_]
        · exact ((openV_ok hS).copies t ht).1
        · unfold cntL
          rw [List.countP_eq_zero]
          intro l hl
          obtain ⟨i, hi, rfl⟩ := List.getElem_of_mem hl
          rw [inL_iff]
          intro hm
          have := (hL.titles i hi).mem _ hm
          omega
theorem plan_mem {S : Swap} (hS : Valid S) {L : List (List Int)} (hL : IsPlan S L) : planTo L L.length ∈ allP (openV S) ↔ FitP S L := by
  rw [mem_allP (openV_ok hS), ← fits_iff hS hL]
  refine ⟨fun h => h.fits, fun h => ⟨fun j hj => ?_, fun j hj => planTo_not (by have := hL.1; have : S.boxes.length ≤ j := hj; omega), h⟩⟩
  have hj' : j < L.length := by have := hL.1; have : j < S.boxes.length := hj; omega
  rw [planTo_of hj']
  refine ⟨mask_pow (hL.titles.getD j), ?_⟩
  have h1 := (mask_box (S := S) (L.getD j []) S.stock.length 0 hS.stock (hL.titles.getD j)).1
  rw [h1, getD_of_lt _ _ _ hj']
  exact (hL.2 j hj').1

theorem plan_earn {S : Swap} (hS : Valid S) {L : List (List Int)} (hL : IsPlan S L) (k : Nat) (hk : k < L.length) : earnTo S.earn (planTo L L.length k) k S.earn.length = earnsIn S k L[k] := by
  have h1 := (mask_box (S := S) (L.getD k []) S.stock.length k hS.stock (hL.titles.getD k)).2
  rw [planTo_of hk, hS.earn, h1, getD_of_lt _ _ _ hk]
theorem plan_sum {S : Swap} (hS : Valid S) {L : List (List Int)} (hL : IsPlan S L) : ∀ k, k ≤ L.length → sumTo (openV S) (planTo L L.length) k = earnsTo S L k
  | 0, _ => rfl
  | k + 1, h => by
    unfold sumTo earnsTo
    rw [plan_sum hS hL k (by omega)]
    have := plan_earn hS hL k (by omega)
    rw [getD_of_lt _ _ _ (by omega : k < L.length)]
    exact congrArg _ this
theorem plan_all {S : Swap} (hS : Valid S) {L : List (List Int)} (hL : IsPlan S L) : ∀ k, k ≤ L.length → allTo (openV S) (planTo L L.length) k = chTo S.boxes L k
  | 0, _ => rfl
  | k + 1, h => by
    unfold allTo chTo
    have hlen := hL.1
    rw [plan_all hS hL k (by omega), planTo_of (by omega), show (openV S).now k = maskOf (S.boxes.getD k []) from nowTo_of (by omega)]
    rw [mask_chAll hS.stock (hL.titles.getD k) (hS.titles.getD k).mem]
end Go.Proofs.Ytpgjkmjejpfkmaa
