/- The plain law of the reference: Fewest and Fair. The plain law of the reference: Always. The plain law of the reference: one copy more, one change more. The plain law of the reference's Copy and Change. -/
import Derived.Test.YtpgjkmjejpfkmaaKA
namespace Go.Proofs.Ytpgjkmjejpfkmaa
open Go.RowKit

/-- how the reference finds the fewest changes -/
noncomputable def rfewStep (S : Swap) (g : Int) (o : Int) (L : List (List Int)) : Int := if g ≤ earnsAll S L ∧ (o < 0 ∨ (chAll S.boxes L : Int) < o) then (chAll S.boxes L : Int) else o
noncomputable def rfew (S : Swap) (g : Int) (l : List (List (List Int))) : Int := l.foldl (rfewStep S g) (-1)
theorem rfew_snoc (S : Swap) (g : Int) (l : List (List (List Int))) (L : List (List Int)) : rfew S g (l ++ [L]) = rfewStep S g (rfew S g l) L := by simp [rfew]
theorem rfew_spec (S : Swap) (g : Int) (l : List (List (List Int))) : (rfew S g l = -1 ∧ ∀ L ∈ l, ¬g ≤ earnsAll S L) ∨
    ∃ L ∈ l, g ≤ earnsAll S L ∧ rfew S g l = (chAll S.boxes L : Int) ∧ ∀ L' ∈ l, g ≤ earnsAll S L' → chAll S.boxes L ≤ chAll S.boxes L' := by
  induction l using snocInd with
  | h0 => exact Or.inl ⟨rfl, by simp⟩
  | hs l x ih =>
    rw [rfew_snoc]
    unfold rfewStep
    by_cases hx : g ≤ earnsAll S x
    · rcases ih with ⟨h1, h2⟩ | ⟨q, hq, h1, h2, h3⟩
      · rw [h1, if_pos ⟨hx, Or.inl (by omega)⟩]
        refine Or.inr ⟨x, by simp, hx, rfl, ?_⟩
        intro q' hq' hg
        rcases List.mem_append.1 hq' with h | h
        · exact absurd hg (h2 q' h)
        · rw [List.mem_singleton.1 h]; exact Nat.le_refl _
      · rw [h2]
        by_cases hl : (chAll S.boxes x : Int) < (chAll S.boxes q : Int)
        · rw [if_pos ⟨hx, Or.inr hl⟩]
          refine Or.inr ⟨x, by simp, hx, rfl, ?_⟩
          intro q' hq' hg
          rcases List.mem_append.1 hq' with h | h
          · have := h3 q' h hg; omega
          · rw [List.mem_singleton.1 h]; exact Nat.le_refl _
        · rw [if_neg (by omega)]
          refine Or.inr ⟨q, by simp [hq], h1, rfl, ?_⟩
          intro q' hq' hg
          rcases List.mem_append.1 hq' with h | h
          · exact h3 q' h hg
          · rw [List.mem_singleton.1 h]; omega
    · rw [if_neg (fun h => hx h.1)]
      rcases ih with ⟨h1, h2⟩ | ⟨q, hq, h1, h2, h3⟩
      · refine Or.inl ⟨h1, ?_⟩
        intro q hq
        rcases List.mem_append.1 hq with h | h
        · exact h2 q h
        · rw [List.mem_singleton.1 h]; exact hx
      · refine Or.inr ⟨q, by simp [hq], h1, h2, ?_⟩
        intro q' hq' hg
        rcases List.mem_append.1 hq' with h | h
        · exact h3 q' h hg
        · rw [List.mem_singleton.1 h] at hg; exact absurd hg hx
theorem fit_all {S : Swap} (hS : Valid S) {L : List (List Int)} (hL : IsPlan S L) : allTo (openV S) (planTo L L.length) S.boxes.length = chAll S.boxes L := by
  rw [← hL.1, plan_all hS hL _ (Nat.le_refl _)]; rfl
/-- a plan of sets as lists -/
theorem fit_of {S : Swap} (hS : Valid S) {q : Nat → Nat} (hq : q ∈ allP (openV S)) : ∃ L, L ∈ fitA S ∧ planTo L L.length = q := by
  obtain ⟨h1, h2⟩ := lstP_plan hS ((mem_allP (openV_ok hS) q).1 hq)
  exact ⟨_, (mem_fitA _).2 ⟨h1, (plan_mem hS h1).1 (by rw [h2]; exact hq)⟩, h2⟩
theorem rfew_few {S : Swap} (hS : Valid S) (g : Int) : rfew S g (fitA S) = fewOf (openV S) g (allP (openV S)) := by
  rcases rfew_spec S g (fitA S) with ⟨h1, h2⟩ | ⟨L, hL, h1, h2, h3⟩
  · rcases few_spec (openV S) g (allP (openV S)) with ⟨k1, -⟩ | ⟨q, hq, k1, -, -⟩
    · rw [h1, k1]
    · obtain ⟨L, hL, rfl⟩ := fit_of hS hq
      have k1' : g ≤ sumTo (openV S) (planTo L L.length) S.boxes.length := k1
      rw [fit_sum hS ((mem_fitA L).1 hL).1] at k1'
      exact absurd k1' (h2 L hL)
  · obtain ⟨hP, hF⟩ := (mem_fitA L).1 hL
    have hm := (plan_mem hS hP).2 hF
    have hs := fit_sum hS hP
    have ha := fit_all hS hP
    rcases few_spec (openV S) g (allP (openV S)) with ⟨-, k2⟩ | ⟨q, hq, k1, k2, k3⟩
    · have := k2 _ hm
      rw [show (openV S).S.boxes.length = S.boxes.length from rfl, hs] at this
      exact absurd h1 this
    · obtain ⟨L', hL', rfl⟩ := fit_of hS hq
      have k1' : g ≤ sumTo (openV S) (planTo L' L'.length) S.boxes.length := k1
      have k2' : fewOf (openV S) g (allP (openV S)) = (allTo (openV S) (planTo L' L'.length) S.boxes.length : Int) := k2
      have k3' : allTo (openV S) (planTo L' L'.length) S.boxes.length ≤ allTo (openV S) (planTo L L.length) S.boxes.length := k3 _ hm (by show g ≤ sumTo (openV S) (planTo L L.length) S.boxes.length; rw [hs]; exact h1)
      have hP' := ((mem_fitA L').1 hL').1
      rw [fit_sum hS hP'] at k1'
      rw [fit_all hS hP'] at k2' k3'
      rw [ha] at k3'
      have := h3 L' hL' k1'
      rw [h2, k2']
      omega

/-- how the reference finds the fairest plan -/
def rleast (S : Swap) (L : List (List Int)) : Nat → Int
  | 0 => earnsIn S 0 (L.getD 0 [])
  | k + 1 => min (rleast S L k) (earnsIn S (k + 1) (L.getD (k + 1) []))
def rfair (S : Swap) (l : List (List (List Int))) : Int := l.foldl (fun m L => max m (rleast S L (S.boxes.length - 1))) 0
theorem rleast_least {S : Swap} (hS : Valid S) {L : List (List Int)} (hL : IsPlan S L) : ∀ k, k < L.length → leastTo (openV S) (planTo L L.length) (k + 1) = rleast S L k
  | 0, h => by
    have := plan_earn hS hL 0 h
    have e : earnTo (openV S).S.earn (planTo L L.length 0) 0 (openV S).S.earn.length = earnsIn S 0 L[0] := this
    unfold leastTo rleast
    rw [getD_of_lt _ _ _ h, ← e]
    show min (earnTo (openV S).S.earn (planTo L L.length 0) 0 (openV S).S.earn.length) _ = _
    omega
  | k + 1, h => by
    have h1 := rleast_least hS hL k (by omega)
    have := plan_earn hS hL (k + 1) h
    have e : earnTo (openV S).S.earn (planTo L L.length (k + 1)) (k + 1) (openV S).S.earn.length = earnsIn S (k + 1) L[k + 1] := this
    rw [leastTo, h1, e, rleast, getD_of_lt _ _ _ h]
theorem rfair_snoc (S : Swap) (l : List (List (List Int))) (L : List (List Int)) : rfair S (l ++ [L]) = max (rfair S l) (rleast S L (S.boxes.length - 1)) := by simp [rfair]
theorem rfair_ge (S : Swap) (l : List (List (List Int))) : 0 ≤ rfair S l ∧ ∀ L ∈ l, rleast S L (S.boxes.length - 1) ≤ rfair S l := by
  induction l using snocInd with
  | h0 => exact ⟨Int.le_refl _, by simp⟩
  | hs l x ih =>
    rw [rfair_snoc]
    refine ⟨by omega, fun L hL => ?_⟩
    rcases List.mem_append.1 hL with h | h
    · have := ih.2 L h; omega
    · rw [List.mem_singleton.1 h]; omega
theorem rfair_le (S : Swap) (l : List (List (List Int))) (m : Int) (h0 : 0 ≤ m) (h : ∀ L ∈ l, rleast S L (S.boxes.length - 1) ≤ m) : rfair S l ≤ m := by
  induction l using snocInd with
  | h0 => exact h0
  | hs l x ih =>
    rw [rfair_snoc]
    have := ih (fun L hL => h L (by simp [hL]))
    have := h x (by simp)
    omega
theorem rfair_fair {S : Swap} (hS : Valid S) (hn : 0 < S.boxes.length) : rfair S (fitA S) = fairOf (openV S) (allP (openV S)) := by
  have hl : ∀ {L : List (List Int)}, IsPlan S L → leastTo (openV S) (planTo L L.length) (openV S).S.boxes.length = rleast S L (S.boxes.length - 1) := by
    intro L hL
    have := rleast_least hS hL (S.boxes.length - 1) (by have := hL.1; omega)
    rw [show S.boxes.length - 1 + 1 = S.boxes.length from by omega] at this
    exact this
  have h0 := (fair_best hS).1
  have h1 := rfair_le S (fitA S) (fairOf (openV S) (allP (openV S))) h0 (fun L hL => by
    obtain ⟨h3, h4⟩ := (mem_fitA L).1 hL
    have := fair_ge (openV S) _ _ ((plan_mem hS h3).2 h4)
    rw [hl h3] at this
    exact this)
  rcases fair_is (openV_ok hS) (allP (openV S)) with ⟨h2, -⟩ | ⟨q, hq, h2⟩
  · exact absurd h2 (by intro h; have := now_mem hS; rw [h] at this; simp at this)
  · obtain ⟨L, hL, rfl⟩ := fit_of hS hq
    have := (rfair_ge S (fitA S)).2 L hL
    rw [hl ((mem_fitA L).1 hL).1] at h2
    omega
end Go.Proofs.Ytpgjkmjejpfkmaa
namespace Go.Proofs.Ytpgjkmjejpfkmaa
open Go.RowKit

theorem alwOf_bit {V : Visit} {m : Int} (c : Nat → Nat) (L : List (Nat → Nat)) (j t : Nat) : (alwOf V m c L j).testBit t = true ↔ (c j).testBit t = true ∧ ∀ q ∈ L, sumTo V q V.S.boxes.length = m → (q j).testBit t = true := by
  induction L using snocInd with
  | h0 => simp [alwOf]
  | hs l x ih =>
    rw [alwOf_snoc]
    unfold alwStep
    constructor
    · intro h
      split at h
      · rename_i hx
        rw [Nat.testBit_and, Bool.and_eq_true] at h
        obtain ⟨k1, k2⟩ := ih.1 h.1
        refine ⟨k1, fun q hq hs => ?_⟩
        rcases List.mem_append.1 hq with h3 | h3
        · exact k2 q h3 hs
        · rw [List.mem_singleton.1 h3]; exact h.2
      · rename_i hx
        obtain ⟨k1, k2⟩ := ih.1 h
        refine ⟨k1, fun q hq hs => ?_⟩
        rcases List.mem_append.1 hq with h3 | h3
        · exact k2 q h3 hs
        · rw [List.mem_singleton.1 h3] at hs; exact absurd hs hx
    · rintro ⟨h1, h2⟩
      have h3 := ih.2 ⟨h1, fun q hq hs => h2 q (by simp [hq]) hs⟩
      split
      · rename_i hx
        rw [Nat.testBit_and, Bool.and_eq_true]
        exact ⟨h3, h2 x (by simp) hx⟩
      · exact h3
theorem alwF_bit {S : Swap} (hS : Valid S) (j t : Nat) : (alwF S j).testBit t = true ↔ ∀ q ∈ allP (openV S), sumTo (openV S) q S.boxes.length = bestN (openV S) → (q j).testBit t = true := by
  have hv := best_val (V := openV S) (allP (openV S)) (by intro h; have := now_mem hS; rw [h] at this; simp at this) (openV_ok hS)
  unfold alwF
  rw [alwOf_bit]
  constructor
  · rintro ⟨-, h⟩; exact h
  · intro h; exact ⟨h _ hv.1 hv.2.symm, h⟩

/-- a title is in a box in each best plan -/
def RAlw (S : Swap) (b t : Nat) : Prop := ∀ L ∈ fitA S, earnsAll S L < bestN (openV S) ∨ ((t : Nat) : Int) ∈ L.getD b []
theorem ralw_iff {S : Swap} (hS : Valid S) (b t : Nat) (hb : b < S.boxes.length) : RAlw S b t ↔ (alwF S b).testBit t = true := by
  rw [alwF_bit hS]
  constructor
  · intro h q hq hs
    obtain ⟨L, hL, rfl⟩ := fit_of hS hq
    obtain ⟨hP, hF⟩ := (mem_fitA L).1 hL
    rw [fit_sum hS hP] at hs
    rw [planTo_of (by have := hP.1; omega), maskOf_mem (hP.titles.getD b).mem]
    rcases h L hL with h1 | h1
    · omega
    · exact h1
  · intro h L hL
    obtain ⟨hP, hF⟩ := (mem_fitA L).1 hL
    have hm := (plan_mem hS hP).2 hF
    have hge := best_ge (openV_ok hS) _ _ hm
    have hge' : sumTo (openV S) (planTo L L.length) S.boxes.length ≤ bestN (openV S) := hge
    have hs := fit_sum hS hP
    by_cases he : earnsAll S L < bestN (openV S)
    · exact Or.inl he
    · have := h _ hm (by omega)
      rw [planTo_of (by have := hP.1; omega), maskOf_mem (hP.titles.getD b).mem] at this
      exact Or.inr this
/-- the reference's list -/
noncomputable def ralwTo (S : Swap) (b n : Nat) : List (Int × Int) := ((List.range n).filter fun t => bP (RAlw S b t)).map fun t : Nat => ((b : Int), (t : Int))
noncomputable def ralwL (S : Swap) : List (Int × Int) := (List.range S.boxes.length).flatMap fun b => ralwTo S b S.stock.length
theorem alwF_small {S : Swap} (hS : Valid S) (b t : Nat) (ht : S.stock.length ≤ t) : (alwF S b).testBit t = false := by
  cases h : (alwF S b).testBit t with
  | false => rfl
  | true =>
    have h1 := (alwF_bit hS b t).1 h
    have hv := best_val (V := openV S) (allP (openV S)) (by intro h; have := now_mem hS; rw [h] at this; simp at this) (openV_ok hS)
    have h2 := h1 _ hv.1 hv.2.symm
    have hp := (mem_allP (openV_ok hS) _).1 hv.1
    by_cases hb : b < S.boxes.length
    · have h3 := (hp.box b hb).1
      rw [Nat.testBit_lt_two_pow (Nat.lt_of_lt_of_le h3 (Nat.pow_le_pow_right (by decide) ht))] at h2
      cases h2
    · rw [hp.rest b (by show S.boxes.length ≤ b; omega)] at h2
      simp at h2
theorem filter_range_le (p : Nat → Bool) (T : Nat) : ∀ d, (∀ t, T ≤ t → p t = false) → (List.range (T + d)).filter p = (List.range T).filter p
  | 0, _ => rfl
  | d + 1, h => by
    rw [← Nat.add_assoc, List.range_succ, List.filter_append, filter_range_le p T d h]
    simp [h (T + d) (by omega)]
theorem ralw_alw {S : Swap} (hS : Valid S) : ralwL S = alwL S := by
  unfold ralwL alwL alwTo
  have hT := hS.stock
  have key : ∀ b, b < S.boxes.length → ralwTo S b S.stock.length = (lstOf (alwF S b)).map fun t => ((b : Int), t) := by
    intro b hb
    unfold ralwTo lstOf lstTo
    rw [List.map_map]
    have h1 : (List.range 6).filter (fun t => (alwF S b).testBit t) = (List.range S.stock.length).filter (fun t => (alwF S b).testBit t) := by
      have := filter_range_le (fun t => (alwF S b).testBit t) S.stock.length (6 - S.stock.length) (fun t ht => alwF_small hS b t ht)
      rwa [show S.stock.length + (6 - S.stock.length) = 6 from by omega] at this
    rw [h1]
    have h2 : (fun t => bP (RAlw S b t)) = fun t => (alwF S b).testBit t := by
      funext t
      by_cases h : RAlw S b t
      · rw [bP_t h, (ralw_iff hS b t hb).1 h]
      · rw [bP_f h]
        cases h3 : (alwF S b).testBit t with
        | false => rfl
        | true => exact absurd ((ralw_iff hS b t hb).2 h3) h
    rw [h2]
    rfl
  have : ∀ n, n ≤ S.boxes.length → (List.range n).flatMap (fun b => ralwTo S b S.stock.length) = (List.range n).flatMap fun b => (lstOf (alwF S b)).map fun t => ((b : Int), t) := by
    intro n
    induction n with
    | zero => intro _; rfl
    | succ n ih =>
      intro hn
      rw [List.range_succ, List.flatMap_append, List.flatMap_append, ih (by omega)]
      simp [key n (by omega)]
  exact this _ (Nat.le_refl _)
end Go.Proofs.Ytpgjkmjejpfkmaa
namespace Go.Proofs.Ytpgjkmjejpfkmaa
open Go.RowKit

theorem plan_ch {S : Swap} (hS : Valid S) {L : List (List Int)} (hL : IsPlan S L) (j : Nat) (hj : j < L.length) : popc (dif (planTo L L.length j) ((openV S).now j)) = chOf (S.boxes.getD j []) L[j] := by
  rw [planTo_of hj, show (openV S).now j = maskOf (S.boxes.getD j []) from nowTo_of (by have := hL.1; omega), ← getD_of_lt L [] j hj]
  exact mask_chAll hS.stock (hL.titles.getD j) (hS.titles.getD j).mem
/-- with copies enough: changes and keeps alone -/
theorem box_iff {S : Swap} (hS : Valid S) {L : List (List Int)} (hL : IsPlan S L) : (∀ k, k < S.boxes.length → FitBox (openV S) (planTo L L.length) k) ↔
    ((∀ j (h : j < L.length), (chOf (S.boxes.getD j []) L[j] : Int) ≤ S.changes) ∧ ∀ j (h : j < S.keeps.length), S.keeps[j].2 ∈ L.getD S.keeps[j].1.toNat []) := by
  obtain ⟨O, hO⟩ : ∃ O : Swap, O = { S with stock := List.replicate S.stock.length 9 } := ⟨_, rfl⟩
  have hlen : O.stock.length = S.stock.length := by rw [hO]; simp
  have hVO : Valid O := by
    subst hO
    refine ⟨hS.boxes, by rw [hlen]; exact hS.stock, by rw [hlen]; exact hS.earn, hS.keeps, hS.ch, fun i h => ?_, fun i h => ?_, hS.row, hS.cell, hS.keep⟩
    · rw [hlen]; exact hS.box i h
    · simp
  have hLO : IsPlan O L := by
    refine ⟨by rw [hL.1, hO], fun i h => ?_⟩
    rw [hlen]
    have := hL.2 i h
    rw [hO]
    exact this
  have hb3 := hS.boxes
  have hfit := fits_iff hVO hLO
  have hbx : O.boxes.length = S.boxes.length := by rw [hO]
  have hcnt : ∀ t, (cntL L t : Int) ≤ 3 := fun t => by have := cntL_le L t; have := hL.1; omega
  constructor
  · intro h
    have hF : FitsTo (openV O) (planTo L L.length) O.boxes.length := by
      refine ⟨fun k hk => ?_, fun t ht => ?_⟩
      · have := h k (by omega)
        subst hO
        exact this
      · rw [cntB_lists hLO.titles (by have := hL.1; omega)]
        show (cntL L t : Int) ≤ copiesTo O (nowTo O O.boxes.length) O.stock.length t
        unfold copiesTo
        split
        · rename_i htt
          have : O.stock.getD t 0 = 9 := by rw [getD_of_lt _ _ _ htt]; subst hO; simp
          have := hcnt t
          omega
        · rw [show cntL L t = 0 from ?_]
          · exact Int.le_refl _
          · unfold cntL
            rw [List.countP_eq_zero]
            intro l hl
            obtain ⟨i, hi, rfl⟩ := List.getElem_of_mem hl
            rw [inL_iff]
            intro hm
            have := (hL.titles i hi).mem _ hm
            omega
    have hP := hfit.1 hF
    subst hO
    exact ⟨hP.ch, hP.keep⟩
  · rintro ⟨h1, h2⟩ k hk
    have hP : FitP O L := by
      subst hO
      refine ⟨h1, h2, fun t ht => ?_⟩
      have := hcnt t
      have e : (List.replicate S.stock.length (9 : Int))[t]'ht = 9 := by simp
      show (cntL L t : Int) ≤ (List.replicate S.stock.length (9 : Int))[t]'ht + _
      rw [e]
      omega
    have := (hfit.2 hP).1 k (by omega)
    subst hO
    exact this

/-- one copy more -/
def copyS (S : Swap) (t : Nat) : Swap := { S with stock := S.stock.set t (S.stock.getD t 0 + 1) }
theorem copy_fit {S : Swap} (hS : Valid S) (t : Nat) (ht : t < S.stock.length) (L : List (List Int)) (hL : IsPlan S L) : FitP (copyS S t) L ↔ FitsTo (moreCopies (openV S) t) (planTo L L.length) S.boxes.length := by
  have hb3 := hS.boxes
  have hbi := box_iff hS hL
  have hs6 := hS.stock
  have hc : ∀ x, x < S.stock.length → (openV S).copies x = S.stock.getD x 0 + cntL S.boxes x := by
    intro x hx
    show copiesTo S (nowTo S S.boxes.length) S.stock.length x = _
    unfold copiesTo
    rw [if_pos hx, ← planTo_now, cntB_lists hS.titles hb3]
  have hst : ∀ x (hx : x < S.stock.length), (S.stock.set t (S.stock.getD t 0 + 1))[x]'(by rw [List.length_set]; exact hx) = S.stock.getD x 0 + (if x = t then 1 else 0) := by
    intro x hx
    rw [List.getElem_set]
    by_cases h : t = x
    · subst h; simp
    · rw [if_neg h, if_neg (Ne.symm h), getD_of_lt _ _ _ hx]; omega
  constructor
  · intro h
    refine ⟨hbi.2 ⟨h.ch, h.keep⟩, fun x hx => ?_⟩
    rw [cntB_lists hL.titles (by have := hL.1; omega)]
    show (cntL L x : Int) ≤ updI (openV S).copies t ((openV S).copies t + 1) x
    by_cases hxs : x < S.stock.length
    · have h1 := h.cnt x (by show x < (S.stock.set _ _).length; rw [List.length_set]; exact hxs)
      have h2 : (cntL L x : Int) ≤ (S.stock.set t (S.stock.getD t 0 + 1))[x]'(by rw [List.length_set]; exact hxs) + cntL S.boxes x := h1
      rw [hst x hxs] at h2
      unfold updI
      by_cases hxt : x = t
      · subst hxt
        rw [if_pos rfl, hc x hxs]
        rw [if_pos rfl] at h2
        omega
      · rw [if_neg hxt, hc x hxs]
        rw [if_neg hxt] at h2
        omega
    · have : cntL L x = 0 := by
        unfold cntL
        rw [List.countP_eq_zero]
        intro l hl
        obtain ⟨i, hi, rfl⟩ := List.getElem_of_mem hl
        rw [inL_iff]
        intro hm
        have := (hL.titles i hi).mem _ hm
        omega
      rw [this]
      unfold updI
      rw [if_neg (by omega)]
      exact ((openV_ok hS).copies x hx).1
  · rintro ⟨h1, h2⟩
    obtain ⟨k1, k2⟩ := hbi.1 h1
    refine ⟨k1, k2, fun x hx => ?_⟩
    have hxs : x < S.stock.length := by have h' : x < (S.stock.set t (S.stock.getD t 0 + 1)).length := hx; rwa [List.length_set] at h'
    have h3 := h2 x (by omega)
    rw [cntB_lists hL.titles (by have := hL.1; omega)] at h3
    have h4 : (cntL L x : Int) ≤ updI (openV S).copies t ((openV S).copies t + 1) x := h3
    show (cntL L x : Int) ≤ (S.stock.set t (S.stock.getD t 0 + 1))[x]'(by rw [List.length_set]; exact hxs) + cntL S.boxes x
    rw [hst x hxs]
    unfold updI at h4
    by_cases hxt : x = t
    · subst hxt
      rw [if_pos rfl, hc x hxs] at h4
      rw [if_pos rfl]
      omega
    · rw [if_neg hxt, hc x hxs] at h4
      rw [if_neg hxt]
      omega
end Go.Proofs.Ytpgjkmjejpfkmaa
namespace Go.Proofs.Ytpgjkmjejpfkmaa
open Go.RowKit

theorem lstP_planG {S : Swap} (hS : Valid S) {f : Nat → Nat} (hb : ∀ j, j < S.boxes.length → f j < 2 ^ S.stock.length ∧ popc (f j) = (S.boxes.getD j []).length) (hr : ∀ j, S.boxes.length ≤ j → f j = 0) :
    IsPlan S (lstP f S.boxes.length) ∧ planTo (lstP f S.boxes.length) (lstP f S.boxes.length).length = f := by
  have h64 : ∀ k, f k < 64 := by
    intro k
    by_cases hk : k < S.boxes.length
    · have := (hb k hk).1
      have h2 : 2 ^ S.stock.length ≤ 2 ^ 6 := Nat.pow_le_pow_right (by decide) hS.stock
      omega
    · rw [hr k (by omega)]; decide
  constructor
  · refine ⟨lstP_len _ _, fun i hi => ?_⟩
    have hi' : i < S.boxes.length := by rwa [lstP_len] at hi
    have hg := lstP_get f S.boxes.length i hi'
    rw [getD_of_lt _ _ _ hi] at hg
    obtain ⟨b1, b2⟩ := hb i hi'
    rw [hg]
    refine ⟨by rw [lst_len _ (h64 i)]; exact b2, rises_of_B (lst_rises S.stock.length hS.stock _ b1)⟩
  · funext j
    rw [lstP_len]
    by_cases hj : j < S.boxes.length
    · rw [planTo_of hj, lstP_get f _ j hj, lst_mask _ (h64 j)]
    · rw [planTo_not hj, hr j (by omega)]
theorem earnsTo_congr {S S' : Swap} (h : S'.earn = S.earn) (L : List (List Int)) : ∀ k, earnsTo S' L k = earnsTo S L k
  | 0 => rfl
  | k + 1 => by
    unfold earnsTo
    rw [earnsTo_congr h L k]
    unfold earnsIn
    rw [h]
theorem sumTo_congr {V V' : Visit} (h : V'.S.earn = V.S.earn) (f : Nat → Nat) : ∀ k, sumTo V' f k = sumTo V f k
  | 0 => rfl
  | k + 1 => by
    unfold sumTo
    rw [sumTo_congr h f k, h]
/-- the best of all plans of a visit that is as another, but for what fits -/
theorem maxE_gen {S S' : Swap} {V' : Visit} (hS : Valid S) (hO' : VOK V') (e1 : V'.S.boxes = S.boxes) (e2 : V'.S.stock.length = S.stock.length) (e3 : V'.S.earn = S.earn)
    (f1 : S'.boxes = S.boxes) (f2 : S'.stock.length = S.stock.length) (f3 : S'.earn = S.earn)
    (hfit : ∀ L, IsPlan S L → (FitP S' L ↔ FitsTo V' (planTo L L.length) S.boxes.length)) (hnow : FitP S' S.boxes) : maxE S' (fitA S') = bestN V' := by
  have hpl : ∀ L, IsPlan S' L ↔ IsPlan S L := fun L => by unfold IsPlan; rw [f1, f2]
  have hsum : ∀ L, IsPlan S L → sumTo V' (planTo L L.length) S.boxes.length = earnsAll S' L := by
    intro L hL
    rw [sumTo_congr (V := openV S) e3, fit_sum hS hL]
    exact (earnsTo_congr f3 L L.length).symm
  have hmem : ∀ L, IsPlan S L → FitP S' L → planTo L L.length ∈ allP V' := by
    intro L hL hf
    refine (mem_allP hO' _).2 ⟨fun j hj => ?_, fun j hj => planTo_not (by have := hL.1; rw [e1] at hj; omega), by rw [e1]; exact (hfit L hL).1 hf⟩
    rw [e1] at hj ⊢
    rw [e2]
    have hj' : j < L.length := by have := hL.1; omega
    rw [planTo_of hj']
    refine ⟨mask_pow (hL.titles.getD j), ?_⟩
    have h1 := (mask_box (S := S) (L.getD j []) S.stock.length 0 hS.stock (hL.titles.getD j)).1
    rw [h1, getD_of_lt _ _ _ hj']
    exact (hL.2 j hj').1
  have hnp := (fit_boxes hS).1
  have hne : allP V' ≠ [] := by
    intro h
    have := hmem _ hnp hnow
    rw [h] at this
    simp at this
  obtain ⟨h1, h2⟩ := best_val (V := V') (allP V') hne hO'
  obtain ⟨q, hq⟩ : ∃ q, q = (bestOf V' (allP V')).2 := ⟨_, rfl⟩
  rw [← hq] at h1 h2
  have hF := (mem_allP hO' q).1 h1
  obtain ⟨k1, k2⟩ := lstP_planG hS (f := q) (fun j hj => by have := hF.box j (by rw [e1]; exact hj); rw [e1, e2] at this; exact this) (fun j hj => hF.rest j (by rw [e1]; exact hj))
  have hfL : FitP S' (lstP q S.boxes.length) := (hfit _ k1).2 (by rw [k2]; have := hF.fits; rw [e1] at this; exact this)
  have h3 := (maxE_ge S' (fitA S')).2 _ ((mem_fitA _).2 ⟨(hpl _).2 k1, hfL⟩)
  have h4 : bestN V' = earnsAll S' (lstP q S.boxes.length) := by
    rw [← hsum _ k1, k2]
    unfold bestN
    rw [h2, e1]
  have h0 : 0 ≤ bestN V' := by
    unfold bestN
    rw [h2]
    exact (sumTo_bd hO' q _).1
  have h5 := maxE_le S' (fitA S') (bestN V') h0 (fun L hL => by
    obtain ⟨g3, g4⟩ := (mem_fitA L).1 hL
    have g3' := (hpl L).1 g3
    have := best_ge hO' _ _ (hmem L g3' g4)
    rw [e1, hsum L g3'] at this
    exact this)
  omega

/-- one change more -/
def changeS (S : Swap) : Swap := { S with changes := S.changes + 1 }
theorem change_fit {S : Swap} (hS : Valid S) (L : List (List Int)) (hL : IsPlan S L) : FitP (changeS S) L ↔ FitsTo (moreChanges (openV S)) (planTo L L.length) S.boxes.length := by
  have hV3 : Valid { S with changes := 3 } := ⟨hS.boxes, hS.stock, hS.earn, hS.keeps, ⟨by show (0 : Int) ≤ 3; omega, by show (3 : Int) ≤ 3; omega⟩, hS.box, hS.st, hS.row, hS.cell, hS.keep⟩
  have hi : FitsTo (openV { S with changes := 3 }) (planTo L L.length) S.boxes.length ↔ FitP { S with changes := 3 } L := fits_iff hV3 hL
  have hlen := hL.1
  have hc3 : ∀ j (h : j < L.length), (chOf (S.boxes.getD j []) L[j] : Int) ≤ 3 := by
    intro j h
    have h1 := chOf_le (S.boxes.getD j []) L[j]
    have h2 := hL.row_le hS j h
    omega
  have hpc := fun j (h : j < L.length) => plan_ch hS hL j h
  constructor
  · intro h
    have h3 := hi.2 ⟨hc3, h.keep, h.cnt⟩
    refine ⟨fun k hk => ⟨?_, (h3.1 k hk).2⟩, h3.2⟩
    have hk' : k < L.length := by omega
    have h4 := h.ch k hk'
    show (popc (dif (planTo L L.length k) ((openV S).now k)) : Int) ≤ S.changes + 1
    rw [hpc k hk']
    exact h4
  · intro h
    have h3 := hi.1 ⟨fun k hk => ⟨by
      show (popc (dif (planTo L L.length k) ((openV S).now k)) : Int) ≤ 3
      rw [hpc k (by omega)]
      exact hc3 k (by omega), (h.1 k hk).2⟩, h.2⟩
    refine ⟨fun j hj => ?_, h3.keep, h3.cnt⟩
    have h4 : (popc (dif (planTo L L.length j) ((openV S).now j)) : Int) ≤ S.changes + 1 := (h.1 j (by omega)).1
    rw [hpc j hj] at h4
    exact h4
theorem changeS_e {S : Swap} (hS : Valid S) : ValidE (changeS S) :=
  ⟨hS.boxes, hS.stock, hS.earn, hS.keeps, ⟨by show 0 ≤ S.changes + 1; have := hS.ch; omega, by show S.changes + 1 ≤ 4; have := hS.ch; omega⟩, hS.box, hS.e.st, hS.row, hS.cell, hS.keep⟩
theorem copyS_e {S : Swap} (hS : Valid S) (t : Nat) : ValidE (copyS S t) := by
  have hl : (copyS S t).stock.length = S.stock.length := by simp [copyS]
  refine ⟨hS.boxes, by rw [hl]; exact hS.stock, by rw [hl]; exact hS.earn, hS.keeps, hS.e.ch, fun i h => by rw [hl]; exact hS.box i h, fun i h => ?_, hS.row, hS.cell, hS.keep⟩
  have hi : i < S.stock.length := by rwa [hl] at h
  have h1 := hS.st i hi
  show 0 ≤ (S.stock.set t (S.stock.getD t 0 + 1))[i]'(by rw [List.length_set]; exact hi) ∧ (S.stock.set t (S.stock.getD t 0 + 1))[i]'(by rw [List.length_set]; exact hi) ≤ 10
  rw [List.getElem_set]
  split
  · rename_i h2
    subst h2
    rw [getD_of_lt _ _ _ hi]
    omega
  · omega
theorem change_max {S : Swap} (hS : Valid S) : maxE (changeS S) (fitA (changeS S)) = bestN (moreChanges (openV S)) := by
  have hf := (fit_boxes hS).2
  refine maxE_gen hS (moreChanges_ok (openV_ok hS) (by show S.changes ≤ 8; have := hS.ch; omega)) rfl rfl rfl rfl rfl rfl (change_fit hS) ⟨fun j h => ?_, hf.keep, hf.cnt⟩
  have := hf.ch j h
  show (chOf (S.boxes.getD j []) S.boxes[j] : Int) ≤ S.changes + 1
  omega
theorem copies_bd {S : Swap} (hS : Valid S) (t : Nat) : 0 ≤ (openV S).copies t ∧ (openV S).copies t ≤ 98 := by
  show 0 ≤ copiesTo S (nowTo S S.boxes.length) S.stock.length t ∧ copiesTo S (nowTo S S.boxes.length) S.stock.length t ≤ 98
  unfold copiesTo
  split
  · rename_i h
    have := hS.st t h
    have := cntB_le (nowTo S S.boxes.length) t 3
    rw [getD_of_lt _ _ _ h]
    omega
  · omega
theorem copy_max {S : Swap} (hS : Valid S) (t : Nat) (ht : t < S.stock.length) : maxE (copyS S t) (fitA (copyS S t)) = bestN (moreCopies (openV S) t) := by
  have hf := (fit_boxes hS).2
  refine maxE_gen hS (moreCopies_ok (openV_ok hS) t (copies_bd hS t).2 (copies_bd hS t).1) rfl rfl rfl rfl (by simp [copyS]) rfl (copy_fit hS t ht) ⟨hf.ch, hf.keep, fun x hx => ?_⟩
  have hl : (copyS S t).stock.length = S.stock.length := by simp [copyS]
  have hxs : x < S.stock.length := by rwa [hl] at hx
  have := hf.cnt x hxs
  show (cntL S.boxes x : Int) ≤ (S.stock.set t (S.stock.getD t 0 + 1))[x]'(by rw [List.length_set]; exact hxs) + cntL S.boxes x
  have h1 := hS.st x hxs
  rw [List.getElem_set]
  split
  · rename_i h2
    subst h2
    rw [getD_of_lt _ _ _ hxs]
    omega
  · omega
end Go.Proofs.Ytpgjkmjejpfkmaa
