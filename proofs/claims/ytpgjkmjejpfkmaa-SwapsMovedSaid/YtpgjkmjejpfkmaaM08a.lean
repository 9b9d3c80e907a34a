/- The plain law of the moved earnings. -/
import Derived.Test.YtpgjkmjejpfkmaaA07d
namespace Go.Proofs.Ytpgjkmjejpfkmaa
open Go.RowKit

/-- a visit that earns otherwise -/
def withEarn (S : Swap) (E : List (List Int)) : Swap := { S with earn := E }
theorem plansL_earn (V : Visit) (E : List (List Int)) : ∀ d f k, plansL { V with S := withEarn V.S E } d f k = plansL V d f k
  | 0, _, _ => rfl
  | d + 1, f, k => by
    unfold plansL
    simp only [plansL_earn V E d]
    rfl
theorem open_earn (S : Swap) (E : List (List Int)) : openV (withEarn S E) = { openV S with S := withEarn S E } := rfl
theorem allP_earn (V : Visit) (E : List (List Int)) : allP { V with S := withEarn V.S E } = allP V := plansL_earn V E _ _ _

/-- how many of the first titles are in a set -/
def cntT (m : Nat) : Nat → Nat
  | 0 => 0
  | n + 1 => cntT m n + (if m.testBit n then 1 else 0)
theorem cntT_popc : ∀ T : Nat, T ≤ 6 → ∀ m, m < 2 ^ T → cntT m T = popc m := by
  have h : ∀ T : Nat, T < 7 → ∀ m, m < 2 ^ T → cntT m T = popc m := by decide +kernel
  exact fun T hT => h T (by omega)

/-- E' earns k more in box b -/
structure Moved (E E' : List (List Int)) (b : Nat) (k : Int) : Prop where
  len : E'.length = E.length
  at_ : ∀ t, t < E.length → (E'.getD t []).getD b 0 = (E.getD t []).getD b 0 + k
  other : ∀ t j, j ≠ b → (E'.getD t []).getD j 0 = (E.getD t []).getD j 0

theorem moved_earnTo {E E' : List (List Int)} {b : Nat} {k : Int} (h : Moved E E' b k) (m : Nat) : ∀ n, n ≤ E.length → earnTo E' m b n = earnTo E m b n + k * cntT m n
  | 0, _ => by simp [earnTo, cntT]
  | n + 1, hn => by
    have h1 := moved_earnTo h m n (by omega)
    have h2 := h.at_ n (by omega)
    unfold earnTo cntT
    rw [h1, h2]
    split
    · rw [Int.natCast_add, Int.mul_add]
      simp
      omega
    · simp
theorem moved_other {E E' : List (List Int)} {b : Nat} {k : Int} (h : Moved E E' b k) (m j : Nat) (hj : j ≠ b) : ∀ n, earnTo E' m j n = earnTo E m j n
  | 0 => rfl
  | n + 1 => by
    unfold earnTo
    rw [moved_other h m j hj n, h.other n j hj]

/-- by how much a plan earns more -/
theorem moved_sum {V : Visit} {E' : List (List Int)} {b : Nat} {k : Int} (hO : VOK V) (h : Moved V.S.earn E' b k) {q : Nat → Nat} (hq : q ∈ allP V) : ∀ n, n ≤ V.S.boxes.length →
    sumTo { V with S := withEarn V.S E' } q n = sumTo V q n + (if b < n then k * ((V.S.boxes.getD b []).length : Int) else 0)
  | 0, _ => by simp [sumTo]
  | n + 1, hn => by
    have h1 := moved_sum hO h hq n (by omega)
    have hp := (mem_allP hO q).1 hq
    unfold sumTo
    rw [h1]
    show _ + earnTo E' (q n) n E'.length = _
    rw [h.len]
    by_cases hb : n = b
    · subst hb
      obtain ⟨b1, b2⟩ := hp.box n (by omega)
      rw [moved_earnTo h _ _ (Nat.le_refl _), if_neg (by omega), if_pos (by omega)]
      have : cntT (q n) V.S.earn.length = (V.S.boxes.getD n []).length := by
        rw [hO.earn, cntT_popc _ hO.stock _ b1, b2]
      rw [this]
      omega
    · rw [moved_other h _ _ hb]
      by_cases hlt : b < n
      · rw [if_pos hlt, if_pos (by omega)]; omega
      · rw [if_neg hlt, if_neg (by omega)]; omega

theorem moved_bestOf {V V' : Visit} {d : Int} (hl : V'.S.boxes.length = V.S.boxes.length) (hO : VOK V) (hd : 0 ≤ d) (L : List (Nat → Nat)) (hL : ∀ q ∈ L, sumTo V' q V.S.boxes.length = sumTo V q V.S.boxes.length + d) :
    L = [] ∨ bestOf V' L = ((bestOf V L).1 + d, (bestOf V L).2) := by
  induction L using snocInd with
  | h0 => exact Or.inl rfl
  | hs l x ih =>
    refine Or.inr ?_
    have hx := hL x (by simp)
    have h0 := (sumTo_bd hO x V.S.boxes.length).1
    rw [bestOf_snoc, bestOf_snoc]
    unfold bestStep
    rw [hl, hx]
    rcases ih (fun q hq => hL q (by simp [hq])) with rfl | h
    · have e1 : (bestOf V' []).1 = -1 := rfl
      have e2 : (bestOf V []).1 = -1 := rfl
      rw [e1, e2, if_pos (by omega), if_pos (by omega)]
    · rw [h]
      by_cases hlt : (bestOf V l).1 < sumTo V x V.S.boxes.length
      · rw [if_pos hlt, if_pos (by show (bestOf V l).1 + d < _; omega)]
      · rw [if_neg hlt, if_neg (by show ¬(bestOf V l).1 + d < _; omega)]
theorem moved_alwOf {V V' : Visit} {d m : Int} (hl : V'.S.boxes.length = V.S.boxes.length) (c : Nat → Nat) (L : List (Nat → Nat)) (hL : ∀ q ∈ L, sumTo V' q V.S.boxes.length = sumTo V q V.S.boxes.length + d) :
    alwOf V' (m + d) c L = alwOf V m c L := by
  induction L using snocInd with
  | h0 => rfl
  | hs l x ih =>
    rw [alwOf_snoc, alwOf_snoc, ih (fun q hq => hL q (by simp [hq]))]
    unfold alwStep
    rw [hl, hL x (by simp)]
    funext j
    by_cases h : sumTo V x V.S.boxes.length = m
    · rw [if_pos h, if_pos (by omega)]
    · rw [if_neg h, if_neg (by omega)]

theorem allP_ne {S : Swap} (hS : Valid S) : allP (openV S) ≠ [] := by
  intro h
  have := now_mem hS
  rw [h] at this
  simp at this
/-- the theorem of the moved earnings -/
theorem moved_all {S : Swap} {E : List (List Int)} {b : Nat} {k : Int} (hS : Valid S) (hk : 0 ≤ k) (hb : b < S.boxes.length) (h : Moved S.earn E b k) :
    bestOf (openV (withEarn S E)) (allP (openV (withEarn S E))) = ((bestOf (openV S) (allP (openV S))).1 + k * ((S.boxes.getD b []).length : Int), (bestOf (openV S) (allP (openV S))).2) ∧ alwL (withEarn S E) = alwL S := by
  have hO := openV_ok hS
  have hd : 0 ≤ k * ((S.boxes.getD b []).length : Int) := Int.mul_nonneg hk (by omega)
  have ha : allP (openV (withEarn S E)) = allP (openV S) := allP_earn (openV S) E
  have hL : ∀ q ∈ allP (openV S), sumTo (openV (withEarn S E)) q (openV S).S.boxes.length = sumTo (openV S) q (openV S).S.boxes.length + k * ((S.boxes.getD b []).length : Int) := by
    intro q hq
    have := moved_sum hO (V := openV S) h hq S.boxes.length (Nat.le_refl _)
    rw [if_pos hb] at this
    exact this
  rcases moved_bestOf (V := openV S) (V' := openV (withEarn S E)) rfl hO hd _ hL with h0 | h1
  · exact absurd h0 (allP_ne hS)
  · rw [ha]
    refine ⟨h1, ?_⟩
    unfold alwL alwF
    rw [ha, h1]
    show alwTo (alwOf (openV (withEarn S E)) (_ + _) _ (allP (openV S))) S.boxes.length = _
    rw [moved_alwOf (V := openV S) (V' := openV (withEarn S E)) rfl _ _ hL]
theorem moved_copy {S : Swap} {E : List (List Int)} {b : Nat} {k : Int} (hS : Valid S) (hS' : Valid (withEarn S E)) (hk : 0 ≤ k) (hb : b < S.boxes.length) (h : Moved S.earn E b k) (t : Int) : copyV (withEarn S E) t = copyV S t := by
  unfold copyV
  rw [if_pos (bP_t hS), if_pos (bP_t hS')]
  have e0 : (withEarn S E).stock = S.stock := rfl
  rw [e0]
  by_cases ht : 0 ≤ t ∧ t ≤ (S.stock.length : Int) - 1
  · rw [if_pos (bP_t ht), if_pos (bP_t ht)]
    have hO := openV_ok hS
    have hd : 0 ≤ k * ((S.boxes.getD b []).length : Int) := Int.mul_nonneg hk (by omega)
    have hcp := (openV_ok hS).copies
    have hc0 : 0 ≤ (openV S).copies t.toNat ∧ (openV S).copies t.toNat ≤ 98 := by
      have hs6 := hS.stock
      have hst := hS.st t.toNat (by omega)
      have hcb := cntB_le (nowTo S S.boxes.length) t.toNat 3
      show 0 ≤ copiesTo S (nowTo S S.boxes.length) S.stock.length t.toNat ∧ copiesTo S (nowTo S S.boxes.length) S.stock.length t.toNat ≤ 98
      unfold copiesTo
      rw [if_pos (by omega), getD_of_lt _ _ _ (by omega : t.toNat < S.stock.length)]
      omega
    have hOm := moreCopies_ok hO t.toNat hc0.2 hc0.1
    obtain ⟨h1, -⟩ := moved_all hS hk hb h
    have hm : moreCopies (openV (withEarn S E)) t.toNat = { moreCopies (openV S) t.toNat with S := withEarn S E } := rfl
    have ha : allP (moreCopies (openV (withEarn S E)) t.toNat) = allP (moreCopies (openV S) t.toNat) := by
      rw [hm]; exact allP_earn (moreCopies (openV S) t.toNat) E
    have hL : ∀ q ∈ allP (moreCopies (openV S) t.toNat), sumTo (moreCopies (openV (withEarn S E)) t.toNat) q (moreCopies (openV S) t.toNat).S.boxes.length = sumTo (moreCopies (openV S) t.toNat) q (moreCopies (openV S) t.toNat).S.boxes.length + k * ((S.boxes.getD b []).length : Int) := by
      intro q hq
      have := moved_sum hOm (V := moreCopies (openV S) t.toNat) h hq S.boxes.length (Nat.le_refl _)
      rw [if_pos hb] at this
      exact this
    have hne : allP (moreCopies (openV S) t.toNat) ≠ [] := by
      intro h0
      have hn := (mem_allP hO _).1 (now_mem hS)
      have : nowTo S S.boxes.length ∈ allP (moreCopies (openV S) t.toNat) := by
        refine (mem_allP hOm _).2 ⟨hn.box, hn.rest, hn.fits.1, fun x hx => ?_⟩
        have h1 := hn.fits.2 x hx
        show _ ≤ updI (openV S).copies t.toNat ((openV S).copies t.toNat + 1) x
        unfold updI
        split
        · rename_i he; subst he; omega
        · exact h1
      rw [h0] at this
      simp at this
    rcases moved_bestOf (V := moreCopies (openV S) t.toNat) (V' := moreCopies (openV (withEarn S E)) t.toNat) rfl hOm hd _ hL with h0 | h2
    · exact absurd h0 hne
    · unfold bestN
      rw [ha, h2, h1]
      congr 3
      simp only
      congr 1
      omega
  · rw [if_neg (by rw [bP_iff]; exact ht), if_neg (by rw [bP_iff]; exact ht)]
end Go.Proofs.Ytpgjkmjejpfkmaa
