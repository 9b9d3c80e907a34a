/- Plan as a plan; what a needle is worth, and the plans of the least cost at another price. -/
import Derived.Test.YtkcilgjkdiopnaaR3a
import Derived.Test.YtkcilgjkdiopnaaPl3
namespace Go.Proofs.Ytkcilgjkdiopnaa
open Go.RowKit

theorem planOf_len (X : Wr) (c : Ch) : (planOf X c).length = X.weeks.toNat := by simp [planOf]
theorem planOf_wk (X : Wr) (c : Ch) {k : Nat} (h : k < X.weeks.toNat) : wkAt (planOf X c) k = ⟨needBit c k, idxTo c k X.recs.length⟩ := by
  unfold wkAt planOf
  simp [List.getD, h]
theorem idxTo_mem (c : Ch) (k : Nat) (x : Int) : ∀ m : Nat, x ∈ idxTo c k m ↔ 0 ≤ x ∧ x < m ∧ (c.records.getD x.toNat 0).testBit k = true
  | 0 => by simp [idxTo]; omega
  | m + 1 => by
    simp only [idxTo]
    split
    · next h =>
      rw [List.mem_append, idxTo_mem c k x m, List.mem_singleton]
      constructor
      · rintro (h1 | rfl)
        · exact ⟨h1.1, by omega, h1.2.2⟩
        · exact ⟨by omega, by omega, by rw [Int.toNat_natCast]; exact h⟩
      · rintro ⟨h1, h2, h3⟩
        by_cases e : x = m
        · exact Or.inr e
        · exact Or.inl ⟨h1, by omega, h3⟩
    · next h =>
      rw [idxTo_mem c k x m]
      constructor
      · rintro ⟨h1, h2, h3⟩; exact ⟨h1, by omega, h3⟩
      · rintro ⟨h1, h2, h3⟩
        refine ⟨h1, ?_, h3⟩
        by_cases e : x = m
        · subst e; rw [Int.toNat_natCast] at h3; exact absurd h3 h
        · omega
theorem idxTo_rises (c : Ch) (k : Nat) (hi : Int) : ∀ m : Nat, (m : Int) - 1 ≤ hi → Rises (idxTo c k m) 0 hi
  | 0, _ => Rises.nil _ _
  | m + 1, h => by
    simp only [idxTo]
    have ih := idxTo_rises c k hi m (by omega)
    split
    · exact ih.put (by omega) (by omega) (fun x hx => ((idxTo_mem c k x m).1 hx).2.1)
    · exact ih
theorem planOf_ok {X : Wr} (hX : ValidW X) (c : Ch) : PlanOK X (planOf X c) := by
  refine ⟨by rw [planOf_len]; have := hX.weeks; omega, fun x hx => ?_⟩
  obtain ⟨k, -, rfl⟩ := List.mem_map.1 hx
  refine ⟨idxTo_rises c k _ _ (Int.le_refl _), ?_, ?_⟩
  · simp only [needBit]; split <;> decide
  · simp only [needBit]; split <;> decide
theorem cntN_plan (X : Wr) (c : Ch) : ∀ k : Nat, k ≤ X.weeks.toNat → cntN (planOf X c) k = popTo c.needles k
  | 0, _ => rfl
  | k + 1, h => by
    rw [popTo_succ]
    simp only [cntN]
    rw [cntN_plan X c k (by omega), planOf_wk X c (by omega)]
    simp only [needBit]
    split <;> simp

theorem choice_lt {X : Wr} {n : Nat} {c : Ch} (h : c ∈ choicesW X n) : c.needles < 2 ^ n ∧ chooseW X c.needles n = some c := by
  obtain ⟨N, hN, hcN⟩ := List.mem_filterMap.1 h
  have h2 := hcN
  unfold chooseW at h2
  obtain ⟨l2, -, rfl⟩ := Option.map_eq_some_iff.1 h2
  exact ⟨List.mem_range.1 hN, hcN⟩
theorem cntN_planOf {X : Wr} (hX : ValidW X) {c : Ch} (h : c ∈ choicesW X X.weeks.toNat) : cntN (planOf X c) (planOf X c).length = popc c.needles := by
  rw [planOf_len, cntN_plan _ _ _ (Nat.le_refl _), popc_popTo (by have := hX.weeks; omega) (choice_lt h).1]
theorem bestW_mem {X : Wr} {c : Ch} (h : bestW X = some c) : c ∈ choicesW X X.weeks.toNat := by
  obtain ⟨h1, -, -⟩ := leastL_spec _ _ none c h
  exact h1.elim (fun h => h) (fun h => by cases h)
theorem Plan03n (v : Value) (X : Wr) (w : World) (hv : WrV w v X) (hX : ValidW X) (h : bestW X = none) : Calls Try.prog 42 #[v] w (RetE (.tuple #[.slice none 0 0, .int .i64 3]) w) := by
  refine (Plan03 v X w hv hX (modest_valid hX)).mono ?_
  rintro e w' ⟨hE, h2⟩
  rw [h] at h2
  exact ⟨h2, hE⟩
theorem Plan03s (v : Value) (X : Wr) (w : World) (hv : WrV w v X) (hX : ValidW X) {c : Ch} (h : bestW X = some c) : Calls Try.prog 42 #[v] w (fun e w' => Ext w w' ∧ ∃ G cap,
    e = .returned (.tuple #[.slice (some ⟨G, 0, none⟩) (planOf X c).length cap, .int .i64 0]) ∧ WksAt w' (some ⟨G, 0, none⟩) (planOf X c)) := by
  refine (Plan03 v X w hv hX (modest_valid hX)).mono ?_
  rintro e w' ⟨hE, h2⟩
  rw [h] at h2
  exact ⟨hE, h2⟩

/-! prices -/
theorem minTo_le {X : Wr} {price m : Int} : ∀ l : List Ch, minTo X price m l ≤ m ∧ (∀ c ∈ l, minTo X price m l ≤ allW X c price) ∧ (minTo X price m l = m ∨ ∃ c ∈ l, allW X c price = minTo X price m l) := by
  intro l
  induction l generalizing m with
  | nil => exact ⟨Int.le_refl _, (fun c hc => by cases hc), Or.inl rfl⟩
  | cons d r ih =>
    obtain ⟨h1, h2, h3⟩ := ih (m := min m (allW X d price))
    have e : minTo X price m (d :: r) = minTo X price (min m (allW X d price)) r := rfl
    rw [e]
    refine ⟨by omega, fun c hc => ?_, ?_⟩
    · rcases List.mem_cons.1 hc with rfl | hc
      · omega
      · exact h2 c hc
    · rcases h3 with h3 | ⟨c, hc, h3⟩
      · by_cases e2 : m ≤ allW X d price
        · exact Or.inl (by omega)
        · exact Or.inr ⟨d, List.mem_cons_self .., by omega⟩
      · exact Or.inr ⟨c, List.mem_cons_of_mem _ hc, h3⟩
theorem minP_spec {X : Wr} {l : List Ch} {price : Int} (hl : l ≠ []) : (∃ c ∈ l, allW X c price = minP X l price) ∧ ∀ c ∈ l, minP X l price ≤ allW X c price := by
  obtain ⟨h1, h2, h3⟩ := minTo_le (X := X) (price := price) (m := allW X (l.getD 0 ⟨0, []⟩) price) l
  refine ⟨?_, h2⟩
  rcases h3 with h3 | h3
  · cases l with
    | nil => exact absurd rfl hl
    | cons d r => exact ⟨d, List.mem_cons_self .., h3.symm⟩
  · exact h3
theorem popc_zero : popc 0 = 0 := by decide
theorem popc_pos64 : ∀ m : Fin 64, m.1 ≠ 0 → 0 < popc m.1 := by decide
theorem popc_pos {m : Nat} (h : m < 64) (h0 : m ≠ 0) : 0 < popc m := popc_pos64 ⟨m, h⟩ h0
def priceX (X : Wr) (p : Int) : Wr := { X with price := p }
theorem price_alike (X : Wr) (p : Int) (n : Nat) : Alike n X (priceX X p) where
  age := rfl
  step := rfl
  rough := rfl
  len := rfl
  worn := fun _ => rfl
  limit := fun _ => rfl
  plays := fun _ _ _ => rfl
theorem price_valid {X : Wr} (hX : ValidW X) {p : Int} (hp : 0 ≤ p ∧ p ≤ 999) : ValidW (priceX X p) := ⟨hX.weeks, hX.age, hX.step, hp, hX.rough, hX.recs, hX.rg, hX.up, hX.rc⟩
theorem price_cost (X : Wr) (p : Int) (c : Ch) : ∀ n, costTo (priceX X p) c n = costTo X c n
  | 0 => rfl
  | n + 1 => by
    simp only [costTo, price_cost X p c n]
    rfl
theorem price_best (X : Wr) (p : Int) : bestW (priceX X p) = leastL (fun c => allW X c p) (choicesW X X.weeks.toNat) := by
  unfold bestW
  rw [← (price_alike X p _).choices]
  have : (fun c => allW (priceX X p) c (priceX X p).price) = fun c => allW X c p := by
    funext c
    unfold allW
    rw [price_cost]
    rfl
  rw [this]
  rfl
theorem best_min {X : Wr} {p : Int} {l : List Ch} {c : Ch} (h : leastL (fun c => allW X c p) l = some c) : c ∈ l ∧ ∀ d ∈ l, allW X c p ≤ allW X d p := by
  obtain ⟨h1, h2, -⟩ := leastL_spec (fun c => allW X c p) l none c h
  exact ⟨h1.elim (fun h => h) (fun h => by cases h), h2⟩
theorem worthTo_some {X : Wr} {l : List Ch} : ∀ {N n : Nat}, worthTo X l N = some n → n < N ∧ paysB X l n = true ∧ ∀ m : Nat, n < m → m < N → paysB X l m = false
  | 0, n, h => by cases h
  | N + 1, n, h => by
    simp only [worthTo] at h
    split at h
    · next hp =>
      cases h
      exact ⟨Nat.lt_succ_self _, hp, fun m h1 h2 => by omega⟩
    · next hp =>
      obtain ⟨h1, h2, h3⟩ := worthTo_some h
      refine ⟨by omega, h2, fun m h4 h5 => ?_⟩
      by_cases e : m = N
      · subst e; simpa using hp
      · exact h3 m h4 (by omega)
theorem worthTo_none {X : Wr} {l : List Ch} : ∀ {N : Nat}, worthTo X l N = none → ∀ m : Nat, m < N → paysB X l m = false
  | 0, _, m, h => by omega
  | N + 1, h, m, hm => by
    simp only [worthTo] at h
    split at h
    · cases h
    · next hp =>
      by_cases e : m = N
      · subst e; simpa using hp
      · exact worthTo_none h m (by omega)
theorem not_pays {X : Wr} {l : List Ch} {p : Int} {c : Ch} (hb : leastL (fun c => allW X c p) l = some c) (h : paysB X l p = false) : popc c.needles = 0 := by
  obtain ⟨hc, hm⟩ := best_min hb
  obtain ⟨⟨d, hd, e⟩, h2⟩ := minP_spec (X := X) (price := p) (List.ne_nil_of_mem hc)
  by_cases e0 : c.needles = 0
  · rw [e0]; exact popc_zero
  · have := (paysB_iff X l p).2 ⟨c, hc, e0, by have := hm d hd; have := h2 c hc; omega⟩
    rw [h] at this; cases this
theorem pays_below {X : Wr} {l : List Ch} {p n : Int} {c : Ch} (h64 : ∀ d ∈ l, d.needles < 64) (hb : leastL (fun c => allW X c p) l = some c) (hn : paysB X l n = true) (hp : p < n) : 0 < popc c.needles := by
  obtain ⟨hc, hm⟩ := best_min hb
  obtain ⟨d, hd, hd0, e⟩ := (paysB_iff X l n).1 hn
  have h2 := (minP_spec (X := X) (price := n) (List.ne_nil_of_mem hc)).2 c hc
  have h3 := hm d hd
  have h4 := popc_pos (h64 d hd) hd0
  by_cases e0 : c.needles = 0
  · exfalso
    rw [← e] at h2
    unfold allW at h2 h3
    rw [e0, popc_zero] at h2 h3
    have h5 : (popc d.needles : Int) * p < popc d.needles * n := Int.mul_lt_mul_of_pos_left hp (by omega)
    simp only [Int.natCast_zero, Int.zero_mul] at h2 h3
    omega
  · exact popc_pos (h64 c hc) e0
/-- Worth, and a plan of the least cost at another price -/
theorem pays_law {X : Wr} (hX : ValidW X) {p : Int} (hp : 0 ≤ p ∧ p ≤ 999) : ∃ n e : Int, worthV X = .tuple #[.int .i64 n, .int .i64 e] ∧ (e = 0 ∨ e = 3) ∧ 0 ≤ n ∧ n ≤ 999 ∧
    ((bestW (priceX X p) = none ∧ e = 3) ∨ ∃ c, bestW (priceX X p) = some c ∧ ChOK (priceX X p) c ∧ (e = 3 → popc c.needles = 0) ∧ (e = 0 → (n ≤ p ∨ 0 < popc c.needles) ∧ (p ≤ n ∨ popc c.needles = 0))) := by
  obtain ⟨p', rfl⟩ : ∃ p' : Nat, p = p' := ⟨p.toNat, by omega⟩
  have hcase : ∀ {x : Int}, (bestW (priceX X x) = none ↔ bestW X = none) := fun {x} => by
    rw [price_best]
    unfold bestW
    rw [leastL_none, leastL_none]
  have h64 : ∀ d ∈ choicesW X X.weeks.toNat, d.needles < 64 := fun d hd => (choices_ok hX (by have := hX.weeks; omega) hd).needles
  cases hb : bestW X with
  | none => exact ⟨0, 3, by unfold worthV; rw [hb], Or.inr rfl, by decide, by decide, Or.inl ⟨hcase.2 hb, rfl⟩⟩
  | some c0 =>
    obtain ⟨c, hc⟩ : ∃ c, bestW (priceX X (p' : Int)) = some c := by
      cases h : bestW (priceX X (p' : Int)) with
      | none => rw [hcase] at h; rw [h] at hb; cases hb
      | some c => exact ⟨c, rfl⟩
    have hok := bestW_ok (price_valid hX hp) hc
    have hcl := hc
    rw [price_best] at hcl
    cases hw : worthTo X (choicesW X X.weeks.toNat) 1000 with
    | none =>
      refine ⟨0, 3, by unfold worthV; rw [hb, hw], Or.inr rfl, by decide, by decide, Or.inr ⟨c, hc, hok, fun _ => not_pays hcl (worthTo_none hw p' (by omega)), fun h => absurd h (by decide)⟩⟩
    | some n =>
      obtain ⟨h1, h2, h3⟩ := worthTo_some hw
      refine ⟨n, 0, by unfold worthV; rw [hb, hw], Or.inl rfl, by omega, by omega, Or.inr ⟨c, hc, hok, fun h => absurd h (by decide), fun _ => ⟨?_, ?_⟩⟩⟩
      · by_cases e : (n : Int) ≤ p'
        · exact Or.inl e
        · exact Or.inr (pays_below h64 hcl h2 (by omega))
      · by_cases e : (p' : Int) ≤ n
        · exact Or.inl e
        · exact Or.inr (not_pays hcl (h3 p' (by omega) (by omega)))
end Go.Proofs.Ytkcilgjkdiopnaa
