/- The reference's pays: the plain law. -/
import Derived.Test.YtkcilgjkdiopnaaR3n
namespace Go.Proofs.Ytkcilgjkdiopnaa
open Go.RowKit

def payN (p : Int) (c : RC) : Int := c.cost + c.needles * p
def withR (p : Int) (l : List RC) : Nat → Int
  | 0 => -1
  | k + 1 => if (rcAt l k).needles = 0 then withR p l k else if withR p l k < 0 ∨ payN p (rcAt l k) < withR p l k then payN p (rcAt l k) else withR p l k
def withoutR (p : Int) (l : List RC) : Nat → Int
  | 0 => -1
  | k + 1 => if (rcAt l k).needles = 0 then payN p (rcAt l k) else withoutR p l k
def paysR (p : Int) (l : List RC) : Bool := decide (0 ≤ withR p l l.length ∧ (withoutR p l l.length < 0 ∨ withR p l l.length ≤ withoutR p l l.length))
theorem withR_spec {p : Int} {l : List RC} (h0 : ∀ c ∈ l, 0 ≤ payN p c) : ∀ k, k ≤ l.length → -1 ≤ withR p l k ∧ (withR p l k < 0 → ∀ i (h : i < l.length), i < k → l[i].needles = 0) ∧
    (0 ≤ withR p l k → (∃ c ∈ l, c.needles ≠ 0 ∧ payN p c = withR p l k) ∧ ∀ i (h : i < l.length), i < k → l[i].needles ≠ 0 → withR p l k ≤ payN p l[i])
  | 0, _ => ⟨by simp [withR], fun _ i _ hi => by omega, fun h => by simp [withR] at h⟩
  | k + 1, hk => by
    obtain ⟨h1, h2, h3⟩ := withR_spec h0 k (by omega)
    have hkl : k < l.length := by omega
    have hp := h0 _ (List.getElem_mem hkl)
    simp only [withR]
    rw [rcAt_eq hkl]
    by_cases e : l[k].needles = 0
    · rw [if_pos e]
      refine ⟨h1, fun h i hi hik => ?_, fun h => ⟨(h3 h).1, fun i hi hik hn => ?_⟩⟩
      · by_cases e2 : i = k
        · subst e2; exact e
        · exact h2 h i hi (by omega)
      · by_cases e2 : i = k
        · subst e2; exact absurd e hn
        · exact (h3 h).2 i hi (by omega) hn
    · rw [if_neg e]
      by_cases hc : withR p l k < 0 ∨ payN p l[k] < withR p l k
      · rw [if_pos hc]
        refine ⟨by omega, fun h => by omega, fun _ => ⟨⟨l[k], List.getElem_mem hkl, e, rfl⟩, fun i hi hik hn => ?_⟩⟩
        by_cases e2 : i = k
        · subst e2; exact Int.le_refl _
        · by_cases hneg : withR p l k < 0
          · exact absurd (h2 hneg i hi (by omega)) hn
          · have := (h3 (by omega)).2 i hi (by omega) hn
            omega
      · rw [if_neg hc]
        refine ⟨h1, fun h => absurd (Or.inl h) hc, fun h => ⟨(h3 h).1, fun i hi hik hn => ?_⟩⟩
        by_cases e2 : i = k
        · subst e2; omega
        · exact (h3 h).2 i hi (by omega) hn
theorem withoutR_spec {p : Int} {l : List RC} (h0 : ∀ c ∈ l, 0 ≤ payN p c) : ∀ k, k ≤ l.length → -1 ≤ withoutR p l k ∧ (withoutR p l k < 0 → ∀ i (h : i < l.length), i < k → l[i].needles ≠ 0) ∧
    (0 ≤ withoutR p l k → ∃ c ∈ l, c.needles = 0 ∧ payN p c = withoutR p l k)
  | 0, _ => ⟨by simp [withoutR], fun _ i _ hi => by omega, fun h => by simp [withoutR] at h⟩
  | k + 1, hk => by
    obtain ⟨h1, h2, h3⟩ := withoutR_spec h0 k (by omega)
    have hkl : k < l.length := by omega
    have hp := h0 _ (List.getElem_mem hkl)
    simp only [withoutR]
    rw [rcAt_eq hkl]
    by_cases e : l[k].needles = 0
    · rw [if_pos e]
      exact ⟨by omega, fun h => by omega, fun _ => ⟨l[k], List.getElem_mem hkl, e, rfl⟩⟩
    · rw [if_neg e]
      refine ⟨h1, fun h i hi hik => ?_, h3⟩
      by_cases e2 : i = k
      · subst e2; exact e
      · exact h2 h i hi (by omega)
/-- a choice as the reference keeps it -/
def rcOf (X : Wr) (c : Ch) : RC := ⟨popc c.needles, costTo X c c.records.length, replW c⟩
theorem payN_of (X : Wr) (p : Int) (c : Ch) : payN p (rcOf X c) = allW X c p := rfl
theorem payN_pos {X : Wr} (hX : ValidW X) {p : Int} (hp : 0 ≤ p ∧ p ≤ 999) : ∀ c ∈ refL X, 0 ≤ payN p c := fun c hc => by
  rw [refL_eq hX] at hc
  obtain ⟨d, hd, rfl⟩ := List.mem_map.1 hc
  exact (allW_bd hX (choices_ok hX (by have := hX.weeks; omega) hd) hp).1
/-- there is one choice of no needle at the most -/
theorem none_once {X : Wr} {c d : Ch} (hc : c ∈ choicesW X X.weeks.toNat) (hd : d ∈ choicesW X X.weeks.toNat) (e : c.needles = d.needles) : c = d := by
  obtain ⟨N, -, hN⟩ := List.mem_filterMap.1 hc
  obtain ⟨M, -, hM⟩ := List.mem_filterMap.1 hd
  have h1 : c.needles = N := by unfold chooseW at hN; obtain ⟨rl, -, h⟩ := Option.map_eq_some_iff.1 hN; rw [← h]
  have h2 : d.needles = M := by unfold chooseW at hM; obtain ⟨rl, -, h⟩ := Option.map_eq_some_iff.1 hM; rw [← h]
  rw [← h1, e, h2, hM] at hN
  exact (Option.some.inj hN).symm
theorem pays_eq {X : Wr} (hX : ValidW X) {p : Int} (hp : 0 ≤ p ∧ p ≤ 999) : paysR p (refL X) = paysB X (choicesW X X.weeks.toNat) p := by
  have h0 := payN_pos hX hp
  have hok : ∀ c ∈ choicesW X X.weeks.toNat, c.needles < 64 := fun c hc => (choices_ok hX (by have := hX.weeks; omega) hc).needles
  obtain ⟨a1, a2, a3⟩ := withR_spec h0 (refL X).length (Nat.le_refl _)
  obtain ⟨b1, b2, b3⟩ := withoutR_spec h0 (refL X).length (Nat.le_refl _)
  have mem : ∀ c, c ∈ refL X ↔ ∃ d ∈ choicesW X X.weeks.toNat, rcOf X d = c := fun c => by rw [refL_eq hX]; exact List.mem_map
  have idx : ∀ {c}, c ∈ refL X → ∃ (i : Nat) (h : i < (refL X).length), (refL X)[i] = c := fun h => List.mem_iff_getElem.1 h
  have zero : ∀ {d : Ch}, d ∈ choicesW X X.weeks.toNat → ((rcOf X d).needles = 0 ↔ d.needles = 0) := fun {d} hd => by
    constructor
    · intro h
      by_cases e : d.needles = 0
      · exact e
      · have := popc_pos (hok d hd) e
        have h2 : (popc d.needles : Int) = 0 := h
        omega
    · intro h
      show (popc d.needles : Int) = 0
      rw [h, popc_zero]
      rfl
  rw [Bool.eq_iff_iff, paysB_iff]
  simp only [paysR, decide_eq_true_eq]
  constructor
  · rintro ⟨h1, h2⟩
    obtain ⟨⟨c, hc, hc0, hce⟩, hmin⟩ := a3 h1
    obtain ⟨d, hd, rfl⟩ := (mem c).1 hc
    obtain ⟨⟨m, hm, hme⟩, hle⟩ := minP_spec (X := X) (price := p) (List.ne_nil_of_mem hd)
    refine ⟨d, hd, fun e => hc0 ((zero hd).2 e), ?_⟩
    rw [payN_of] at hce
    have h3 := hle d hd
    by_cases em : m.needles = 0
    · have hmr : rcOf X m ∈ refL X := (mem _).2 ⟨m, hm, rfl⟩
      obtain ⟨i, hi, hie⟩ := idx hmr
      have hnn : ¬withoutR p (refL X) (refL X).length < 0 := fun hneg => b2 hneg i hi hi (by rw [hie]; exact (zero hm).2 em)
      obtain ⟨c2, hc2, hc20, hc2e⟩ := b3 (by omega)
      obtain ⟨m2, hm2, rfl⟩ := (mem c2).1 hc2
      have : m2 = m := none_once hm2 hm (by rw [(zero hm2).1 hc20, em])
      subst this
      rw [payN_of] at hc2e
      omega
    · obtain ⟨i, hi, hie⟩ := idx ((mem _).2 ⟨m, hm, rfl⟩)
      have h4 := hmin i hi hi (by rw [hie]; exact fun e => em ((zero hm).1 e))
      rw [hie, payN_of] at h4
      omega
  · rintro ⟨c, hc, hc0, hce⟩
    obtain ⟨⟨m, hm, hme⟩, hle⟩ := minP_spec (X := X) (price := p) (List.ne_nil_of_mem hc)
    obtain ⟨i, hi, hie⟩ := idx ((mem _).2 ⟨c, hc, rfl⟩)
    have hn : (refL X)[i].needles ≠ 0 := by rw [hie]; exact fun e => hc0 ((zero hc).1 e)
    have h1 : 0 ≤ withR p (refL X) (refL X).length := by
      by_cases hneg : withR p (refL X) (refL X).length < 0
      · exact absurd (a2 hneg i hi hi) hn
      · omega
    refine ⟨h1, ?_⟩
    have h2 := (a3 h1).2 i hi hi hn
    rw [hie, payN_of, hce] at h2
    by_cases hneg : withoutR p (refL X) (refL X).length < 0
    · exact Or.inl hneg
    · obtain ⟨c2, hc2, -, hc2e⟩ := b3 (by omega)
      obtain ⟨m2, hm2, rfl⟩ := (mem c2).1 hc2
      have := hle m2 hm2
      rw [payN_of] at hc2e
      exact Or.inr (by omega)
/-- who pays at a price pays for nothing -/
theorem pays_zero {X : Wr} {l : List Ch} {p : Int} (hp : 0 ≤ p) (h : paysB X l p = true) : paysB X l 0 = true := by
  obtain ⟨c, hc, hc0, hce⟩ := (paysB_iff X l p).1 h
  obtain ⟨⟨m, hm, hme⟩, hle⟩ := minP_spec (X := X) (price := 0) (List.ne_nil_of_mem hc)
  rw [paysB_iff]
  by_cases em : m.needles = 0
  · refine ⟨c, hc, hc0, ?_⟩
    have h1 := (minP_spec (X := X) (price := p) (List.ne_nil_of_mem hc)).2 m hm
    have h2 := hle c hc
    have h3 : (0 : Int) ≤ (popc c.needles : Int) * p := Int.mul_nonneg (by omega) hp
    rw [← hce] at h1
    unfold allW at h1 h2 hme ⊢
    rw [em, popc_zero] at h1 hme
    simp only [Int.natCast_zero, Int.zero_mul, Int.mul_zero] at h1 h2 hme ⊢
    omega
  · exact ⟨m, hm, em, hme⟩
end Go.Proofs.Ytkcilgjkdiopnaa
