
/- The reference's truths, one by one: which there are, and what is asked of them. -/
import Derived.Test.YtppncdbhebgcaaaGreatDoorQ7t
namespace Go.Proofs.YtppncdbhebgcaaaGreatDoor
open Go.RowKit

/-- all plays of all weeks that begin with some -/
def plL : List (Int × Int) → List Int → List (List Int)
  | [], f => [f]
  | s :: ws, f => (List.range (s.2 - s.1 + 1).toNat).flatMap fun i => plL ws (f ++ [s.1 + (i : Nat)])
def plTo (s : Int × Int) (ws : List (Int × Int)) (f : List Int) (k : Nat) : List (List Int) := (List.range k).flatMap fun i => plL ws (f ++ [s.1 + (i : Nat)])
theorem plTo_succ (s : Int × Int) (ws : List (Int × Int)) (f : List Int) (k : Nat) : plTo s ws f (k + 1) = plTo s ws f k ++ plL ws (f ++ [s.1 + (k : Nat)]) := by
  unfold plTo
  rw [List.range_succ, List.flatMap_append]
  simp
theorem plTo_all (s : Int × Int) (ws : List (Int × Int)) (f : List Int) : plTo s ws f (s.2 - s.1 + 1).toNat = plL (s :: ws) f := rfl
def waysN : List (Int × Int) → Nat
  | [] => 1
  | s :: ws => (s.2 - s.1 + 1).toNat * waysN ws
theorem plL_ways : ∀ (ws : List (Int × Int)) (f : List Int), (plL ws f).length = waysN ws
  | [], _ => rfl
  | s :: ws, f => by
    have key : ∀ k, (plTo s ws f k).length = k * waysN ws := by
      intro k
      induction k with
      | zero => simp [plTo]
      | succ k ih => rw [plTo_succ, List.length_append, ih, plL_ways ws, Nat.succ_mul]
    show (plTo s ws f (s.2 - s.1 + 1).toNat).length = _
    rw [key]
    rfl
theorem plTo_len (s : Int × Int) (ws : List (Int × Int)) (f : List Int) (k : Nat) : (plTo s ws f k).length = k * waysN ws := by
  induction k with
  | zero => simp [plTo]
  | succ k ih => rw [plTo_succ, List.length_append, ih, plL_ways ws, Nat.succ_mul]
theorem ways_le : ∀ (ws : List (Int × Int)), (∀ s ∈ ws, 0 ≤ s.1 ∧ s.1 ≤ s.2 ∧ s.2 ≤ 300) → waysN ws ≤ 301 ^ ws.length
  | [], _ => Nat.le_refl _
  | s :: ws, h => by
    have h1 := h s List.mem_cons_self
    have h2 := ways_le ws (fun x hx => h x (List.mem_cons_of_mem _ hx))
    show (s.2 - s.1 + 1).toNat * waysN ws ≤ 301 ^ (ws.length + 1)
    rw [Nat.pow_succ, Nat.mul_comm (301 ^ _)]
    exact Nat.mul_le_mul (by omega) h2
theorem ways_snoc (ws : List (Int × Int)) (s : Int × Int) : waysN (ws ++ [s]) = waysN ws * (s.2 - s.1 + 1).toNat := by
  induction ws with
  | nil => show (s.2 - s.1 + 1).toNat * 1 = 1 * _; omega
  | cons x ws ih =>
    show (x.2 - x.1 + 1).toNat * waysN (ws ++ [s]) = (x.2 - x.1 + 1).toNat * waysN ws * _
    rw [ih, Nat.mul_assoc]
theorem way_ways {M : Mt} (hM : ValidM M) : ∀ k, k ≤ M.weeks.length → wayTo M k = (waysN (M.weeks.take k) : Nat) := by
  intro k
  induction k with
  | zero => intro _; rfl
  | succ k ih =>
    intro hk
    have h1 := week_span hM (i := k) (by omega)
    have e : M.weeks[k] = (lowM M k, highM M k) := by unfold lowM highM; rw [List.getD_eq_getElem?_getD, List.getElem?_eq_getElem (by omega)]; rfl
    rw [wayTo_succ, ih (by omega), List.take_succ_eq_append_getElem (by omega), ways_snoc, e]
    rw [Int.natCast_mul]
    congr 1
    omega
theorem ways_far {M : Mt} (hM : ValidM M) (h : farB M = false) : waysN M.weeks ≤ 160 := by
  have h1 := way_ways hM M.weeks.length (Nat.le_refl _)
  rw [List.take_length] at h1
  have hl := far_len h
  unfold farB at h
  rw [if_neg (by omega), if_pos ((okB_iff M).2 hM)] at h
  have := of_decide_eq_false h
  omega
def inW (ws : List (Int × Int)) (x : List Int) : Prop := x.length = ws.length ∧ ∀ i (h : i < x.length), (ws.getD i (0, 0)).1 ≤ x[i] ∧ x[i] ≤ (ws.getD i (0, 0)).2
theorem mem_plL {pl : List Int} : ∀ (ws : List (Int × Int)) (f : List Int), pl ∈ plL ws f ↔ ∃ x, pl = f ++ x ∧ inW ws x
  | [], f => by
    show pl ∈ [f] ↔ _
    rw [List.mem_singleton]
    constructor
    · rintro rfl; exact ⟨[], by simp, rfl, fun i h => absurd h (by simp)⟩
    · rintro ⟨x, rfl, h, -⟩
      rw [List.length_eq_zero_iff.1 h, List.append_nil]
  | s :: ws, f => by
    show pl ∈ (List.range _).flatMap _ ↔ _
    rw [List.mem_flatMap]
    constructor
    · rintro ⟨i, hi, h⟩
      obtain ⟨x, rfl, h1, h2⟩ := (mem_plL ws _).1 h
      rw [List.mem_range] at hi
      refine ⟨(s.1 + (i : Nat)) :: x, by simp, by simp [h1], fun j hj => ?_⟩
      cases j with
      | zero => show s.1 ≤ s.1 + (i : Nat) ∧ s.1 + (i : Nat) ≤ s.2; omega
      | succ j => exact h2 j (by simpa using hj)
    · rintro ⟨x, rfl, h1, h2⟩
      match x, h1, h2 with
      | y :: x, h1, h2 =>
        have h0 : s.1 ≤ y ∧ y ≤ s.2 := h2 0 (by simp)
        refine ⟨(y - s.1).toNat, List.mem_range.2 (by omega), (mem_plL ws _).2 ⟨x, ?_, by simpa using h1, fun j hj => h2 (j + 1) (by simpa using hj)⟩⟩
        rw [show s.1 + ((y - s.1).toNat : Nat) = y by omega]
        simp
/-- the truths that have some plays -/
def trRow (M : Mt) (n : Int) (pl : List Int) (k : Nat) : List (Int × List Int) := (List.range k).flatMap fun (s : Nat) => if ((Wd M (dOf s pl) : Nat) : Int) ≤ n then [((s : Int), pl)] else []
theorem trRow_succ (M : Mt) (n : Int) (pl : List Int) (k : Nat) : trRow M n pl (k + 1) = trRow M n pl k ++ if ((Wd M (dOf k pl) : Nat) : Int) ≤ n then [((k : Int), pl)] else [] := by
  unfold trRow
  rw [List.range_succ, List.flatMap_append]
  simp
theorem trRow_len (M : Mt) (n : Int) (pl : List Int) : ∀ k, (trRow M n pl k).length ≤ k
  | 0 => Nat.le_refl _
  | k + 1 => by
    rw [trRow_succ, List.length_append]
    have := trRow_len M n pl k
    split <;> simp <;> omega
def trTo (M : Mt) (n : Int) (L : List (List Int)) (k : Nat) : List (Int × List Int) := (L.take k).flatMap fun pl => trRow M n pl 100
theorem trTo_succ (M : Mt) (n : Int) {L : List (List Int)} {k : Nat} (h : k < L.length) : trTo M n L (k + 1) = trTo M n L k ++ trRow M n L[k] 100 := by
  unfold trTo
  rw [List.take_succ_eq_append_getElem h, List.flatMap_append]
  simp
theorem trTo_len (M : Mt) (n : Int) (L : List (List Int)) : ∀ k, k ≤ L.length → (trTo M n L k).length ≤ 100 * k
  | 0, _ => by simp [trTo]
  | k + 1, h => by
    rw [trTo_succ M n (by omega), List.length_append]
    have := trTo_len M n L k (by omega)
    have := trRow_len M n L[k] 100
    omega
def truthsL (M : Mt) (n : Int) : List (Int × List Int) := trTo M n (plL M.weeks []) (plL M.weeks []).length
theorem truthsL_len {M : Mt} (hM : ValidM M) (h : farB M = false) (n : Int) : (truthsL M n).length ≤ 16000 := by
  have h1 := trTo_len M n (plL M.weeks []) _ (Nat.le_refl _)
  have h2 := ways_far hM h
  rw [plL_ways] at h1
  show (trTo M n _ _).length ≤ _
  rw [plL_ways]
  omega
theorem mem_truthsL {M : Mt} {n : Int} {t : Int × List Int} : t ∈ truthsL M n ↔ (0 ≤ t.1 ∧ t.1 ≤ 99) ∧ inW M.weeks t.2 ∧ ((Wd M (dOf t.1 t.2) : Nat) : Int) ≤ n := by
  unfold truthsL trTo
  rw [List.take_length, List.mem_flatMap]
  constructor
  · rintro ⟨pl, h, h1⟩
    obtain ⟨x, rfl, hx⟩ := (mem_plL _ _).1 h
    unfold trRow at h1
    obtain ⟨s, hs, h2⟩ := List.mem_flatMap.1 h1
    rw [List.mem_range] at hs
    split at h2
    · rename_i hw
      rw [List.mem_singleton] at h2
      subst h2
      exact ⟨⟨by show (0 : Int) ≤ (s : Int); omega, by show (s : Int) ≤ 99; omega⟩, hx, hw⟩
    · cases h2
  · rintro ⟨⟨h0, h1⟩, h2, h3⟩
    refine ⟨t.2, (mem_plL _ _).2 ⟨t.2, rfl, h2⟩, ?_⟩
    unfold trRow
    refine List.mem_flatMap.2 ⟨t.1.toNat, List.mem_range.2 (by omega), ?_⟩
    rw [Int.toNat_of_nonneg h0, if_pos h3]
    exact List.mem_singleton.2 rfl
theorem truthsL_ok {M : Mt} (hM : ValidM M) {n : Int} {t : Int × List Int} (h : t ∈ truthsL M n) : PlayOK t.1 t.2 := by
  obtain ⟨h1, h2, -⟩ := mem_truthsL.1 h
  exact truP_ok hM h1 h2.1 h2.2
theorem truthsL_seg {M : Mt} {n : Int} {t : Int × List Int} (h : t ∈ truthsL M n) : Seg M (dOf t.1 t.2) 0 M.weeks.length := by
  obtain ⟨h1, h2, h3⟩ := mem_truthsL.1 h
  intro i _ hi
  have hi' : i < t.2.length := by rw [h2.1]; exact hi
  rw [dOf_succ hi']
  have := h2.2 i hi'
  have e : lowM M i = (M.weeks.getD i (0, 0)).1 := rfl
  have e2 : highM M i = (M.weeks.getD i (0, 0)).2 := rfl
  omega
theorem truthsL_tru {M : Mt} {t : Int × List Int} (h : t ∈ truthsL M M.wrong) : Tru M (dOf t.1 t.2) := ⟨truthsL_seg h, (mem_truthsL.1 h).2.2⟩
/-- what a meter has counted, as a start and plays -/
theorem truth_of {M : Mt} (hM : ValidM M) {D : Nat → Int} (h : Seg M D 0 M.weeks.length) {n : Int} (hn : ((Wd M D : Nat) : Int) ≤ n) :
    ∃ t, t ∈ truthsL M n ∧ t.1 = D 0 % 100 ∧ ∀ i, i ≤ M.weeks.length → dOf t.1 t.2 i = D 0 % 100 + (D i - D 0) := by
  have hd : ∀ i, i ≤ M.weeks.length → dOf (D 0 % 100) ((List.range M.weeks.length).map fun i => D (i + 1) - D i) i = D 0 % 100 + (D i - D 0) := by
    intro i
    induction i with
    | zero => intro _; rw [dOf_zero]; omega
    | succ i ih =>
      intro hi
      rw [dOf_succ (by simp; omega), ih (by omega)]
      simp
      omega
  refine ⟨(D 0 % 100, (List.range M.weeks.length).map fun i => D (i + 1) - D i), mem_truthsL.2 ⟨⟨by show 0 ≤ D 0 % 100; omega, by show D 0 % 100 ≤ 99; omega⟩, ⟨by simp, fun i hi => ?_⟩, ?_⟩, rfl, hd⟩
  · have hi' : i < M.weeks.length := by simpa using hi
    have := h i (Nat.zero_le _) hi'
    simpa [lowM, highM] using this
  · have e : Wd M (dOf (D 0 % 100) ((List.range M.weeks.length).map fun i => D (i + 1) - D i)) = Wd M D := by
      refine wIn_congr fun r hr _ => ?_
      have := hM.read r hr
      rw [hd _ (by omega)]
      omega
    show ((Wd M (dOf (D 0 % 100) _) : Nat) : Int) ≤ n
    rw [e]
    exact hn
theorem truthsL_ne {M : Mt} (hM : ValidM M) {n : Int} : truthsL M n ≠ [] ↔ leastN M ≤ n := by
  obtain ⟨h1, D, h2, h3⟩ := least_law hM
  constructor
  · intro h
    obtain ⟨t, ht⟩ := List.exists_mem_of_ne_nil _ h
    have := h1 _ (truthsL_seg ht)
    have := (mem_truthsL.1 ht).2.2
    omega
  · intro h
    obtain ⟨t, ht, -⟩ := truth_of hM h2 (n := n) (by omega)
    exact List.ne_nil_of_mem ht
/-- each truth as a start and plays -/
theorem tru_ex {M : Mt} (hM : ValidM M) {P : (Nat → Int) → Prop} (hP : ∀ D E : Nat → Int, (∀ i, i ≤ M.weeks.length → E i = D 0 % 100 + (D i - D 0)) → P D → P E) : (∃ D, Tru M D ∧ P D) ↔ ∃ t ∈ truthsL M M.wrong, P (dOf t.1 t.2) := by
  constructor
  · rintro ⟨D, ⟨h1, h2⟩, h3⟩
    obtain ⟨t, ht, -, h4⟩ := truth_of hM h1 h2
    exact ⟨t, ht, hP _ _ h4 h3⟩
  · rintro ⟨t, ht, h⟩
    exact ⟨_, truthsL_tru ht, h⟩
theorem truth_zero {M : Mt} {t : Int × List Int} {n : Int} (h : t ∈ truthsL M n) : dOf t.1 t.2 0 % 100 = t.1 ∧ t.2.length = M.weeks.length := by
  obtain ⟨h1, h2, -⟩ := mem_truthsL.1 h
  rw [dOf_zero]
  exact ⟨by omega, h2.1⟩

/-! Readings that are right in no truth, or in all. -/
theorem pick_congr {f g : Nat → Bool} : ∀ {k : Nat}, (∀ i, i < k → f i = g i) → pickTo f k = pickTo g k
  | 0, _ => rfl
  | k + 1, h => by rw [pickTo_succ, pickTo_succ, pick_congr (fun i hi => h i (by omega)), h k (Nat.lt_succ_self k)]
end Go.Proofs.YtppncdbhebgcaaaGreatDoor
