
/- TopNeedle: what a week of plays makes of a box: plain law. -/
import Derived.Test.YtppncdbhebgcaaaVC
namespace Go.Proofs.Ytppncdbhebgcaaa.We
open Go.RowKit

/-- the box of TopNeedle -/
def ndR (i : Nat) (x : Int) : Rec := ⟨i, 99999, 0, [x]⟩
def ndRecs (L : List Int) : List Rec := (List.range L.length).map fun i : Nat => ndR i (L.getD i 0)
def ndW (age rough : Int) (L : List Int) : Wr := ⟨1, 0, age, 10, [rough], ndRecs L⟩
theorem ndRecs_len (L : List Int) : (ndRecs L).length = L.length := by simp [ndRecs]
theorem ndRecs_get {L : List Int} {i : Nat} (h : i < (ndRecs L).length) : (ndRecs L)[i] = ndR i (L.getD i 0) := by simp [ndRecs]
theorem ndRecs_snoc (L : List Int) (x : Int) : ndRecs (L ++ [x]) = ndRecs L ++ [ndR L.length x] := by
  unfold ndRecs
  rw [List.length_append, List.length_singleton, List.range_succ, List.map_append, List.map_singleton]
  congr 1
  · refine List.map_congr_left fun i hi => ?_
    have := List.mem_range.1 hi
    congr 1
    simp [List.getD_eq_getElem?_getD, List.getElem?_append_left this]
  · congr 2
    simp [List.getD_eq_getElem?_getD]
section
variable {age rough : Int} {L : List Int}
theorem nd_plays {i : Nat} (h : i < L.length) : playsW (ndW age rough L) 0 i = L.getD i 0 := by
  unfold playsW
  have hq : i < (ndRecs L).length := by rw [ndRecs_len]; exact h
  rw [recW_eq hq]
  show ((ndRecs L)[i]'hq).plays.getD 0 0 = _
  rw [ndRecs_get]
  rfl
theorem nd_rough (a : Int) : roughW (ndW age rough L) a = rough := by
  unfold roughW roughI
  have h : (min (a / (ndW age rough L).step) ((((ndW age rough L).rough).length : Int) - 1)).toNat = 0 := by
    show (min (a / 10) (((1 : Nat) : Int) - 1)).toNat = 0
    omega
  rw [h]
  rfl
theorem nd_grind (a : Int) : ∀ n : Nat, grindW (ndW age rough L) a n = n * rough
  | 0 => by simp [grindW]
  | n + 1 => by
    rw [grindW, nd_grind a n, nd_rough, Int.natCast_add, Int.add_mul]
    simp
/-- the plays of the first records together -/
def smL (L : List Int) (i : Nat) : Int := (L.take i).sum
theorem smL_succ {i : Nat} (h : i < L.length) : smL L (i + 1) = smL L i + L[i] := by
  unfold smL
  rw [List.take_succ_eq_append_getElem h, List.sum_append]
  simp
theorem nd_to (s : St) (hb : ∀ x ∈ L, 0 ≤ x) : ∀ k, k ≤ L.length → (playsTo (ndW age rough L) 0 s k).age = s.age + smL L k ∧ ∀ i, (playsTo (ndW age rough L) 0 s k).worn i = s.worn i + (if i < k then L.getD i 0 * rough else 0)
  | 0, _ => ⟨by simp [playsTo, smL], fun i => by simp [playsTo]⟩
  | k + 1, h => by
    have hk : k < L.length := by omega
    obtain ⟨e1, e2⟩ := nd_to s hb k (by omega)
    have hx := hb _ (List.getElem_mem hk)
    have hg : L.getD k 0 = L[k] := by simp [List.getD_eq_getElem?_getD, hk]
    rw [playsTo_succ]
    refine ⟨?_, fun i => ?_⟩
    · show (playsTo (ndW age rough L) 0 s k).age + playsW (ndW age rough L) 0 k = _
      rw [e1, nd_plays hk, smL_succ hk, hg]
      omega
    · show updI (playsTo (ndW age rough L) 0 s k).worn k ((playsTo (ndW age rough L) 0 s k).worn k + grindW (ndW age rough L) _ (playsW (ndW age rough L) 0 k).toNat) i = _
      unfold updI
      by_cases e : i = k
      · subst e
        rw [if_pos rfl, e2, if_neg (by omega), if_pos (by omega), nd_plays hk, nd_grind, hg, Int.toNat_of_nonneg hx]
        omega
      · rw [if_neg e, e2]
        by_cases h1 : i < k
        · rw [if_pos h1, if_pos (by omega)]
        · rw [if_neg h1, if_neg (by omega)]
def ndP (new : Int) : List Wk := [⟨new, []⟩]
theorem nd_run (new : Int) (h01 : new = 0 ∨ new = 1) (hb : ∀ x ∈ L, 0 ≤ x) : (runTo (ndW age rough L) (ndP new) 1).age = smL L L.length + (1 - new) * age ∧
    wornL L.length (runTo (ndW age rough L) (ndP new) 1).worn = (List.range L.length).map fun i : Nat => (i : Int) + L.getD i 0 * rough := by
  have e : runTo (ndW age rough L) (ndP new) 1 = playsTo (ndW age rough L) 0 (newW (ndW age rough L) ⟨new, []⟩ (startW (ndW age rough L))) L.length := by
    show playsTo (ndW age rough L) 0 _ (ndRecs L).length = _
    rw [ndRecs_len]
    rfl
  obtain ⟨e1, e2⟩ := nd_to (age := age) (rough := rough) (newW (ndW age rough L) ⟨new, []⟩ (startW (ndW age rough L))) hb L.length (Nat.le_refl _)
  rw [e]
  refine ⟨?_, ?_⟩
  · rw [e1]
    unfold newW
    rcases h01 with rfl | rfl
    · rw [if_neg (by decide)]
      show age + _ = _
      omega
    · rw [if_pos rfl]
      show (0 : Int) + _ = _
      omega
  · unfold wornL
    refine List.map_congr_left fun i hi => ?_
    have hi' := List.mem_range.1 hi
    rw [e2 i, if_pos hi']
    congr 1
    have h0 : (startW (ndW age rough L)).worn i = i := by
      show (recW (ndW age rough L) i).worn = _
      have hq : i < (ndRecs L).length := by rw [ndRecs_len]; exact hi'
      rw [recW_eq hq]
      show ((ndRecs L)[i]'hq).worn = _
      rw [ndRecs_get]
      rfl
    unfold newW
    split
    · exact h0
    · exact h0
theorem nd_plan (new : Int) (h01 : new = 0 ∨ new = 1) : PlanOK (ndW age rough L) (ndP new) := by
  refine ⟨rfl, fun x hx => ?_⟩
  rw [List.mem_singleton.1 hx]
  refine ⟨by simp [Rises], ?_, ?_⟩
  · show 0 ≤ new; omega
  · show new ≤ 1; omega
theorem nd_modest (hl : L.length ≤ 100) : ModestW (ndW age rough L) := by
  refine ⟨by show 1 ≤ 100000; omega, by show (ndRecs L).length ≤ 100000; rw [ndRecs_len]; omega, fun i h => ?_⟩
  have hq : i < (ndRecs L).length := h
  have e : ((ndRecs L)[i]'hq).plays.length ≤ 100000 := by
    rw [ndRecs_get]
    show 1 ≤ 100000
    omega
  exact e
end
end Go.Proofs.Ytppncdbhebgcaaa.We
