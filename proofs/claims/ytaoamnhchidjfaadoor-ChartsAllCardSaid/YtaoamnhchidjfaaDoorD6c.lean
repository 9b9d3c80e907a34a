
/- Charts: all titles have so many plays more: what the program answers. -/
import Derived.Test.YtaoamnhchidjfaaDoorD6a
namespace Go.Proofs.YtaoamnhchidjfaaDoor
open Go.RowKit

section
variable {C : Ch} {m : Int}
theorem sh_err (h : ValidC C) (h' : ValidC (shC C m)) : (∀ t, errT (shC C m) t = errT C t) ∧ (∀ f, errF (shC C m) f = errF C f) ∧ (∀ t f, errN (shC C m) t f = errN C t f) ∧ errC (shC C m) true = errC C true :=
  ⟨fun _ => shC_err h h' _, fun _ => shC_err h h' _, fun _ _ => shC_err h h' _, shC_err h h' _⟩
theorem sh_tab (h : ValidC C) : tabC (shC C m) = shT (tabC C) m := shC_tab h.nx m
theorem tab_ok0 {is : Bool} (he : errC C is = 0) : TabOK (tabC C) := by
  obtain ⟨h1, -, h3⟩ := errC_0 he
  exact (tabC_ok h1 h3).ok
theorem sh_rank (h : ValidC C) (h' : ValidC (shC C m)) (t : Int) : rankLoA (shC C m) t = rankLoA C t ∧ rankHiA (shC C m) t = rankHiA C t := by
  unfold rankLoA rankHiA
  rw [(sh_err h h').1 t, sh_tab h]
  by_cases he : errT C t = 0
  · obtain ⟨-, hb, -⟩ := errC_0 he
    obtain ⟨h0, h1⟩ := isTB_iff.1 hb
    have hl : t.toNat < (tabC C).length := by rw [tabC_len]; omega
    rw [rkLo_sh (tab_ok0 he) m hl, rkHi_sh (tab_ok0 he) m hl]
    exact ⟨rfl, rfl⟩
  · unfold okN
    rw [if_neg he]
    simp [he]
theorem sh_cut (h : ValidC C) (h' : ValidC (shC C m)) (f : Int) (he : errF C f = 0) : cutLoA (shC C m) f = cutLoA C f + m ∧ cutHiA (shC C m) f = cutHiA C f + m ∧ 0 ≤ cutLoA C f ∧ cutHiA C f ≤ 2499 ∧ cutLoA C f ≤ 2499 ∧ 0 ≤ cutHiA C f := by
  unfold cutLoA cutHiA
  rw [(sh_err h h').2.1 f, sh_tab h, he, okN_0 rfl, okN_0 rfl, okN_0 rfl, okN_0 rfl]
  obtain ⟨hv, hb, hs⟩ := errC_0 he
  obtain ⟨h0, h1⟩ := isFB_iff.1 hb
  obtain ⟨k, rfl⟩ : ∃ k : Nat, f = k := ⟨f.toNat, by omega⟩
  have hG := tabC_ok hv hs
  have hl : k ≤ (tabC C).length := by rw [tabC_len]; omega
  rw [cutLo_sh hG.ok m (by omega) hl, cutHi_sh hG.ok m (by omega) hl]
  have key : ∀ x : Nat → Int, TruN (tabC C).length (rowT (tabC C)) x → 0 ≤ cutN (tabC C).length x k ∧ cutN (tabC C).length x k ≤ 2499 := by
    intro x hx
    obtain ⟨i, he, hi, -⟩ := atN_ex (n := (tabC C).length) x (k := k) (by omega) hl
    have hm : cutN (tabC C).length x k ∈ rowT (tabC C) i := by
      unfold cutN
      rw [he, Int.toNat_natCast]
      exact hx i hi
    rw [rowT_get hi] at hm
    exact hG.bd _ (List.getElem_mem hi) _ hm
  have h2 := key _ (tru_lo hG.ok)
  have h3 := key _ (tru_hi hG.ok)
  exact ⟨rfl, rfl, h2.1, h3.2, h2.2, h3.1⟩
theorem sh_top (h : ValidC C) (h' : ValidC (shC C m)) (f : Int) : topA (shC C m) f = topA C f ∧ mayA (shC C m) f = mayA C f := by
  unfold topA mayA
  rw [(sh_err h h').2.1 f, sh_tab h]
  by_cases he : errF C f = 0
  · rw [topL_sh (tab_ok0 he), mayL_sh (tab_ok0 he)]
    exact ⟨rfl, rfl⟩
  · unfold okL
    rw [if_neg he]
    simp [he]
theorem sh_ords (h : ValidC C) (h' : ValidC (shC C m)) : ordersA (shC C m) = ordersA C := by
  unfold ordersA
  rw [(sh_err h h').2.2.2, sh_tab h]
  show okN _ ((allO C.meters.length (rowT (shT (tabC C) m))).length : Nat) = _
  by_cases he : errC C true = 0
  · have := allO_sh (tab_ok0 he) m
    rw [tabC_len] at this
    rw [this]
  · unfold okN
    rw [if_neg he, if_neg he]
theorem sh_needs (h : ValidC C) (h' : ValidC (shC C m)) (t f : Int) : needsA (shC C m) t f = needsA C t f := by
  unfold needsA
  rw [(sh_err h h').2.2.1 t f, sh_tab h]
  by_cases he : errN C t f = 0
  · obtain ⟨-, hb, -⟩ := errC_0 he
    rw [Bool.and_eq_true] at hb
    obtain ⟨h0, h1⟩ := isTB_iff.1 hb.1
    rw [needV_sh (tab_ok0 he) m (by rw [tabC_len]; omega)]
  · unfold okN
    rw [if_neg he, if_neg he]
theorem sh_next (h : ValidC C) (h' : ValidC (shC C m)) (f : Int) : nextTA (shC C m) f = nextTA C f ∧ nextTE (shC C m) f = nextTE C f := by
  unfold nextTA nextTE
  rw [(sh_err h h').2.1 f, sh_tab h]
  show okN _ (if (nxTo (shT (tabC C) m) f C.meters.length).1 < 0 then 0 else (nxTo (shT (tabC C) m) f C.meters.length).1) = _ ∧ (if errF C f = 0 then (if (nxTo (shT (tabC C) m) f C.meters.length).1 < 0 then 3 else 0) else errF C f) = _
  by_cases he : errF C f = 0
  · rw [nxTo_sh (tab_ok0 he)]
    exact ⟨rfl, rfl⟩
  · unfold okN
    rw [if_neg he, if_neg he]
    simp [he]
end
end Go.Proofs.YtaoamnhchidjfaaDoor
