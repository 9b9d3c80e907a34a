
/- Charts: the numbers of the chapter's example. -/
import Derived.Test.YtaoamnhchidjfaaDoorC8e
import Derived.Test.YtaoamnhchidjfaaDoorC7g
import Derived.Test.YtaoamnhchidjfaaDoorC7h
import Derived.Test.YtaoamnhchidjfaaDoorC7i
import Derived.Test.YtaoamnhchidjfaaDoorC7k
import Derived.Test.YtaoamnhchidjfaaDoorXJ
namespace Go.Proofs.YtaoamnhchidjfaaDoor
open Go.RowKit

theorem sums_x2 : sumsL exM2 0 2 = [50, 51, 52] := by decide +kernel
theorem sums_x3 : sumsL exM3 0 2 = [120] := by decide +kernel
theorem valid_x2 : ValidM exM2 := (okB_iff _).1 (by decide)
theorem valid_x3 : ValidM exM3 := (okB_iff _).1 (by decide)
theorem least_x2 : leastN exM2 = 0 := by decide +kernel
theorem least_x3 : leastN exM3 = 0 := by decide +kernel
theorem ask_x2 : askV exM2 true = 0 := by rw [askV_t valid_x2, least_x2]; rfl
theorem ask_x3 : askV exM3 true = 0 := by rw [askV_t valid_x3, least_x3]; rfl
theorem row_of {C : Ch} {i : Nat} {M : Mt} {l : List Nat} (hC : ValidC C) (hM : mtC C i = M) (hv : ValidM M) (ht : C.tto ≤ M.weeks.length) (ha : askV M true = 0) (hx : exC C i = 0) (hl : sumsL M C.frm.toNat C.tto.toNat = l) :
    rowC C i = l.map fun n : Nat => (n : Int) := by
  unfold rowC
  rw [hM, hx, (sumsA_list hv (areB_iff.2 ⟨hC.f0, hC.ft, ht⟩) ha).1, hl, List.map_map]
  exact List.map_congr_left fun n _ => by simp
theorem valid_exCh : ValidC exCh := (okC_iff _).1 (by decide)
theorem some_exCh : someN exCh exCh.meters.length = false := by
  refine Bool.eq_false_iff.2 fun h => ?_
  unfold someN at h
  rw [List.any_eq_true] at h
  obtain ⟨i, hi, hb⟩ := h
  have hi' : i < 3 := List.mem_range.1 hi
  have hb' := bP_iff.1 hb
  have : i = 0 ∨ i = 1 ∨ i = 2 := by omega
  rcases this with rfl | rfl | rfl
  · exact hb' ask_exM
  · exact hb' ask_x2
  · exact hb' ask_x3
theorem tab_exCh : tabC exCh = [[40, 140], [50, 51, 52], [120]] := by
  have h0 : rowC exCh 0 = [40, 140] := row_of (M := exM) (l := [40, 140]) valid_exCh rfl valid_exM (by decide) ask_exM rfl sums_exM2
  have h1 : rowC exCh 1 = [50, 51, 52] := row_of (M := exM2) (l := [50, 51, 52]) valid_exCh rfl valid_x2 (by decide) ask_x2 rfl sums_x2
  have h2 : rowC exCh 2 = [120] := row_of (M := exM3) (l := [120]) valid_exCh rfl valid_x3 (by decide) ask_x3 rfl sums_x3
  show (List.range 3).map (rowC exCh) = _
  rw [show List.range 3 = [0, 1, 2] from rfl, List.map_cons, List.map_cons, List.map_cons, List.map_nil, h0, h1, h2]
theorem err_exCh : errC exCh true = 0 := errC_ok valid_exCh some_exCh
theorem sm_exCh : ChSm exCh := ⟨by decide, by decide, by decide⟩
theorem numsV_exCh : numsA exCh 0 = [40, 140] ∧ errT exCh 0 = 0 := by
  have e : errT exCh 0 = 0 := err_exCh
  refine ⟨?_, e⟩
  unfold numsA
  rw [askT_0 e, tab_exCh]
  rfl
theorem ord_exCh : (allO 3 (rowT [[40, 140], [50, 51, 52], [120]])).length = 2 := by decide +kernel
theorem rk_exCh : rkLo [[40, 140], [50, 51, 52], [120]] 2 = 1 ∧ rkHi [[40, 140], [50, 51, 52], [120]] 2 = 2 := by decide +kernel
theorem may_exCh : mayL [[40, 140], [50, 51, 52], [120]] 1 = [0, 2] := by decide +kernel
theorem need_exCh : IsNeed [[40, 140], [50, 51, 52], [120]] 1 1 91 := by
  have h90 : ¬NeedP [[40, 140], [50, 51, 52], [120]] 1 1 (50 + 90) := by unfold NeedP; decide +kernel
  refine ⟨by decide, by unfold NeedP; decide +kernel, fun m h0 h1 h => h90 (h.mono ?_)⟩
  have : loT [[40, 140], [50, 51, 52], [120]] 1 = 50 := rfl
  omega
theorem rkV_exCh : rankLoA exCh 2 = 1 ∧ rankHiA exCh 2 = 2 ∧ errT exCh 2 = 0 := by
  have e : errT exCh 2 = 0 := err_exCh
  unfold rankLoA rankHiA
  rw [e, okN_0 rfl, okN_0 rfl, tab_exCh, show (2 : Int).toNat = 2 from rfl, rk_exCh.1, rk_exCh.2]
  exact ⟨rfl, rfl, rfl⟩
theorem mayV_exCh : mayA exCh 1 = [0, 2] ∧ errF exCh 1 = 0 := by
  have e : errF exCh 1 = 0 := err_exCh
  unfold mayA
  rw [e, okL_0 rfl, tab_exCh, may_exCh]
  exact ⟨rfl, rfl⟩
theorem needV_exCh : needsA exCh 1 1 = 91 ∧ errN exCh 1 1 = 0 := by
  have e : errN exCh 1 1 = 0 := err_exCh
  unfold needsA
  rw [e, okN_0 rfl, tab_exCh, show (1 : Int).toNat = 1 from rfl, needV_eq need_exCh]
  exact ⟨rfl, rfl⟩
theorem ordV_exCh : ordersA exCh = 2 ∧ errC exCh true = 0 := by
  unfold ordersA
  rw [err_exCh, okN_0 rfl, tab_exCh, show exCh.meters.length = 3 from rfl, ord_exCh]
  exact ⟨rfl, rfl⟩
end Go.Proofs.YtaoamnhchidjfaaDoor
