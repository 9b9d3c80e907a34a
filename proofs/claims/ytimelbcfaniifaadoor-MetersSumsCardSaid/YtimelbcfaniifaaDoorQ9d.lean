/- The walk of the reference's Week. -/
import Derived.Test.YtimelbcfaniifaaDoorQ9c
import Derived.StillTailTactics
namespace Go.Proofs.YtimelbcfaniifaaDoor
open Go.RowKit

theorem rweekEnd04 (M : Mt) (f : Int) {w W : World} {s : Nat} {a : Act} (lo hi z : Int) {x y : Value} {t : TypeId} (hk : weekLo M f = lo ∧ weekHi M f = hi ∧ askV M (isWkB f M.weeks.length) = z) (hE : Ext w W)
    (hm : W.heap[s]? = some (.cells #[x, y] t)) (hs : w.heap.size ≤ s) (ha : a.tmps[4]? = some (.pointer (some ⟨s, 0, none⟩))) (hb : a.tmps[5]? = some (.int .i64 z)) (hd : a.defers = []) :
    bodyPost Tryd.prog Tryd.f42 (RetSp (weekLo M f) (weekHi M f) (askV M (isWkB f M.weeks.length)) w) .ret a ((W.setCell ⟨s, 0, none⟩ (.int .i64 lo)).setCell ⟨s, 1, none⟩ (.int .i64 hi)) := by
  have h := heap_pair (y0 := .int .i64 lo) (y1 := .int .i64 hi) hm
  have c0 := cell_of_heap h 0
  have c1 := cell_of_heap h 1
  simp at c0 c1
  refine bodyPost_ret (v := .tuple #[.agg #[.int .i64 lo, .int .i64 hi], .int .i64 z]) ?_ hd ⟨by rw [hk.1, hk.2.1, hk.2.2], Ext.setCell (Ext.setCell hE (p := ⟨s, 0, none⟩) hs _) (p := ⟨s, 1, none⟩) hs _⟩
  cases a with
  | mk tm df =>
    simp only at ha hb
    simp [results, Tryd.results42, go_sem, ha, hb, c0, c1]

theorem week_bad {M : Mt} {k z : Int} (h : askV M (isWkB k M.weeks.length) = z) (hz : ¬z = 0) : weekLo M k = 0 ∧ weekHi M k = 0 ∧ askV M (isWkB k M.weeks.length) = z := by
  refine ⟨?_, ?_, h⟩
  · unfold weekLo; rw [h, okN_ne hz]
  · unfold weekHi; rw [h, okN_ne hz]

set_option maxRecDepth 20000 in
set_option maxHeartbeats 3200000 in
theorem rWeek04 (M : Mt) (hf : farB M = false) (k : Int) (v : Value) (w : World) (hv : MtV w v M) :
    Calls Tryd.prog 42 #[v, .int .i64 k] w (RetSp (weekLo M k) (weekHi M k) (askV M (isWkB k M.weeks.length)) w) := by
  have HV := Lib.hid hv
  have HF := Lib.hid hf
  have hfl := far_len hf
  obtain ⟨p, c, qq, d, rfl, hp, hq⟩ := hv
  clear hp hq hf
  go_enter Tryd.func42, Tryd.ntmps42
  go_upto_region 1 with (fail)
  obtain ⟨s0, hs0'⟩ : ∃ s0, s0 = w.heap.size := ⟨_, rfl⟩
  generalize hW : World.alloc _ _ = W
  have m0 : W.heap[s0]? = some (.cells #[.slice p M.weeks.length c, .slice qq M.reads.length d, .int .i64 M.wrong] 25) := by rw [hs0']; exact heap_at0 (by rw [← hW]; exact (by repeat (first | exact Ext.refl _ | assumption | refine Ext.drewN ?_ _ | refine Ext.drew ?_ | refine Ext.alloc ?_ _)))
  have m1 : W.heap[s0 + 1]? = some (.cells #[.int .i64 0, .int .i64 0] 39) := by rw [hs0', ← hW]; exact heap_new2 _ _ _
  have hE : Ext w W := by rw [← hW]; exact (by repeat (first | exact Ext.refl _ | assumption | refine Ext.drewN ?_ _ | refine Ext.drew ?_ | refine Ext.alloc ?_ _))
  rw [← hs0']
  have m00 := ExtW.cell (v := .slice p M.weeks.length c) (cell_of_heap m0 0)
  have m01 := ExtW.cell (v := .slice qq M.reads.length d) (cell_of_heap m0 1)
  have m02 := ExtW.cell (v := .int .i64 M.wrong) (cell_of_heap m0 2)
  have HE := Lib.hid hE
  have HM1 := Lib.hid m1
  have m10 := ExtW.cell (v := .int .i64 0) (cell_of_heap m1 0)
  have m11 := ExtW.cell (v := .int .i64 0) (cell_of_heap m1 1)
  have f10 : ∀ x : ExtW W, x.w.frozen? ⟨s0 + 1, 0, none⟩ = false := fun x => cell_frozen ((x.h.block _ (Array.getElem?_eq_some_iff.1 m1).1).trans m1) 0
  have f11 : ∀ x : ExtW W, x.w.frozen? ⟨s0 + 1, 1, none⟩ = false := fun x => cell_frozen ((x.h.block _ (Array.getElem?_eq_some_iff.1 m1).1).trans m1) 1
  have HS0 := Lib.hid (show w.heap.size ≤ s0 + 1 from by omega)
  have HCK := Lib.hid (fun (x : ExtW W) => ExtW.call (rCheck04 M _ x.w (HV.out.ext (hE.trans x.h)) (by omega) (by omega)))
  have HWK := Lib.hid (fun (x : ExtW W) => ExtW.call (IsWeek04 M k _ x.w (HV.out.ext (hE.trans x.h)) (by omega)))
  have HSM := Lib.hid (fun (x : ExtW W) => ExtW.callL (l := sumsA M k (k + 1)) (n := askV M (areB k (k + 1) M.weeks.length)) (x := x) (rSums04 M HF.out k (k + 1) _ x.w (HV.out.ext (hE.trans x.h))))
  obtain ⟨x0, hx0⟩ := ExtW.of (Ext.refl W)
  clear hW m0 m1 hE hs0'
  conv => arg 5; rw [hx0]
  clear hx0
  by_cases hM : ValidM M
  case neg =>
    rw [chkM_f hM] at HCK
    have HOK := Lib.hid (week_bad (k := k) (askV_bad hM _) (by decide))
    clear hM
    go_wp2_with (go_at_call 36; refine (HCK.out _).mono ?_; rintro e w1 ⟨rfl, x1, rfl⟩)
    refine rweekEnd04 M k _ _ _ HOK.out (HE.out.trans x1.h) ((x1.h.block _ (Array.getElem?_eq_some_iff.1 HM1.out).1).trans HM1.out) HS0.out ?_ ?_ ?_ <;> rfl
  rw [chkM_t hM] at HCK
  have hwe : winB k 0 ((M.weeks.length : Int) - 1) = isWkB k M.weeks.length := by rw [Bool.eq_iff_iff, winB_iff, isWkB_iff]; omega
  rw [hwe] at HWK
  obtain ⟨ib, hib⟩ : ∃ b, b = isWkB k M.weeks.length := ⟨_, rfl⟩
  rw [← hib] at HWK
  cases ib
  case false =>
    have HOK := Lib.hid (week_bad (M := M) (k := k) (z := 1) (by rw [← hib]; exact askV_false hM) (by decide))
    clear hib hwe hM
    go_wp2_with (first
      | (go_at_call 36; refine (HCK.out _).mono ?_; rintro e w1 ⟨rfl, x1, rfl⟩)
      | (go_at_call 33; refine (HWK.out _).mono ?_; rintro e w1 ⟨rfl, x2, rfl⟩))
    refine rweekEnd04 M k _ _ _ HOK.out (HE.out.trans x2.h) ((x2.h.block _ (Array.getElem?_eq_some_iff.1 HM1.out).1).trans HM1.out) HS0.out ?_ ?_ ?_ <;> rfl
  have hk := isWkB_iff.1 hib.symm
  have hab : areB k (k + 1) M.weeks.length = true := areB_iff.2 (by omega)
  have hwk : IntKind.i64.wrap (k + 1) = k + 1 := IntWalk.i64_in _ (by omega)
  rw [hab] at HSM
  obtain ⟨z, hz⟩ : ∃ z, askV M true = z := ⟨_, rfl⟩
  have hzz : askV M (isWkB k M.weeks.length) = z := by rw [← hib, hz]
  rw [hz] at HSM
  by_cases hz0 : z = 0
  case neg =>
    have HOK := Lib.hid (week_bad hzz hz0)
    have g1 : (z == 0) = false := by simpa using hz0
    clear hzz hz hib hwe hM hz0 hab hk
    go_wp2_with (first
      | (go_at_call 36; refine (HCK.out _).mono ?_; rintro e w1 ⟨rfl, x1, rfl⟩)
      | (go_at_call 33; refine (HWK.out _).mono ?_; rintro e w1 ⟨rfl, x2, rfl⟩)
      | (go_at_call 43; refine (HSM.out _).mono ?_; rintro e w1 ⟨p1, cp1, rfl, x3, rfl, -, hI1, -⟩))
    refine rweekEnd04 M k _ _ _ HOK.out (HE.out.trans x3.h) ((x3.h.block _ (Array.getElem?_eq_some_iff.1 HM1.out).1).trans HM1.out) HS0.out ?_ ?_ ?_ <;> rfl
  subst hz0
  obtain ⟨hne, hlo, hhi⟩ := week_ref hM hib.symm hz
  have hsl := sumsA_len M k (k + 1)
  obtain ⟨l, hl⟩ : ∃ l, l = sumsA M k (k + 1) := ⟨_, rfl⟩
  rw [← hl] at hne hlo hhi hsl HSM
  obtain ⟨m, hm⟩ : ∃ m, l.length = m + 1 := ⟨l.length - 1, by have := List.length_pos_iff.2 hne; omega⟩
  have h0 : l[0]'(by omega) = l.headD 0 := by cases l <;> first | rfl | (exact absurd rfl hne)
  have h1 : l[m]'(by omega) = l.getLastD 0 := by
    rw [List.getLastD_eq_getLast?, List.getLast?_eq_getElem?]
    simp [show l.length - 1 = m by omega, List.getElem?_eq_getElem (show m < l.length by omega)]
  obtain ⟨lo, hlo'⟩ : ∃ x, x = weekLo M k := ⟨_, rfl⟩
  obtain ⟨hi, hhi'⟩ : ∃ x, x = weekHi M k := ⟨_, rfl⟩
  have HOK := Lib.hid (show weekLo M k = lo ∧ weekHi M k = hi ∧ askV M (isWkB k M.weeks.length) = 0 from ⟨hlo'.symm, hhi'.symm, hzz⟩)
  rw [← hlo, ← hlo'] at h0
  rw [← hhi, ← hhi'] at h1
  have HI := Lib.hid (fun y p (h : IntsAt y p l) => (by
    obtain ⟨b, o, rfl, hc0⟩ := h.at 0 (by omega)
    obtain ⟨b', o', he, hc1⟩ := h.at m (by omega)
    cases he
    rw [h0] at hc0
    rw [h1] at hc1
    exact ⟨b, o, rfl, by simpa using hc0, hc1⟩ : ∃ b o, p = some ⟨b, o, none⟩ ∧ y.cell? ⟨b, o, none⟩ = some (.int .i64 lo) ∧ y.cell? ⟨b, o + m, none⟩ = some (.int .i64 hi)))
  rw [hm] at HSM hsl
  clear hlo hhi hne hl h0 h1 hlo' hhi' hzz hz hib hwe hM hab hk hm
  go_upto_region 9 with (first
      | (go_at_call 36; refine (HCK.out _).mono ?_; rintro e w1 ⟨rfl, x1, rfl⟩)
      | (go_at_call 33; refine (HWK.out _).mono ?_; rintro e w1 ⟨rfl, x2, rfl⟩)
      | (go_at_call 43; refine (HSM.out _).mono ?_; rintro e w1 ⟨p1, cp1, rfl, x3, rfl, -, hI1, -⟩))
  obtain ⟨b, o, rfl, hc0, hc1⟩ := HI.out _ _ hI1
  have HX := Lib.hid (HE.out.trans x3.h)
  have HM3 := Lib.hid ((x3.h.block _ (Array.getElem?_eq_some_iff.1 HM1.out).1).trans HM1.out)
  obtain ⟨w3, hw3⟩ : ∃ w3, w3 = x3.w := ⟨_, rfl⟩
  rw [← hw3] at hc0 hc1 HX HM3 ⊢
  have a0 : w3.cell? ⟨s0 + 1, 0, none⟩ = some (.int .i64 0) := cell_of_heap HM3.out 0
  have a1 : w3.cell? ⟨s0 + 1, 1, none⟩ = some (.int .i64 0) := cell_of_heap HM3.out 1
  have b0 : w3.frozen? ⟨s0 + 1, 0, none⟩ = false := cell_frozen HM3.out 0
  have b1 : w3.frozen? ⟨s0 + 1, 1, none⟩ = false := cell_frozen HM3.out 1
  have hm1 : IntKind.i64.wrap (m : Int) = m := IntWalk.i64_in _ (by omega)
  have hm2 : IntKind.i64.wrap ((m : Int) + 1) = (m : Int) + 1 := IntWalk.i64_in _ (by omega)
  have hm3 : (m : Int) < (m : Int) + 1 := by omega
  have hm4 : (0 : Int) ≤ (m : Int) := by omega
  clear hI1 hw3
  go_still_tail 9, (by kernel_rfl)
  change wpList _ _ _ _ _ w3.drew
  have a0 : w3.drew.cell? ⟨s0 + 1, 0, none⟩ = _ := a0
  have a1 : w3.drew.cell? ⟨s0 + 1, 1, none⟩ = _ := a1
  have b0 : w3.drew.frozen? ⟨s0 + 1, 0, none⟩ = false := b0
  have b1 : w3.drew.frozen? ⟨s0 + 1, 1, none⟩ = false := b1
  have hc0 : w3.drew.cell? ⟨b, o, none⟩ = _ := hc0
  have hc1 : w3.drew.cell? ⟨b, o + m, none⟩ = _ := hc1
  go_wp2
  refine rweekEnd04 M k _ _ _ HOK.out (Ext.drew HX.out) HM3.out HS0.out ?_ ?_ ?_ <;> rfl
end Go.Proofs.YtimelbcfaniifaaDoor
