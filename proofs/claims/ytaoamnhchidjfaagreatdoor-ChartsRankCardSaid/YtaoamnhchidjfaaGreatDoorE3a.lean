
/- The walk of ChartsRank. -/
import Derived.Test.YtaoamnhchidjfaaGreatDoorCF
import Derived.Test.YtaoamnhchidjfaaGreatDoorE2f
import Derived.Test.YtaoamnhchidjfaaGreatDoorE2e
namespace Go.Proofs.YtaoamnhchidjfaaGreatDoor
open Go.RowKit

theorem cellUp {a b : World} {ad : Addr} {v : Value} (h : ∀ x : ExtW a, x.w.cell? ad = some v) (hE : Ext a b) : ∀ x : ExtW b, x.w.cell? ad = some v := fun x => h ⟨x.w, hE.trans x.h⟩
set_option maxRecDepth 20000 in
set_option maxHeartbeats 16000000 in
theorem ChartsRank06 (v : Value) (C : Ch) (t f : Int) (w : World) (hv : ChV w v C) (hwf : (Lit.int .i64 f).wf = true) (hT : TabW w) :
    Calls Tryz.prog 3 #[v, .agg #[.int .i64 t, .int .i64 f]] w (RetE (.bool true) w) := by
  have HWF := Lib.hid hwf
  clear hwf
  have HV := Lib.hid hv
  have HT := Lib.hid hT
  obtain ⟨p, c, q, d, rfl, hp, hq⟩ := hv
  clear hp hq hT
  go_enter Tryz.func3, Tryz.ntmps3
  go_upto_region 1 with (fail)
  obtain ⟨s0, hs0⟩ : ∃ s0, s0 = w.heap.size := ⟨_, rfl⟩
  obtain ⟨W, hW⟩ : ∃ W, W = (w.alloc (.cells #[.slice p C.meters.length c, .slice q C.extra.length d, .int .i64 C.frm, .int .i64 C.tto] 25)).alloc (.cells #[.int .i64 t, .int .i64 f] 27) := ⟨_, rfl⟩
  have m0 : W.heap[s0]? = some (.cells #[.slice p C.meters.length c, .slice q C.extra.length d, .int .i64 C.frm, .int .i64 C.tto] 25) := by rw [hs0, hW, Below.heap_alloc _ _ _ (by rw [size_alloc]; omega)]; exact heap_new _ _
  have m1 : W.heap[s0 + 1]? = some (.cells #[.int .i64 t, .int .i64 f] 27) := by rw [hs0, hW]; exact heap_new2 _ _ _
  have hE : Ext w W := by rw [hW]; exact Ext.alloc (Ext.alloc (Ext.refl _) _) _
  rw [← hs0, ← hW]
  obtain ⟨s1, hs1⟩ : ∃ s1, s1 = s0 + 1 := ⟨_, rfl⟩
  rw [← hs1] at m1 ⊢
  have a0 := ExtW.cell (v := .slice p C.meters.length c) (cell_of_heap m0 0)
  have a1 := ExtW.cell (v := .slice q C.extra.length d) (cell_of_heap m0 1)
  have a2 := ExtW.cell (v := .int .i64 C.frm) (cell_of_heap m0 2)
  have a3 := ExtW.cell (v := .int .i64 C.tto) (cell_of_heap m0 3)
  have b0 := ExtW.cell (v := .int .i64 t) (cell_of_heap m1 0)
  have b1 := ExtW.cell (v := .int .i64 f) (cell_of_heap m1 1)
  have HM0 := Lib.hid m0
  have HM1 := Lib.hid m1
  have HE := Lib.hid hE
  have HS0 := Lib.hid hs0
  have HS1 := Lib.hid hs1
  have HVW := Lib.hid (fun y (h : Ext W y) => HV.out.ext (HE.out.trans h))
  have HTW := Lib.hid (HT.out.ext HE.out)
  have HWK := Lib.hid (fun x : ExtW W => ExtW.callX (x := x) (works06 x.w (HTW.out.ext x.h)))
  obtain ⟨b, hb⟩ : ∃ b, b = farC C := ⟨_, rfl⟩
  have HFA := Lib.hid (fun x : ExtW W => ExtW.callX (v := .bool b) (x := x) (by
    have h := Far06 C _ x.w (HVW.out _ x.h)
    rw [← hb] at h
    exact h))
  obtain ⟨y0, hy0⟩ := ExtW.of (Ext.refl W)
  clear hW m0 m1 hE hs0 hs1
  conv => arg 5; rw [hy0]
  clear hy0
  cases b
  case true =>
    clear hb
    go_wp2_with (first
      | (go_at_call 11; refine (HFA.out _).mono ?_; rintro e w2 ⟨rfl, xr, rfl, -⟩)
      | (go_at_call 12; refine (HWK.out _).mono ?_; rintro e w2 ⟨rfl, xw, rfl, -⟩))
    go_ret
    exact RetE.fin (HE.out.trans xw.h) rfl
  have HSM := Lib.hid (farC_sm hb.symm)
  have HFM := Lib.hid (farC_len hb.symm).2.2.1
  have HWY := Lib.hid (farC_len hb.symm).2.2.2
  have hn6 := (farC_len hb.symm).1
  clear hb
  have HCP := Lib.hid (fun x : ExtW W => Copy06 C _ x.w (HVW.out x.w x.h) HSM.out)
  go_upto_region 4 with (first
    | (go_at_call 11; refine (HFA.out _).mono ?_; rintro e w2 ⟨rfl, xf, rfl, -⟩)
    | (go_at_call 13; refine (HCP.out _).mono ?_; rintro e w2 ⟨u, g, cx, rfl, hE2, hG2⟩; have HG2 := Lib.hid hG2; obtain ⟨⟨vs, hM2⟩, hX2⟩ := hG2; obtain ⟨pu, cu, rfl, -⟩ := hM2.mts; have HE2 := Lib.hid hE2; clear hE2 hM2 hX2))
  obtain ⟨s7, hs7⟩ : ∃ s7, s7 = w2.heap.size := ⟨_, rfl⟩
  obtain ⟨W7, hW7⟩ : ∃ W7, W7 = w2.alloc (.cells #[.slice pu C.meters.length cu, .slice (some ⟨g, 0, none⟩) C.extra.length cx, .int .i64 C.frm, .int .i64 C.tto] 25) := ⟨_, rfl⟩
  have hE7 : Ext W W7 := by rw [hW7]; exact (xf.h.trans HE2.out).alloc _
  have hG7 : ChG W7 xf.w.heap.size (.slice pu C.meters.length cu) g cx C := by rw [hW7]; exact HG2.out.ext ((Ext.refl _).alloc _)
  have m0 := heap_ext3 HM0.out hE7
  have m1 := heap_ext3 HM1.out hE7
  have m7 : W7.heap[s7]? = some (.cells #[.slice pu C.meters.length cu, .slice (some ⟨g, 0, none⟩) C.extra.length cx, .int .i64 C.frm, .int .i64 C.tto] 25) := by rw [hW7, hs7]; exact heap_new _ _
  rw [← hs7, ← hW7]
  have HG7 := Lib.hid hG7.ch
  clear hW7 hs7 hG7 a0 a1 a2 a3 b0 b1 HCP HFA HG2 HE2 HWK
  have a0 := ExtW.cell (v := .slice p C.meters.length c) (cell_of_heap m0 0)
  have a1 := ExtW.cell (v := .slice q C.extra.length d) (cell_of_heap m0 1)
  have a2 := ExtW.cell (v := .int .i64 C.frm) (cell_of_heap m0 2)
  have a3 := ExtW.cell (v := .int .i64 C.tto) (cell_of_heap m0 3)
  have b0 := ExtW.cell (v := .int .i64 t) (cell_of_heap m1 0)
  have b1 := ExtW.cell (v := .int .i64 f) (cell_of_heap m1 1)
  have k0 := ExtW.cell (v := .slice pu C.meters.length cu) (cell_of_heap m7 0)
  have k1 := ExtW.cell (v := .slice (some ⟨g, 0, none⟩) C.extra.length cx) (cell_of_heap m7 1)
  have k2 := ExtW.cell (v := .int .i64 C.frm) (cell_of_heap m7 2)
  have k3 := ExtW.cell (v := .int .i64 C.tto) (cell_of_heap m7 3)
  have HE7 := Lib.hid (HE.out.trans hE7)
  have HVX := Lib.hid (fun y (h : Ext W7 y) => HVW.out y (hE7.trans h))
  have HKX := Lib.hid (fun y (h : Ext W7 y) => HG7.out.ext h)
  have HTX := Lib.hid (fun y (h : Ext W7 y) => HTW.out.ext (hE7.trans h))
  have HWK := Lib.hid (fun x : ExtW W7 => ExtW.callX (x := x) (works06 x.w (HTX.out _ x.h)))
  have HSA := Lib.hid (fun x : ExtW W7 => ExtW.callX (x := x) (same06 C HSM.out _ _ x.w (HKX.out _ x.h) (HVX.out _ x.h)))
  obtain ⟨y7, hy7⟩ := ExtW.of (Ext.refl W7)
  clear m0 m1 m7 hE7
  conv => arg 5; rw [hy7]
  clear hy7
  obtain ⟨ck, hck⟩ : ∃ x, x = chkC C := ⟨_, rfl⟩
  have HC1 := Lib.hid (fun x : ExtW W7 => ExtW.call (v := .int .i64 ck) (x := x) (by
    have h := Check06 C _ x.w (HKX.out _ x.h) HSM.out
    rw [← hck] at h
    exact h))
  have HC2 := Lib.hid (fun x : ExtW W7 => ExtW.call (v := .int .i64 ck) (x := x) (by
    have h := rCheck06 C _ x.w (HVX.out _ x.h) HSM.out
    rw [← hck] at h
    exact h))
  clear hck
  have hckk : (ck != ck) = false := by simp
  go_upto_region 4 with (fail)
  refine wp_region_extW (by kernel_rfl) (by kernel_rfl) ?_
  repeat (go_big_quiet_step (first
    | (go_at_call 14; exact HC1.out _)
    | (go_at_call 15; exact HC2.out _)))
  refine wpQuiet_nil ?_
  rintro _ ⟨x0, rfl⟩
  clear HC1 HC2
  obtain ⟨L, hL⟩ : ∃ x, x = numsA C t := ⟨_, rfl⟩
  obtain ⟨z1, hz1⟩ : ∃ x, x = errT C t := ⟨_, rfl⟩
  obtain ⟨z2, hz2⟩ : ∃ x, x = errF C f := ⟨_, rfl⟩
  obtain ⟨lo, hlo⟩ : ∃ x, x = rankLoA C t := ⟨_, rfl⟩
  obtain ⟨hi, hhi⟩ : ∃ x, x = rankHiA C t := ⟨_, rfl⟩
  obtain ⟨cl, hcl⟩ : ∃ x, x = cutLoA C f := ⟨_, rfl⟩
  obtain ⟨cu2, hcu2⟩ : ∃ x, x = cutHiA C f := ⟨_, rfl⟩
  have hll : L.length ≤ 2000 := by
    rw [hL]; unfold numsA
    by_cases hz : errC C (isTB C t) = 0
    · rw [askT_0 hz]
      obtain ⟨hv0, -, hs0⟩ := errC_0 hz
      have hG := tabC_ok hv0 hs0
      by_cases hi0 : t.toNat < (tabC C).length
      · rw [rowT_get hi0]; exact hG.ls _ (List.getElem_mem hi0)
      · unfold rowT; rw [List.getD_eq_getElem?_getD, List.getElem?_eq_none (by omega)]; simp
    · rw [askT_ne hz, rowT_nil]; simp
  have HN1 := Lib.hid (fun x : ExtW W7 => ExtW.callN (l := L) (n := z1) (x := x) (by
    have h := Numbers06 C t _ x.w (HKX.out _ x.h) HSM.out (HTX.out _ x.h)
    rw [← hL, ← hz1] at h
    exact h))
  have HN2 := Lib.hid (fun x : ExtW W7 => ExtW.callN (l := L) (n := z1) (x := x) (by
    have h := rNumb06 C t _ x.w (HVX.out _ x.h) HSM.out HFM.out
    rw [← hL, ← hz1] at h
    exact h))
  have HR1 := Lib.hid (fun x : ExtW W7 => ExtW.callX (v := .tuple #[.agg #[.int .i64 lo, .int .i64 hi], .int .i64 z1]) (x := x) (by
    have h := Rank06 C t _ x.w (HKX.out _ x.h) HSM.out (HTX.out _ x.h)
    rw [← hlo, ← hhi, ← hz1] at h
    exact h))
  have HR2 := Lib.hid (fun x : ExtW W7 => ExtW.callX (v := .tuple #[.agg #[.int .i64 lo, .int .i64 hi], .int .i64 z1]) (x := x) (by
    have h := rRank06 C t _ x.w (HVX.out _ x.h) HSM.out HFM.out HWY.out
    rw [← hlo, ← hhi, ← hz1] at h
    exact h))
  have HU1 := Lib.hid (fun x : ExtW W7 => ExtW.callX (v := .tuple #[.agg #[.int .i64 cl, .int .i64 cu2], .int .i64 z2]) (x := x) (by
    have h := Cut06 C f _ x.w (HKX.out _ x.h) HSM.out (HTX.out _ x.h) HWF.out
    rw [← hcl, ← hcu2, ← hz2] at h
    exact h))
  have HU2 := Lib.hid (fun x : ExtW W7 => ExtW.callX (v := .tuple #[.agg #[.int .i64 cl, .int .i64 cu2], .int .i64 z2]) (x := x) (by
    have h := rCut06 C f _ x.w (HVX.out _ x.h) HSM.out HFM.out HWY.out
    rw [← hcl, ← hcu2, ← hz2] at h
    exact h))
  clear hL hz1 hz2 hlo hhi hcl hcu2
  go_upto_region 7 with (go_at_call 16; refine (HN1.out _).mono ?_; rintro e _ ⟨p1, c1, rfl, x1, rfl, hE1, hi1⟩)
  go_upto_region 8 with (go_at_call 17; refine (HN2.out _).mono ?_; rintro e _ ⟨p2, c2, rfl, x2, rfl, hE2, hi2⟩)
  have HIX := Lib.hid (⟨hi1.ext hE2, hi2⟩ : IntsAt x2.w p1 L ∧ IntsAt x2.w p2 L)
  clear HN1 HN2 hE1 hE2 hi1 hi2
  go_upto_region 9 with (go_at_call 18; refine (HR1.out _).mono ?_; rintro e w2 ⟨rfl, z1w, rfl, hE2⟩)
  obtain ⟨p0, hs⟩ : ∃ s, s = z1w.w.heap.size := ⟨_, rfl⟩
  obtain ⟨Wn, hWn⟩ : ∃ Wn, Wn = z1w.w.alloc (.cells #[.int .i64 lo, .int .i64 hi] 36) := ⟨_, rfl⟩
  have hEn : Ext W7 Wn := by rw [hWn]; exact z1w.h.alloc _
  have mn : Wn.heap[p0]? = some (.cells #[.int .i64 lo, .int .i64 hi] 36) := by rw [hWn, hs]; exact heap_new _ _
  rw [← hs, ← hWn]
  obtain ⟨y0, hyn⟩ := ExtW.of hEn
  conv => arg 5; rw [hyn]
  rw [hyn] at mn
  have HB0 := Lib.hid mn
  have HIX := Lib.hid (by
    rw [← hyn]
    have hE0 : Ext x2.w Wn := by rw [hWn]; exact hE2.alloc _
    exact ⟨HIX.out.1.ext hE0, HIX.out.2.ext hE0⟩ : IntsAt y0.w p1 L ∧ IntsAt y0.w p2 L)
  clear hs  hWn hEn mn hyn hE2
  go_upto_region 10 with (go_at_call 19; refine (HR2.out _).mono ?_; rintro e w2 ⟨rfl, z2w, rfl, hE2⟩)
  obtain ⟨p3, hs⟩ : ∃ s, s = z2w.w.heap.size := ⟨_, rfl⟩
  obtain ⟨Wn, hWn⟩ : ∃ Wn, Wn = z2w.w.alloc (.cells #[.int .i64 lo, .int .i64 hi] 36) := ⟨_, rfl⟩
  have hEn : Ext W7 Wn := by rw [hWn]; exact z2w.h.alloc _
  have mn : Wn.heap[p3]? = some (.cells #[.int .i64 lo, .int .i64 hi] 36) := by rw [hWn, hs]; exact heap_new _ _
  have mo0 := heap_ext3 HB0.out ((show Ext y0.w Wn from by rw [hWn]; exact hE2.alloc _))
  rw [← hs, ← hWn]
  obtain ⟨y1, hyn⟩ := ExtW.of hEn
  conv => arg 5; rw [hyn]
  rw [hyn] at mn
  rw [hyn] at mo0
  clear HB0
  have HB0 := Lib.hid mo0
  clear mo0
  have HB1 := Lib.hid mn
  have HIX := Lib.hid (by
    rw [← hyn]
    have hE0 : Ext y0.w Wn := by rw [hWn]; exact hE2.alloc _
    exact ⟨HIX.out.1.ext hE0, HIX.out.2.ext hE0⟩ : IntsAt y1.w p1 L ∧ IntsAt y1.w p2 L)
  clear hs  hWn hEn mn hyn hE2
  go_upto_region 11 with (go_at_call 20; refine (HU1.out _).mono ?_; rintro e w2 ⟨rfl, z3w, rfl, hE2⟩)
  obtain ⟨p4, hs⟩ : ∃ s, s = z3w.w.heap.size := ⟨_, rfl⟩
  obtain ⟨Wn, hWn⟩ : ∃ Wn, Wn = z3w.w.alloc (.cells #[.int .i64 cl, .int .i64 cu2] 36) := ⟨_, rfl⟩
  have hEn : Ext W7 Wn := by rw [hWn]; exact z3w.h.alloc _
  have mn : Wn.heap[p4]? = some (.cells #[.int .i64 cl, .int .i64 cu2] 36) := by rw [hWn, hs]; exact heap_new _ _
  have mo0 := heap_ext3 HB0.out ((show Ext y1.w Wn from by rw [hWn]; exact hE2.alloc _))
  have mo1 := heap_ext3 HB1.out ((show Ext y1.w Wn from by rw [hWn]; exact hE2.alloc _))
  rw [← hs, ← hWn]
  obtain ⟨y2, hyn⟩ := ExtW.of hEn
  conv => arg 5; rw [hyn]
  rw [hyn] at mn
  rw [hyn] at mo0
  clear HB0
  have HB0 := Lib.hid mo0
  clear mo0
  rw [hyn] at mo1
  clear HB1
  have HB1 := Lib.hid mo1
  clear mo1
  have HB2 := Lib.hid mn
  have HIX := Lib.hid (by
    rw [← hyn]
    have hE0 : Ext y1.w Wn := by rw [hWn]; exact hE2.alloc _
    exact ⟨HIX.out.1.ext hE0, HIX.out.2.ext hE0⟩ : IntsAt y2.w p1 L ∧ IntsAt y2.w p2 L)
  clear hs  hWn hEn mn hyn hE2
  go_upto_region 12 with (go_at_call 21; refine (HU2.out _).mono ?_; rintro e w2 ⟨rfl, z4w, rfl, hE2⟩)
  obtain ⟨p5, hs⟩ : ∃ s, s = z4w.w.heap.size := ⟨_, rfl⟩
  obtain ⟨Wn, hWn⟩ : ∃ Wn, Wn = z4w.w.alloc (.cells #[.int .i64 cl, .int .i64 cu2] 36) := ⟨_, rfl⟩
  have hEn : Ext W7 Wn := by rw [hWn]; exact z4w.h.alloc _
  have mn : Wn.heap[p5]? = some (.cells #[.int .i64 cl, .int .i64 cu2] 36) := by rw [hWn, hs]; exact heap_new _ _
  have mo0 := heap_ext3 HB0.out ((show Ext y2.w Wn from by rw [hWn]; exact hE2.alloc _))
  have mo1 := heap_ext3 HB1.out ((show Ext y2.w Wn from by rw [hWn]; exact hE2.alloc _))
  have mo2 := heap_ext3 HB2.out ((show Ext y2.w Wn from by rw [hWn]; exact hE2.alloc _))
  rw [← hs, ← hWn]
  obtain ⟨y3, hyn⟩ := ExtW.of hEn
  conv => arg 5; rw [hyn]
  rw [hyn] at mn
  rw [hyn] at mo0
  clear HB0
  have HB0 := Lib.hid mo0
  clear mo0
  rw [hyn] at mo1
  clear HB1
  have HB1 := Lib.hid mo1
  clear mo1
  rw [hyn] at mo2
  clear HB2
  have HB2 := Lib.hid mo2
  clear mo2
  have HB3 := Lib.hid mn
  have HIX := Lib.hid (by
    rw [← hyn]
    have hE0 : Ext y2.w Wn := by rw [hWn]; exact hE2.alloc _
    exact ⟨HIX.out.1.ext hE0, HIX.out.2.ext hE0⟩ : IntsAt y3.w p1 L ∧ IntsAt y3.w p2 L)
  clear hs  hWn hEn mn hyn hE2
  have d0 := ExtW.cell (v := .int .i64 lo) (a := y3.w) (cell_of_heap HB0.out 0)
  have d1 := ExtW.cell (v := .int .i64 hi) (a := y3.w) (cell_of_heap HB0.out 1)
  have d2 := ExtW.cell (v := .int .i64 lo) (a := y3.w) (cell_of_heap HB1.out 0)
  have d3 := ExtW.cell (v := .int .i64 hi) (a := y3.w) (cell_of_heap HB1.out 1)
  have d4 := ExtW.cell (v := .int .i64 cl) (a := y3.w) (cell_of_heap HB2.out 0)
  have d5 := ExtW.cell (v := .int .i64 cu2) (a := y3.w) (cell_of_heap HB2.out 1)
  have d6 := ExtW.cell (v := .int .i64 cl) (a := y3.w) (cell_of_heap HB3.out 0)
  have d7 := ExtW.cell (v := .int .i64 cu2) (a := y3.w) (cell_of_heap HB3.out 1)
  have e0 := cellUp a0 y3.h
  have e1 := cellUp a1 y3.h
  have e2 := cellUp a2 y3.h
  have e3 := cellUp a3 y3.h
  have f0 := cellUp k0 y3.h
  have f1 := cellUp k1 y3.h
  have f2 := cellUp k2 y3.h
  have f3 := cellUp k3 y3.h
  have HSI := Lib.hid (fun x : ExtW y3.w => ExtW.call (by
    have h := SameInts02 p1 p2 L L c1 c2 x.w (by omega) (by omega) (HIX.out.1.ext x.h) (HIX.out.2.ext x.h)
    rw [decide_eq_true rfl] at h
    exact h))
  have HSA2 := Lib.hid (fun x : ExtW y3.w => ExtW.call (same06 C HSM.out _ _ x.w (HKX.out _ (y3.h.trans x.h)) (HVX.out _ (y3.h.trans x.h))))
  have HWK2 := Lib.hid (fun x : ExtW y3.w => ExtW.call (works06 x.w (HTX.out _ (y3.h.trans x.h))))
  have HEN := Lib.hid (HE7.out.trans y3.h)
  obtain ⟨W9, hW9⟩ : ∃ W9, W9 = y3.w := ⟨_, rfl⟩
  rw [← hW9] at d0 d1 d2 d3 d4 d5 d6 d7 e0 e1 e2 e3 f0 f1 f2 f3 HSI HSA2 HWK2 HEN ⊢
  obtain ⟨y9, hy9⟩ := ExtW.of (Ext.refl W9)
  clear hW9 HB0 HB1 HB2 HB3 a0 a1 a2 a3 b0 b1 k0 k1 k2 k3 HIX HSA HWK
  conv => arg 5; rw [hy9]
  clear hy9
  have hz1 : (z1 == z1) = true := by simp
  have hz2 : (z2 == z2) = true := by simp
  go_wp2_with (first
    | (go_at_call 22; refine (HSI.out _).mono ?_; rintro e _ ⟨rfl, x10, rfl⟩)
    | (go_at_call 23; refine (HSA2.out _).mono ?_; rintro e _ ⟨rfl, x11, rfl⟩)
    | (go_at_call 12; refine (HWK2.out _).mono ?_; rintro e _ ⟨rfl, x12, rfl⟩))
  go_ret
  exact RetE.fin (HEN.out.trans x12.h) rfl
end Go.Proofs.YtaoamnhchidjfaaGreatDoor
