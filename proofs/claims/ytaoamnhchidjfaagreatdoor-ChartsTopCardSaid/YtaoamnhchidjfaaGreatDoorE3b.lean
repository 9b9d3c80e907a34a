
/- The walk of ChartsTop. -/
import Derived.Test.YtaoamnhchidjfaaGreatDoorCF
import Derived.Test.YtaoamnhchidjfaaGreatDoorE2f
import Derived.Test.YtaoamnhchidjfaaGreatDoorE2e
namespace Go.Proofs.YtaoamnhchidjfaaGreatDoor
open Go.RowKit

theorem topM_len (C : Ch) (f : Int) : (topA C f).length ≤ C.meters.length ∧ (mayA C f).length ≤ C.meters.length := by
  have h1 : (topL (tabC C) f).length ≤ C.meters.length := by rw [← tabC_len C]; exact pick_max
  have h2 : (mayL (tabC C) f).length ≤ C.meters.length := by rw [← tabC_len C]; exact pick_max
  unfold topA mayA okL
  constructor
  · split
    · exact h1
    · simp
  · split
    · exact h2
    · simp
set_option maxRecDepth 20000 in
set_option maxHeartbeats 16000000 in
theorem ChartsTop06 (v : Value) (C : Ch) (t f : Int) (w : World) (hv : ChV w v C) (hwf : (Lit.int .i64 f).wf = true) (hT : TabW w) :
    Calls Tryz.prog 6 #[v, .agg #[.int .i64 t, .int .i64 f]] w (RetE (.bool true) w) := by
  have HWF := Lib.hid hwf
  clear hwf
  have HV := Lib.hid hv
  have HT := Lib.hid hT
  obtain ⟨p, c, q, d, rfl, hp, hq⟩ := hv
  clear hp hq hT
  go_enter Tryz.func6, Tryz.ntmps6
  go_upto_region 1 with (fail)
  obtain ⟨s0, hs0⟩ : ∃ s0, s0 = w.heap.size := ⟨_, rfl⟩
  obtain ⟨W, hW⟩ : ∃ W, W = (w.alloc (.cells #[.slice p C.meters.length c, .slice q C.extra.length d, .int .i64 C.frm, .int .i64 C.tto] 25)).alloc (.cells #[.int .i64 t, .int .i64 f] 27) := ⟨_, rfl⟩
  have m0 : W.heap[s0]? = some (.cells #[.slice p C.meters.length c, .slice q C.extra.length d, .int .i64 C.frm, .int .i64 C.tto] 25) := by rw [hs0, hW, Below.heap_alloc _ _ _ (by rw [size_alloc]; omega)]; exact heap_new _ _
  have m1 : W.heap[s0 + 1]? = some (.cells #[.int .i64 t, .int .i64 f] 27) := by rw [hs0, hW]; exact heap_new2 _ _ _
  have hE : Ext w W := by rw [hW]; exact Ext.alloc (Ext.alloc (Ext.refl _) _) _
  rw [← hs0, ← hW]
  obtain ⟨s1, hs1⟩ : ∃ s1, s1 = s0 + 1 := ⟨_, rfl⟩
  rw [← hs1] at m1 ⊢
  have a0 := ExtW.cell (v := .slice p C.meters.length c) (cell_of_heap m0 0)
  have a1 := ExtW.cell (v := .slice q C.extra.length d) (cell_of_heap m0 1)
  have a2 := ExtW.cell (v := .int .i64 C.frm) (cell_of_heap m0 2)
  have a3 := ExtW.cell (v := .int .i64 C.tto) (cell_of_heap m0 3)
  have b0 := ExtW.cell (v := .int .i64 t) (cell_of_heap m1 0)
  have b1 := ExtW.cell (v := .int .i64 f) (cell_of_heap m1 1)
  have HM0 := Lib.hid m0
  have HM1 := Lib.hid m1
  have HE := Lib.hid hE
  have HS0 := Lib.hid hs0
  have HS1 := Lib.hid hs1
  have HVW := Lib.hid (fun y (h : Ext W y) => HV.out.ext (HE.out.trans h))
  have HTW := Lib.hid (HT.out.ext HE.out)
  have HWK := Lib.hid (fun x : ExtW W => ExtW.callX (x := x) (works06 x.w (HTW.out.ext x.h)))
  obtain ⟨b, hb⟩ : ∃ b, b = farC C := ⟨_, rfl⟩
  have HFA := Lib.hid (fun x : ExtW W => ExtW.callX (v := .bool b) (x := x) (by
    have h := Far06 C _ x.w (HVW.out _ x.h)
    rw [← hb] at h
    exact h))
  obtain ⟨y0, hy0⟩ := ExtW.of (Ext.refl W)
  clear hW m0 m1 hE hs0 hs1
  conv => arg 5; rw [hy0]
  clear hy0
  cases b
  case true =>
    clear hb
    go_wp2_with (first
      | (go_at_call 11; refine (HFA.out _).mono ?_; rintro e w2 ⟨rfl, xr, rfl, -⟩)
      | (go_at_call 12; refine (HWK.out _).mono ?_; rintro e w2 ⟨rfl, xw, rfl, -⟩))
    go_ret
    exact RetE.fin (HE.out.trans xw.h) rfl
  have HSM := Lib.hid (farC_sm hb.symm)
  have HFM := Lib.hid (farC_len hb.symm).2.2.1
  have HWY := Lib.hid (farC_len hb.symm).2.2.2
  have hn6 := (farC_len hb.symm).1
  clear hb
  have HCP := Lib.hid (fun x : ExtW W => Copy06 C _ x.w (HVW.out x.w x.h) HSM.out)
  go_upto_region 4 with (first
    | (go_at_call 11; refine (HFA.out _).mono ?_; rintro e w2 ⟨rfl, xf, rfl, -⟩)
    | (go_at_call 13; refine (HCP.out _).mono ?_; rintro e w2 ⟨u, g, cx, rfl, hE2, hG2⟩; have HG2 := Lib.hid hG2; obtain ⟨⟨vs, hM2⟩, hX2⟩ := hG2; obtain ⟨pu, cu, rfl, -⟩ := hM2.mts; have HE2 := Lib.hid hE2; clear hE2 hM2 hX2))
  obtain ⟨s7, hs7⟩ : ∃ s7, s7 = w2.heap.size := ⟨_, rfl⟩
  obtain ⟨W7, hW7⟩ : ∃ W7, W7 = w2.alloc (.cells #[.slice pu C.meters.length cu, .slice (some ⟨g, 0, none⟩) C.extra.length cx, .int .i64 C.frm, .int .i64 C.tto] 25) := ⟨_, rfl⟩
  have hE7 : Ext W W7 := by rw [hW7]; exact (xf.h.trans HE2.out).alloc _
  have hG7 : ChG W7 xf.w.heap.size (.slice pu C.meters.length cu) g cx C := by rw [hW7]; exact HG2.out.ext ((Ext.refl _).alloc _)
  have m0 := heap_ext3 HM0.out hE7
  have m1 := heap_ext3 HM1.out hE7
  have m7 : W7.heap[s7]? = some (.cells #[.slice pu C.meters.length cu, .slice (some ⟨g, 0, none⟩) C.extra.length cx, .int .i64 C.frm, .int .i64 C.tto] 25) := by rw [hW7, hs7]; exact heap_new _ _
  rw [← hs7, ← hW7]
  have HG7 := Lib.hid hG7.ch
  clear hW7 hs7 hG7 a0 a1 a2 a3 b0 b1 HCP HFA HG2 HE2 HWK
  have a0 := ExtW.cell (v := .slice p C.meters.length c) (cell_of_heap m0 0)
  have a1 := ExtW.cell (v := .slice q C.extra.length d) (cell_of_heap m0 1)
  have a2 := ExtW.cell (v := .int .i64 C.frm) (cell_of_heap m0 2)
  have a3 := ExtW.cell (v := .int .i64 C.tto) (cell_of_heap m0 3)
  have b0 := ExtW.cell (v := .int .i64 t) (cell_of_heap m1 0)
  have b1 := ExtW.cell (v := .int .i64 f) (cell_of_heap m1 1)
  have k0 := ExtW.cell (v := .slice pu C.meters.length cu) (cell_of_heap m7 0)
  have k1 := ExtW.cell (v := .slice (some ⟨g, 0, none⟩) C.extra.length cx) (cell_of_heap m7 1)
  have k2 := ExtW.cell (v := .int .i64 C.frm) (cell_of_heap m7 2)
  have k3 := ExtW.cell (v := .int .i64 C.tto) (cell_of_heap m7 3)
  have HE7 := Lib.hid (HE.out.trans hE7)
  have HVX := Lib.hid (fun y (h : Ext W7 y) => HVW.out y (hE7.trans h))
  have HKX := Lib.hid (fun y (h : Ext W7 y) => HG7.out.ext h)
  have HTX := Lib.hid (fun y (h : Ext W7 y) => HTW.out.ext (hE7.trans h))
  have HWK := Lib.hid (fun x : ExtW W7 => ExtW.callX (x := x) (works06 x.w (HTX.out _ x.h)))
  have HSA := Lib.hid (fun x : ExtW W7 => ExtW.callX (x := x) (same06 C HSM.out _ _ x.w (HKX.out _ x.h) (HVX.out _ x.h)))
  obtain ⟨y7, hy7⟩ := ExtW.of (Ext.refl W7)
  clear m0 m1 m7 hE7
  conv => arg 5; rw [hy7]
  clear hy7
  have hlen := topM_len C f
  obtain ⟨L1, hL1⟩ : ∃ x, x = topA C f := ⟨_, rfl⟩
  obtain ⟨L2, hL2⟩ : ∃ x, x = mayA C f := ⟨_, rfl⟩
  obtain ⟨z1, hz1⟩ : ∃ x, x = errF C f := ⟨_, rfl⟩
  obtain ⟨na, hna⟩ : ∃ x, x = needsA C t f := ⟨_, rfl⟩
  obtain ⟨z2, hz2⟩ : ∃ x, x = errN C t f := ⟨_, rfl⟩
  obtain ⟨nx, hnx⟩ : ∃ x, x = nextTA C f := ⟨_, rfl⟩
  obtain ⟨z3, hz3⟩ : ∃ x, x = nextTE C f := ⟨_, rfl⟩
  rw [← hL1, ← hL2] at hlen
  have HT1 := Lib.hid (fun x : ExtW W7 => ExtW.callL (l := L1) (n := z1) (x := x) (by
    have h := Top06 C f _ x.w (HKX.out _ x.h) HSM.out (HTX.out _ x.h) HWF.out
    rw [← hL1, ← hz1] at h
    exact h))
  have HT2 := Lib.hid (fun x : ExtW W7 => ExtW.callL (l := L1) (n := z1) (x := x) (by
    have h := rTop06 C f _ x.w (HVX.out _ x.h) HSM.out HFM.out HWY.out
    rw [← hL1, ← hz1] at h
    exact h))
  have HM1' := Lib.hid (fun x : ExtW W7 => ExtW.callL (l := L2) (n := z1) (x := x) (by
    have h := May06 C f _ x.w (HKX.out _ x.h) HSM.out (HTX.out _ x.h) HWF.out
    rw [← hL2, ← hz1] at h
    exact h))
  have HM2 := Lib.hid (fun x : ExtW W7 => ExtW.callL (l := L2) (n := z1) (x := x) (by
    have h := rMay06 C f _ x.w (HVX.out _ x.h) HSM.out HFM.out HWY.out
    rw [← hL2, ← hz1] at h
    exact h))
  have HN1 := Lib.hid (fun x : ExtW W7 => ExtW.callX (v := .tuple #[.int .i64 na, .int .i64 z2]) (x := x) (by
    have h := Needs06 C t f _ x.w (HKX.out _ x.h) HSM.out (HTX.out _ x.h) HWF.out
    rw [← hna, ← hz2] at h
    exact h))
  have HN2 := Lib.hid (fun x : ExtW W7 => ExtW.callX (v := .tuple #[.int .i64 na, .int .i64 z2]) (x := x) (by
    have h := rNeeds06 C t f _ x.w (HVX.out _ x.h) HSM.out HFM.out HWY.out
    rw [← hna, ← hz2] at h
    exact h))
  have HX1 := Lib.hid (fun x : ExtW W7 => ExtW.callX (v := .tuple #[.int .i64 nx, .int .i64 z3]) (x := x) (by
    have h := Next06 C f _ x.w (HKX.out _ x.h) HSM.out (HTX.out _ x.h) HWF.out
    rw [← hnx, ← hz3] at h
    exact h))
  have HX2 := Lib.hid (fun x : ExtW W7 => ExtW.callX (v := .tuple #[.int .i64 nx, .int .i64 z3]) (x := x) (by
    have h := rNext06 C f _ x.w (HVX.out _ x.h) HSM.out HFM.out HWY.out
    rw [← hnx, ← hz3] at h
    exact h))
  clear hL1 hL2 hz1 hna hz2 hnx hz3
  go_upto_region 5 with (go_at_call 29; refine (HT1.out _).mono ?_; rintro e _ ⟨p1, c1, rfl, x1, rfl, hE1, hi1, -⟩)
  go_upto_region 6 with (go_at_call 38; refine (HT2.out _).mono ?_; rintro e _ ⟨p2, c2, rfl, x2, rfl, hE2, hi2, -⟩)
  go_upto_region 7 with (go_at_call 30; refine (HM1'.out _).mono ?_; rintro e _ ⟨p3, c3, rfl, x3, rfl, hE3, hi3, -⟩)
  go_upto_region 8 with (go_at_call 39; refine (HM2.out _).mono ?_; rintro e _ ⟨p4, c4, rfl, x4, rfl, hE4, hi4, -⟩)
  have HS1 := Lib.hid (fun y (h : Ext x4.w y) => (by
    have h := SameInts02 p1 p2 L1 L1 c1 c2 y (by omega) (by omega) ((hi1.ext (hE2.trans (hE3.trans hE4))).ext h) ((hi2.ext (hE3.trans hE4)).ext h)
    rw [decide_eq_true rfl] at h
    exact h : Calls Tryz.prog 22 #[.slice p1 L1.length c1, .slice p2 L1.length c2] y (RetE (.bool true) y)))
  have HS2 := Lib.hid (fun y (h : Ext x4.w y) => (by
    have h := SameInts02 p3 p4 L2 L2 c3 c4 y (by omega) (by omega) ((hi3.ext hE4).ext h) (hi4.ext h)
    rw [decide_eq_true rfl] at h
    exact h : Calls Tryz.prog 22 #[.slice p3 L2.length c3, .slice p4 L2.length c4] y (RetE (.bool true) y)))
  clear HT1 HT2 HM1' HM2 hE1 hE2 hE3 hE4 hi1 hi2 hi3 hi4
  have hz1 : (z1 != z1) = false := by simp
  have hz2 : (z2 == z2) = true := by simp
  have hz3 : (z3 == z3) = true := by simp
  have hz4 : (na == na) = true := by simp
  have hz5 : (nx == nx) = true := by simp
  go_wp2_with (fail)
  go_at_call 22
  with_reducible refine (HS1.out _ (Ext.refl _)).mono ?_
  rintro e _ ⟨rfl, hE5⟩
  go_wp2_with (fail)
  go_at_call 22
  with_reducible refine (HS2.out _ hE5).mono ?_
  rintro e _ ⟨rfl, hE6⟩
  go_upto_region 10 with (fail)
  obtain ⟨y6, hy6⟩ := ExtW.of (x4.h.trans (hE5.trans hE6))
  conv => arg 5; rw [hy6]
  clear hy6 hE5 hE6 HS1 HS2
  go_upto_region 11 with (go_at_call 40; refine (HN1.out _).mono ?_; rintro e _ ⟨rfl, x5, rfl, -⟩)
  go_upto_region 12 with (go_at_call 41; refine (HN2.out _).mono ?_; rintro e _ ⟨rfl, x6, rfl, -⟩)
  go_upto_region 13 with (go_at_call 42; refine (HX1.out _).mono ?_; rintro e _ ⟨rfl, x7, rfl, -⟩)
  go_upto_region 14 with (go_at_call 43; refine (HX2.out _).mono ?_; rintro e _ ⟨rfl, x8, rfl, -⟩)
  go_wp2_with (first
    | (go_at_call 23; refine (HSA.out _).mono ?_; rintro e _ ⟨rfl, x11, rfl, -⟩)
    | (go_at_call 12; refine (HWK.out _).mono ?_; rintro e _ ⟨rfl, x12, rfl, -⟩))
  go_ret
  exact RetE.fin (HE7.out.trans x12.h) rfl
end Go.Proofs.YtaoamnhchidjfaaGreatDoor
