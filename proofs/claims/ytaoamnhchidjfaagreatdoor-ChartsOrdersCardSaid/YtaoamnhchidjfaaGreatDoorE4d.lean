
/- The walk of ChartsOrders. -/
import Derived.Test.YtaoamnhchidjfaaGreatDoorCF
import Derived.Test.YtaoamnhchidjfaaGreatDoorE2f
import Derived.Test.YtaoamnhchidjfaaGreatDoorE2d
import Derived.Test.YtaoamnhchidjfaaGreatDoorE4c
namespace Go.Proofs.YtaoamnhchidjfaaGreatDoor
open Go.RowKit

set_option maxRecDepth 20000 in
set_option maxHeartbeats 16000000 in
theorem ChartsOrders06 (v : Value) (C : Ch) (w : World) (hv : ChV w v C) (hT : TabW w) :
    Calls Tryz.prog 8 #[v] w (RetE (.bool true) w) := by
  have HV := Lib.hid hv
  have HT := Lib.hid hT
  obtain ⟨p, c, q, d, rfl, hp, hq⟩ := hv
  clear hp hq hT
  go_enter Tryz.func8, Tryz.ntmps8
  go_upto_region 1 with (fail)
  obtain ⟨s0, hs0⟩ : ∃ s0, s0 = w.heap.size := ⟨_, rfl⟩
  obtain ⟨W, hW⟩ : ∃ W, W = w.alloc (.cells #[.slice p C.meters.length c, .slice q C.extra.length d, .int .i64 C.frm, .int .i64 C.tto] 25) := ⟨_, rfl⟩
  have m0 : W.heap[s0]? = some (.cells #[.slice p C.meters.length c, .slice q C.extra.length d, .int .i64 C.frm, .int .i64 C.tto] 25) := by rw [hs0, hW]; exact heap_new _ _
  have hE : Ext w W := by rw [hW]; exact Ext.alloc (Ext.refl _) _
  rw [← hs0, ← hW]
  have a0 := ExtW.cell (v := .slice p C.meters.length c) (cell_of_heap m0 0)
  have a1 := ExtW.cell (v := .slice q C.extra.length d) (cell_of_heap m0 1)
  have a2 := ExtW.cell (v := .int .i64 C.frm) (cell_of_heap m0 2)
  have a3 := ExtW.cell (v := .int .i64 C.tto) (cell_of_heap m0 3)
  have HM0 := Lib.hid m0
  have HE := Lib.hid hE
  have HS0 := Lib.hid hs0
  have HVW := Lib.hid (fun y (h : Ext W y) => HV.out.ext (HE.out.trans h))
  have HTW := Lib.hid (HT.out.ext HE.out)
  have HWK := Lib.hid (fun x : ExtW W => ExtW.callX (x := x) (works06 x.w (HTW.out.ext x.h)))
  obtain ⟨b, hb⟩ : ∃ b, b = farC C := ⟨_, rfl⟩
  have HFA := Lib.hid (fun x : ExtW W => ExtW.callX (v := .bool b) (x := x) (by
    have h := Far06 C _ x.w (HVW.out _ x.h)
    rw [← hb] at h
    exact h))
  obtain ⟨y0, hy0⟩ := ExtW.of (Ext.refl W)
  clear hW m0 hE hs0
  conv => arg 5; rw [hy0]
  clear hy0
  cases b
  case true =>
    clear hb
    go_wp2_with (first
      | (go_at_call 11; refine (HFA.out _).mono ?_; rintro e w2 ⟨rfl, xr, rfl, -⟩)
      | (go_at_call 12; refine (HWK.out _).mono ?_; rintro e w2 ⟨rfl, xw, rfl, -⟩))
    go_ret
    exact RetE.fin (HE.out.trans xw.h) rfl
  have HSM := Lib.hid (farC_sm hb.symm)
  have HFM := Lib.hid (farC_len hb.symm).2.2.1
  have HWY := Lib.hid (farC_len hb.symm).2.2.2
  have hn6 := (farC_len hb.symm).1
  clear hb
  have HCP := Lib.hid (fun x : ExtW W => Copy06 C _ x.w (HVW.out x.w x.h) HSM.out)
  go_upto_region 4 with (first
    | (go_at_call 11; refine (HFA.out _).mono ?_; rintro e w2 ⟨rfl, xf, rfl, -⟩)
    | (go_at_call 13; refine (HCP.out _).mono ?_; rintro e w2 ⟨u, g, cx, rfl, hE2, hG2⟩; have HG2 := Lib.hid hG2; obtain ⟨⟨vs, hM2⟩, hX2⟩ := hG2; obtain ⟨pu, cu, rfl, -⟩ := hM2.mts; have HE2 := Lib.hid hE2; clear hE2 hM2 hX2))
  obtain ⟨s7, hs7⟩ : ∃ s7, s7 = w2.heap.size := ⟨_, rfl⟩
  obtain ⟨W7, hW7⟩ : ∃ W7, W7 = w2.alloc (.cells #[.slice pu C.meters.length cu, .slice (some ⟨g, 0, none⟩) C.extra.length cx, .int .i64 C.frm, .int .i64 C.tto] 25) := ⟨_, rfl⟩
  have hE7 : Ext W W7 := by rw [hW7]; exact (xf.h.trans HE2.out).alloc _
  have hG7 : ChG W7 xf.w.heap.size (.slice pu C.meters.length cu) g cx C := by rw [hW7]; exact HG2.out.ext ((Ext.refl _).alloc _)
  have m0 := heap_ext3 HM0.out hE7
  have m7 : W7.heap[s7]? = some (.cells #[.slice pu C.meters.length cu, .slice (some ⟨g, 0, none⟩) C.extra.length cx, .int .i64 C.frm, .int .i64 C.tto] 25) := by rw [hW7, hs7]; exact heap_new _ _
  rw [← hs7, ← hW7]
  have HG7 := Lib.hid hG7.ch
  clear hW7 hs7 hG7 a0 a1 a2 a3 HCP HFA HG2 HE2 HWK
  have a0 := ExtW.cell (v := .slice p C.meters.length c) (cell_of_heap m0 0)
  have a1 := ExtW.cell (v := .slice q C.extra.length d) (cell_of_heap m0 1)
  have a2 := ExtW.cell (v := .int .i64 C.frm) (cell_of_heap m0 2)
  have a3 := ExtW.cell (v := .int .i64 C.tto) (cell_of_heap m0 3)
  have k0 := ExtW.cell (v := .slice pu C.meters.length cu) (cell_of_heap m7 0)
  have k1 := ExtW.cell (v := .slice (some ⟨g, 0, none⟩) C.extra.length cx) (cell_of_heap m7 1)
  have k2 := ExtW.cell (v := .int .i64 C.frm) (cell_of_heap m7 2)
  have k3 := ExtW.cell (v := .int .i64 C.tto) (cell_of_heap m7 3)
  have HE7 := Lib.hid (HE.out.trans hE7)
  have HVX := Lib.hid (fun y (h : Ext W7 y) => HVW.out y (hE7.trans h))
  have HKX := Lib.hid (fun y (h : Ext W7 y) => HG7.out.ext h)
  have HTX := Lib.hid (fun y (h : Ext W7 y) => HTW.out.ext (hE7.trans h))
  have HWK := Lib.hid (fun x : ExtW W7 => ExtW.callX (x := x) (works06 x.w (HTX.out _ x.h)))
  have HSA := Lib.hid (fun x : ExtW W7 => ExtW.callX (x := x) (same06 C HSM.out _ _ x.w (HKX.out _ x.h) (HVX.out _ x.h)))
  obtain ⟨y7, hy7⟩ := ExtW.of (Ext.refl W7)
  clear m0 m7 hE7
  conv => arg 5; rw [hy7]
  clear hy7
  have hpi : (orderA C).length ≤ 20 := by
    unfold orderA okL
    split
    · rw [ordI_len, tabC_len]; exact hn6
    · simp
  have hio := fun (hz : errC C true = 0) (x : ExtW W7) po co (h : IntsAt x.w po (orderA C)) => rIsOrder06 C (orderA C) po co _ x.w (HVX.out _ x.h) HSM.out HFM.out HWY.out hz h (by omega) (by
    have hv := errC_0 hz
    have hG := tabC_ok hv.1 hv.2.2
    unfold orderA
    rw [okL_0 hz]
    exact ords_of (tru_hi hG.ok))
  have hnil : ¬errC C true = 0 → orderA C = [] := fun hz => okL_ne hz _
  obtain ⟨m, hm⟩ : ∃ x, x = ordersA C := ⟨_, rfl⟩
  obtain ⟨z, hz⟩ : ∃ x, x = errC C true := ⟨_, rfl⟩
  obtain ⟨L, hL⟩ : ∃ x, x = orderA C := ⟨_, rfl⟩
  rw [← hL] at hpi hio hnil
  rw [← hz] at hio hnil
  have HO1 := Lib.hid (fun x : ExtW W7 => ExtW.callX (v := .tuple #[.int .i64 m, .int .i64 z]) (x := x) (by
    have h := Orders06 C _ x.w (HKX.out _ x.h) HSM.out (HTX.out _ x.h)
    rw [← hm, ← hz] at h
    exact h))
  have HO2 := Lib.hid (fun x : ExtW W7 => ExtW.callX (v := .tuple #[.int .i64 m, .int .i64 z]) (x := x) (by
    have h := rOrders06 C _ x.w (HVX.out _ x.h) HSM.out HFM.out HWY.out
    rw [← hm, ← hz] at h
    exact h))
  have HP1 := Lib.hid (fun x : ExtW W7 => ExtW.callL (l := L) (n := z) (x := x) (by
    have h := Order06 C _ x.w (HKX.out _ x.h) HSM.out (HTX.out _ x.h)
    rw [← hL, ← hz] at h
    exact h))
  have HIO := Lib.hid hio
  have HNL := Lib.hid hnil
  clear hm hz hL hio hnil
  go_upto_region 5 with (go_at_call 34; refine (HO1.out _).mono ?_; rintro e _ ⟨rfl, x1, rfl, -⟩)
  go_upto_region 6 with (go_at_call 45; refine (HO2.out _).mono ?_; rintro e _ ⟨rfl, x2, rfl, -⟩)
  go_upto_region 7 with (go_at_call 44; refine (HP1.out _).mono ?_; rintro e _ ⟨p1, c1, rfl, x3, rfl, hE3, hi3, -⟩)
  have HI3 := Lib.hid hi3
  have h1 : (m != m) = false := by simp
  have h2 : (z != z) = false := by simp
  have h3 : ¬(40 : Int) < (L.length : Int) := by omega
  clear HO1 HO2 HP1 hi3 hE3
  go_upto_region 9 with (go_at_call 23; refine (HSA.out _).mono ?_; rintro e _ ⟨rfl, x4, rfl, hE4⟩)
  have HI4 := Lib.hid (HI3.out.ext hE4)
  clear hE4 h1 h2 h3
  by_cases hz0 : z = 0
  case neg =>
    have hg : (z != 0) = true := by simpa using hz0
    have hl0 := HNL.out hz0
    have HL0 : EqS L.length 0 := ⟨by rw [hl0]; rfl⟩
    have hl1 : (L.length : Int) = 0 := by have := HL0.out; omega
    clear hl0 hz0
    go_wp2_with (go_at_call 12; refine (HWK.out _).mono ?_; rintro e _ ⟨rfl, x12, rfl, -⟩)
    go_ret
    exact RetE.fin (HE7.out.trans x12.h) rfl
  subst hz0
  have HIQ := Lib.hid (HIO.out rfl x4 p1 c1 HI4.out)
  go_wp2_with (first
    | (go_at_call 46; refine HIQ.out.mono ?_; rintro e w9 ⟨rfl, hE9⟩; obtain ⟨x9, hx9⟩ := ExtW.of (x4.h.trans hE9); subst hx9)
    | (go_at_call 12; refine (HWK.out _).mono ?_; rintro e _ ⟨rfl, x12, rfl, -⟩))
  go_ret
  exact RetE.fin (HE7.out.trans x12.h) rfl
end Go.Proofs.YtaoamnhchidjfaaGreatDoor
