/- The walk of SwapsFewest. -/
import Derived.Test.YtpgjkmjejpfkmaaKD
namespace Go.Proofs.Ytpgjkmjejpfkmaa
open Go.RowKit

set_option maxRecDepth 100000 in
set_option maxHeartbeats 8000000 in
theorem SwapsFewest07 (v : Value) (S : Swap) (goal title : Int) (w : World) (hv : SwapV w v S) (hM : Big S) :
    Calls Try.prog 5 #[v, .agg #[.int .i64 goal, .int .i64 title]] w (RetE (.bool true) w) := by
  have HV := Lib.hid hv
  obtain ⟨p0, c0, p1, c1, p2, c2, p3, c3, rfl, h0, h1, h2, h3⟩ := hv
  clear h0 h1 h2 h3
  go_enter Try.func5, Try.ntmps5
  go_upto_region 1 with (fail)
  have hn := heap_new1 w (.cells #[.slice p0 S.boxes.length c0, .slice p1 S.stock.length c1, .slice p2 S.earn.length c2, .slice p3 S.keeps.length c3, .int .i64 S.changes] 26) (.cells #[.int .i64 goal, .int .i64 title] 41)
  have hn2 := heap_new2 w (.cells #[.slice p0 S.boxes.length c0, .slice p1 S.stock.length c1, .slice p2 S.earn.length c2, .slice p3 S.keeps.length c3, .int .i64 S.changes] 26) (.cells #[.int .i64 goal, .int .i64 title] 41)
  obtain ⟨W, hW⟩ : ∃ W, W = (w.alloc (.cells #[.slice p0 S.boxes.length c0, .slice p1 S.stock.length c1, .slice p2 S.earn.length c2, .slice p3 S.keeps.length c3, .int .i64 S.changes] 26)).alloc (.cells #[.int .i64 goal, .int .i64 title] 41) := ⟨_, rfl⟩
  have hE : Ext w W := by rw [hW]; exact Ext.alloc (Ext.alloc (Ext.refl w) _) _
  rw [← hW] at hn hn2 ⊢
  have q0 := ExtW.cell (v := .slice p0 S.boxes.length c0) (cell_of_heap hn 0)
  have q1 := ExtW.cell (v := .slice p1 S.stock.length c1) (cell_of_heap hn 1)
  have q2 := ExtW.cell (v := .slice p2 S.earn.length c2) (cell_of_heap hn 2)
  have q3 := ExtW.cell (v := .slice p3 S.keeps.length c3) (cell_of_heap hn 3)
  have q4 := ExtW.cell (v := .int .i64 S.changes) (cell_of_heap hn 4)
  have y0 := ExtW.cell (v := .int .i64 goal) (cell_of_heap hn2 0)
  have y1 := ExtW.cell (v := .int .i64 title) (cell_of_heap hn2 1)
  have HW := Lib.hid (fun x : ExtW W => ExtW.call (works07 x.w))
  have HR0 := fun x : ExtW W => ExtW.call (Far07 _ S x.w (SwapV.mono _ _ _ _ (hE.trans x.h) HV.out) hM)
  have HSV := Lib.hid (fun x : ExtW W => SwapV.mono _ _ _ _ (hE.trans x.h) HV.out)
  obtain ⟨x0, hx0⟩ := ExtW.of (Ext.refl W)
  have HEW := Lib.hid hE
  clear hW hn hn2 hE
  conv => arg 5; rw [hx0]
  clear hx0
  by_cases hR : FarS S
  · rw [bP_t hR] at HR0
    have HR := Lib.hid HR0
    clear hR HR0
    go_wp2_with fail
    refine (HR.out _).mono ?_
    rintro e _ ⟨rfl, x1, rfl⟩
    go_wp2_with fail
    refine (HW.out _).mono ?_
    rintro e _ ⟨rfl, x2, rfl⟩
    go_wp2
    go_ret
    exact RetE.fin (HEW.out.trans x2.h) rfl
  rw [bP_f hR] at HR0
  have HR := Lib.hid HR0
  have hwd : ¬Wide S := fun h => hR (Or.inl h)
  have HMD := Lib.hid (modest_of hwd)
  have HLS := Lib.hid (lens_of hwd)
  clear hR HR0 hwd
  go_wp2_with fail
  refine (HR.out _).mono ?_
  rintro e _ ⟨rfl, x1, rfl⟩
  go_wp2_with fail
  refine (Clone07c x1 _ S (HSV.out x1) HLS.out).mono ?_
  rintro e _ ⟨r0, d0, r1, d1, r2, d2, r3, d3, rfl, x2, rfl, hsv⟩
  go_upto_region 4 with (fail)
  have hn6 := heap_new x2.w (.cells #[.slice r0 S.boxes.length d0, .slice r1 S.stock.length d1, .slice r2 S.earn.length d2, .slice r3 S.keeps.length d3, .int .i64 S.changes] 26)
  obtain ⟨X, hX⟩ : ∃ X, X = x2.w.alloc (.cells #[.slice r0 S.boxes.length d0, .slice r1 S.stock.length d1, .slice r2 S.earn.length d2, .slice r3 S.keeps.length d3, .int .i64 S.changes] 26) := ⟨_, rfl⟩
  have hEX : Ext x2.w X := by rw [hX]; exact Ext.alloc (Ext.refl x2.w) _
  rw [← hX] at hn6 ⊢
  obtain ⟨B6, hB6⟩ : ∃ B6, B6 = x2.w.heap.size := ⟨_, rfl⟩
  rw [← hB6] at hn6 ⊢
  have hWX : Ext W X := x2.h.trans hEX
  have s0 : ∀ x : ExtW X, x.w.cell? ⟨w.heap.size, 0, none⟩ = some (.slice p0 S.boxes.length c0) := fun x => q0 ⟨x.w, hWX.trans x.h⟩
  have s1 : ∀ x : ExtW X, x.w.cell? ⟨w.heap.size, 1, none⟩ = some (.slice p1 S.stock.length c1) := fun x => q1 ⟨x.w, hWX.trans x.h⟩
  have s2 : ∀ x : ExtW X, x.w.cell? ⟨w.heap.size, 2, none⟩ = some (.slice p2 S.earn.length c2) := fun x => q2 ⟨x.w, hWX.trans x.h⟩
  have s3 : ∀ x : ExtW X, x.w.cell? ⟨w.heap.size, 3, none⟩ = some (.slice p3 S.keeps.length c3) := fun x => q3 ⟨x.w, hWX.trans x.h⟩
  have s4 : ∀ x : ExtW X, x.w.cell? ⟨w.heap.size, 4, none⟩ = some (.int .i64 S.changes) := fun x => q4 ⟨x.w, hWX.trans x.h⟩
  have u0 : ∀ x : ExtW X, x.w.cell? ⟨w.heap.size + 1, 0, none⟩ = some (.int .i64 goal) := fun x => y0 ⟨x.w, hWX.trans x.h⟩
  have u1 : ∀ x : ExtW X, x.w.cell? ⟨w.heap.size + 1, 1, none⟩ = some (.int .i64 title) := fun x => y1 ⟨x.w, hWX.trans x.h⟩
  have o0 := ExtW.cell (v := .slice r0 S.boxes.length d0) (cell_of_heap hn6 0)
  have o1 := ExtW.cell (v := .slice r1 S.stock.length d1) (cell_of_heap hn6 1)
  have o2 := ExtW.cell (v := .slice r2 S.earn.length d2) (cell_of_heap hn6 2)
  have o3 := ExtW.cell (v := .slice r3 S.keeps.length d3) (cell_of_heap hn6 3)
  have o4 := ExtW.cell (v := .int .i64 S.changes) (cell_of_heap hn6 4)
  have HSS := Lib.hid (fun x : ExtW X => SwapV.mono _ _ _ _ (HEW.out.trans (hWX.trans x.h)) HV.out)
  have HSO := Lib.hid (fun x : ExtW X => SwapV.mono _ _ _ _ (hEX.trans x.h) hsv)
  have HWT := Lib.hid (fun x : ExtW X => ExtW.call (works07 x.w))
  have HEX := Lib.hid (HEW.out.trans hWX)
  obtain ⟨fa, fb, hfv⟩ := few_vals S goal
  obtain ⟨ca, cb, hcv⟩ := copy_valsK S title
  obtain ⟨na, nb, hnv⟩ := change_vals S
  have HF1 := Lib.hid (fun x : ExtW X => ExtW.call (hfv ▸ Fewest07 _ S goal x.w (HSO.out x) HMD.out))
  have HF2 := Lib.hid (fun x : ExtW X => ExtW.call (hfv ▸ rFewest07 _ S goal x.w (HSS.out x) HMD.out))
  have HC1 := Lib.hid (fun x : ExtW X => ExtW.call (hcv ▸ Copy07 _ S title x.w (HSO.out x) HMD.out))
  have HC2 := Lib.hid (fun x : ExtW X => ExtW.call (hcv ▸ rCopy07 _ S title x.w (HSS.out x) HMD.out))
  have HN1 := Lib.hid (fun x : ExtW X => ExtW.call (hnv ▸ Change07 _ S x.w (HSO.out x) HMD.out))
  have HN2 := Lib.hid (fun x : ExtW X => ExtW.call (hnv ▸ rChange07 _ S x.w (HSS.out x) HMD.out))
  have HSM := Lib.hid (fun x : ExtW X => ExtW.call (same07 _ _ S x.w (HSO.out x) (HSS.out x) HMD.out))
  obtain ⟨z0, hz0⟩ := ExtW.of (Ext.refl X)
  clear hX hEX hn6 hB6 hWX q0 q1 q2 q3 q4 y0 y1 HW HR HSV HEW hsv hfv hcv hnv
  conv => arg 5; rw [hz0]
  clear hz0
  go_wp2_with fail
  refine (HF1.out _).mono ?_
  rintro e _ ⟨rfl, z1, rfl⟩
  go_wp2_with fail
  refine (HF2.out _).mono ?_
  rintro e _ ⟨rfl, z2, rfl⟩
  go_wp2_with fail
  refine (HC1.out _).mono ?_
  rintro e _ ⟨rfl, z3, rfl⟩
  go_wp2_with fail
  refine (HC2.out _).mono ?_
  rintro e _ ⟨rfl, z4, rfl⟩
  go_wp2_with fail
  refine (HN1.out _).mono ?_
  rintro e _ ⟨rfl, z5, rfl⟩
  go_wp2_with fail
  refine (HN2.out _).mono ?_
  rintro e _ ⟨rfl, z6, rfl⟩
  go_wp2_with fail
  refine (HSM.out _).mono ?_
  rintro e _ ⟨rfl, z7, rfl⟩
  go_wp2_with fail
  refine (HWT.out _).mono ?_
  rintro e _ ⟨rfl, z8, rfl⟩
  go_wp2
  go_ret
  exact RetE.fin (HEX.out.trans z8.h) rfl
end Go.Proofs.Ytpgjkmjejpfkmaa
