/- The walk of MetersNext. -/
import Derived.Test.YtimelbcfaniifaaDoorQ9i
import Derived.Test.YtimelbcfaniifaaDoorQ8g
import Derived.Test.YtimelbcfaniifaaDoorQ8h
namespace Go.Proofs.YtimelbcfaniifaaDoor
open Go.RowKit

set_option maxRecDepth 20000 in
set_option maxHeartbeats 16000000 in
theorem MetersNext04 (v : Value) (M : Mt) (w : World) (hv : MtV w v M) (hT : TabW w) :
    Calls Tryd.prog 4 #[v] w (RetE (.bool true) w) := by
  have HV := Lib.hid hv
  have HT := Lib.hid hT
  obtain ⟨p, c, qq, d, rfl, hp, hq⟩ := hv
  clear hp hq hT
  go_enter Tryd.func4, Tryd.ntmps4
  go_upto_region 1 with (fail)
  obtain ⟨s0, hs0⟩ : ∃ s0, s0 = w.heap.size := ⟨_, rfl⟩
  obtain ⟨W, hW⟩ : ∃ W, W = w.alloc (.cells #[.slice p M.weeks.length c, .slice qq M.reads.length d, .int .i64 M.wrong] 25) := ⟨_, rfl⟩
  have m0 : W.heap[s0]? = some (.cells #[.slice p M.weeks.length c, .slice qq M.reads.length d, .int .i64 M.wrong] 25) := by rw [hs0]; exact heap_at0 (by rw [hW]; exact (by repeat (first | exact Ext.refl _ | assumption | refine Ext.drewN ?_ _ | refine Ext.drew ?_ | refine Ext.alloc ?_ _)))
  have hE : Ext w W := by rw [hW]; exact (by repeat (first | exact Ext.refl _ | assumption | refine Ext.drewN ?_ _ | refine Ext.drew ?_ | refine Ext.alloc ?_ _))
  rw [← hs0, ← hW]
  have a0 := ExtW.cell (v := .slice p M.weeks.length c) (cell_of_heap m0 0)
  have a1 := ExtW.cell (v := .slice qq M.reads.length d) (cell_of_heap m0 1)
  have a2 := ExtW.cell (v := .int .i64 M.wrong) (cell_of_heap m0 2)
  have HM0 := Lib.hid m0
  have HE := Lib.hid hE
  have HS0 := Lib.hid hs0
  have HWK := Lib.hid (fun x : ExtW W => ExtW.callX (x := x) (works04 x.w (HT.out.ext (HE.out.trans x.h))))
  have HFA := Lib.hid (fun x : ExtW W => ExtW.callX (x := x) (Far04 M _ x.w (HV.out.ext (HE.out.trans x.h))))
  obtain ⟨y0, hy0⟩ := ExtW.of (Ext.refl W)
  clear hW m0 hE hs0
  conv => arg 5; rw [hy0]
  clear hy0
  obtain ⟨fb, hfb⟩ : ∃ b, farB M = b := ⟨_, rfl⟩
  rw [hfb] at HFA
  have HFB := Lib.hid hfb
  clear hfb
  cases fb
  case true =>
    go_wp2_with (first | (go_at_call 22; refine (HFA.out _).mono ?_; rintro e w2 ⟨rfl, xr, rfl, -⟩) | (go_at_call 16; refine (HWK.out _).mono ?_; rintro e w2 ⟨rfl, xw, rfl, -⟩))
    go_ret
    exact RetE.fin (HE.out.trans xw.h) rfl
  have hl := far_len HFB.out
  obtain ⟨hl1, hl2⟩ := hl
  go_wp2_with (go_at_call 22; refine (HFA.out _).mono ?_; rintro e w2 ⟨rfl, xr, rfl, -⟩)
  refine (Copy04 M _ xr.w (HV.out.ext (HE.out.trans xr.h)) (by omega) (by omega)).mono ?_
  rintro e w2 ⟨u, rfl, hE2, hMO⟩
  have hMV := hMO.mt
  obtain ⟨r1, c1, r2, c2, rfl, hw1, hw2⟩ := hMV
  clear hw1 hw2
  have hEw2 : Ext W w2 := xr.h.trans hE2
  go_upto_region 4 with (fail)
  obtain ⟨s7, hs7⟩ : ∃ s7, s7 = w2.heap.size := ⟨_, rfl⟩
  obtain ⟨W3, hW3⟩ : ∃ W3, W3 = w2.alloc (.cells #[.slice r1 M.weeks.length c1, .slice r2 M.reads.length c2, .int .i64 M.wrong] 25) := ⟨_, rfl⟩
  have hE3 : Ext W W3 := by rw [hW3]; exact hEw2.alloc _
  have m7 : W3.heap[s7]? = some (.cells #[.slice r1 M.weeks.length c1, .slice r2 M.reads.length c2, .int .i64 M.wrong] 25) := by rw [hW3, hs7]; exact heap_new _ _
  have hMV3 := (hMO.ext (show Ext w2 W3 by rw [hW3]; exact Ext.alloc (Ext.refl _) _)).mt
  rw [← hs7, ← hW3]
  have HE3 := Lib.hid (HE.out.trans hE3)
  have HVO := Lib.hid (fun y (h : Ext W3 y) => hMV3.ext h)
  have HVM3 := Lib.hid (fun y (h : Ext W3 y) => HV.out.ext (HE3.out.trans h))
  have HTY := Lib.hid (fun y (h : Ext W3 y) => HT.out.ext (HE3.out.trans h))
  have q0 := heap_ext3 HM0.out hE3
  have a0 := ExtW.cell (v := .slice p M.weeks.length c) (cell_of_heap q0 0)
  have a1 := ExtW.cell (v := .slice qq M.reads.length d) (cell_of_heap q0 1)
  have a2 := ExtW.cell (v := .int .i64 M.wrong) (cell_of_heap q0 2)
  have o0 := ExtW.cell (v := .slice r1 M.weeks.length c1) (cell_of_heap m7 0)
  have o1 := ExtW.cell (v := .slice r2 M.reads.length c2) (cell_of_heap m7 1)
  have o2 := ExtW.cell (v := .int .i64 M.wrong) (cell_of_heap m7 2)
  have HQ0 := Lib.hid q0
  have HM7 := Lib.hid m7
  have HWK := Lib.hid (fun x : ExtW W3 => ExtW.callX (x := x) (works04 x.w (HTY.out x.w x.h)))
  have HSA := Lib.hid (fun x : ExtW W3 => ExtW.callX (x := x) (same04 M (by omega) (by omega) _ _ x.w (HVO.out x.w x.h) (HVM3.out x.w x.h)))
  have HX1 := Lib.hid (fun x : ExtW W3 => ExtW.callX (x := x) (show Calls Tryd.prog 24 #[_] x.w (RetE (.tuple #[.int .i64 (nextA M), .int .i64 (askV M true)]) x.w) from Next04 totalsSay M _ x.w (HVO.out x.w x.h) (by omega) (by omega) (HTY.out x.w x.h)))
  have HX2 := Lib.hid (fun x : ExtW W3 => ExtW.callX (x := x) (rNext04 M HFB.out _ x.w (HVM3.out x.w x.h)))
  obtain ⟨nx, hnx⟩ : ∃ r, r = nextA M := ⟨_, rfl⟩
  obtain ⟨zx, hzx⟩ : ∃ r, r = askV M true := ⟨_, rfl⟩
  rw [← hnx, ← hzx] at HX1 HX2
  obtain ⟨z0, hz0⟩ := ExtW.of (Ext.refl W3)
  clear hW3 hs7 hE3 m7 hMV3 hMO hE2 hEw2 q0 hnx hzx
  conv => arg 5; rw [hz0]
  clear hz0
  go_wp2_with (first
    | (go_at_call 24; refine (HX1.out _).mono ?_; rintro e w2 ⟨rfl, z2, rfl, -⟩)
    | (go_at_call 25; refine (HX2.out _).mono ?_; rintro e w2 ⟨rfl, z3, rfl, -⟩)
    | (go_at_call 26; refine (HSA.out _).mono ?_; rintro e w2 ⟨rfl, xs, rfl, -⟩)
    | (go_at_call 16; refine (HWK.out _).mono ?_; rintro e w2 ⟨rfl, xw, rfl, -⟩))
  go_ret
  exact RetE.fin (HE3.out.trans xw.h) rfl
end Go.Proofs.YtimelbcfaniifaaDoor
