/- The walk of alike, where the answers are the same. -/
import Derived.Test.YtimelbcfaniifaaDoorXI
namespace Go.Proofs.YtimelbcfaniifaaDoor
open Go.RowKit

set_option maxRecDepth 20000 in
set_option maxHeartbeats 8000000 in
theorem alike04 (M N : Mt) (u v : Value) (w : World) (hM : ValidM M) (hN : ValidM N) (hu : MtV w u M) (hv : MtV w v N)
    (e1 : leastTo M 100 = leastTo N 100) (e2 : askV M true = askV N true) (e3 : strangeA M = strangeA N) (e4 : sureA M = sureA N) :
    Calls Tryd.prog 34 #[u, v] w (RetE (.bool true) w) := by
  have HU := Lib.hid hu
  have HV := Lib.hid hv
  have HVM := Lib.hid hM
  have HVN := Lib.hid hN
  have l1 := strangeA_len M
  have l2 := sureA_len M
  have l3 := hM.nr
  obtain ⟨p, c, qq, d, rfl, hp, hq⟩ := hu
  obtain ⟨p', c', qq', d', rfl, hp', hq'⟩ := hv
  clear hp hq hp' hq' hM hN
  go_enter Tryd.func34, Tryd.ntmps34
  go_upto_region 1 with (fail)
  obtain ⟨s0, hs0⟩ : ∃ s0, s0 = w.heap.size := ⟨_, rfl⟩
  obtain ⟨W, hW⟩ : ∃ W, W = (w.alloc (.cells #[.slice p M.weeks.length c, .slice qq M.reads.length d, .int .i64 M.wrong] 25)).alloc (.cells #[.slice p' N.weeks.length c', .slice qq' N.reads.length d', .int .i64 N.wrong] 25) := ⟨_, rfl⟩
  have m0 : W.heap[s0]? = some (.cells #[.slice p M.weeks.length c, .slice qq M.reads.length d, .int .i64 M.wrong] 25) := by rw [hs0]; exact heap_at0 (by rw [hW]; exact (by repeat (first | exact Ext.refl _ | assumption | refine Ext.drewN ?_ _ | refine Ext.drew ?_ | refine Ext.alloc ?_ _)))
  have m1 : W.heap[s0 + 1]? = some (.cells #[.slice p' N.weeks.length c', .slice qq' N.reads.length d', .int .i64 N.wrong] 25) := by rw [hs0, hW]; exact heap_new2 _ _ _
  have hE : Ext w W := by rw [hW]; exact (by repeat (first | exact Ext.refl _ | assumption | refine Ext.drewN ?_ _ | refine Ext.drew ?_ | refine Ext.alloc ?_ _))
  rw [← hs0, ← hW]
  have a0 := ExtW.cell (v := .slice p M.weeks.length c) (cell_of_heap m0 0)
  have a1 := ExtW.cell (v := .slice qq M.reads.length d) (cell_of_heap m0 1)
  have a2 := ExtW.cell (v := .int .i64 M.wrong) (cell_of_heap m0 2)
  have b0 := ExtW.cell (v := .slice p' N.weeks.length c') (cell_of_heap m1 0)
  have b1 := ExtW.cell (v := .slice qq' N.reads.length d') (cell_of_heap m1 1)
  have b2 := ExtW.cell (v := .int .i64 N.wrong) (cell_of_heap m1 2)
  have HE := Lib.hid hE
  have HF1 := Lib.hid (fun x : ExtW W => ExtW.callX (x := x) (few_valid HVM.out (HU.out.ext (HE.out.trans x.h))))
  have HF2 := Lib.hid (fun x : ExtW W => ExtW.callX (x := x) (few_valid HVN.out (HV.out.ext (HE.out.trans x.h))))
  rw [← e1] at HF2
  have HS1 := Lib.hid (fun x : ExtW W => ExtW.callL (l := strangeA M) (n := askV M true) (x := x) (Strange04 M _ x.w (HU.out.ext (HE.out.trans x.h)) (by have := HVM.out.nw; omega) (by have := HVM.out.nr; omega)))
  have HS2 := Lib.hid (fun x : ExtW W => ExtW.callL (l := strangeA N) (n := askV N true) (x := x) (Strange04 N _ x.w (HV.out.ext (HE.out.trans x.h)) (by have := HVN.out.nw; omega) (by have := HVN.out.nr; omega)))
  rw [← e3, ← e2] at HS2
  have HR1 := Lib.hid (fun x : ExtW W => ExtW.callL (l := sureA M) (n := askV M true) (x := x) (Sure04 M _ x.w (HU.out.ext (HE.out.trans x.h)) (by have := HVM.out.nw; omega) (by have := HVM.out.nr; omega)))
  have HR2 := Lib.hid (fun x : ExtW W => ExtW.callL (l := sureA N) (n := askV N true) (x := x) (Sure04 N _ x.w (HV.out.ext (HE.out.trans x.h)) (by have := HVN.out.nw; omega) (by have := HVN.out.nr; omega)))
  rw [← e4, ← e2] at HR2
  obtain ⟨lw, hlw⟩ : ∃ lw, lw = leastTo M 100 := ⟨_, rfl⟩
  rw [← hlw] at HF1 HF2
  obtain ⟨n, hn⟩ : ∃ n, n = askV M true := ⟨_, rfl⟩
  obtain ⟨ls, hls⟩ : ∃ l, l = strangeA M := ⟨_, rfl⟩
  obtain ⟨lr, hlr⟩ : ∃ l, l = sureA M := ⟨_, rfl⟩
  rw [← hls, ← hn] at HS1 HS2
  rw [← hlr, ← hn] at HR1 HR2
  rw [← hls] at l1
  rw [← hlr] at l2
  obtain ⟨y0, hy0⟩ := ExtW.of (Ext.refl W)
  clear hW m0 m1 hE hs0 hlw hn hls hlr e1 e2 e3 e4
  conv => arg 5; rw [hy0]
  clear hy0
  go_upto_region 2 with (go_at_call 28; refine (HF1.out _).mono ?_; rintro e w2 ⟨rfl, y1, rfl, -⟩)
  go_upto_region 3 with (go_at_call 28; refine (HF2.out _).mono ?_; rintro e w2 ⟨rfl, y2, rfl, -⟩)
  go_upto_region 4 with (go_at_call 38; refine (HS1.out _).mono ?_; rintro e w2 ⟨pl, cl, rfl, y3, rfl, -, hI3, -⟩)
  have HI3 := Lib.hid hI3
  clear hI3
  go_upto_region 5 with (go_at_call 38; refine (HS2.out _).mono ?_; rintro e w2 ⟨ql, dl, rfl, y4, rfl, hA4, hI4, -⟩)
  have HI3 := Lib.hid (HI3.out.ext hA4)
  have HI4 := Lib.hid hI4
  clear hA4 hI4
  go_upto_region 6 with (go_at_call 40; refine (HR1.out _).mono ?_; rintro e w2 ⟨pr, cr, rfl, y5, rfl, hA5, hI5, -⟩)
  have HI3 := Lib.hid (HI3.out.ext hA5)
  have HI4 := Lib.hid (HI4.out.ext hA5)
  have HI5 := Lib.hid hI5
  clear hA5 hI5
  go_upto_region 7 with (go_at_call 40; refine (HR2.out _).mono ?_; rintro e w2 ⟨qr, dr, rfl, y6, rfl, hA6, hI6, -⟩)
  have HI3 := Lib.hid (HI3.out.ext hA6)
  have HI4 := Lib.hid (HI4.out.ext hA6)
  have HI5 := Lib.hid (HI5.out.ext hA6)
  have HSI := Lib.hid (sameX (x := y6) (c := cl) (d := dl) (by omega) HI3.out HI4.out)
  have HI6 := Lib.hid hI6
  clear hA6 hI6
  go_wp2_with (go_at_call 19; first
    | (with_reducible refine HSI.out.mono ?_; rintro e w2 ⟨rfl, y7, rfl, hA7⟩)
    | (refine (sameX (x := y7) (c := cr) (d := dr) (by omega) (HI5.out.ext hA7) (HI6.out.ext hA7)).mono ?_; rintro e w2 ⟨rfl, y8, rfl, -⟩))
  go_ret
  exact RetE.fin (HE.out.trans y8.h) rfl
end Go.Proofs.YtimelbcfaniifaaDoor
