/- The walk of works. -/
import Derived.Test.YtpgjkmjejpfkmaaL07f
namespace Go.Proofs.Ytpgjkmjejpfkmaa
open Go.RowKit

set_option maxHeartbeats 1600000 in
theorem works07 (w : World) : Calls Try.prog 15 #[] w (RetE (.bool true) w) := by
  go_enter Try.func15, Try.ntmps15
  go_wp2_with fail
  refine (Example07 _).mono ?_
  rintro e W1 ⟨v, rfl, hE1, hv⟩
  have HV := Lib.hid hv
  obtain ⟨p0, c0, p1, c1, p2, c2, p3, c3, rfl, -⟩ := hv
  go_upto_region 2 with (fail)
  have hn := heap_new W1 (.cells #[.slice p0 exS.boxes.length c0, .slice p1 exS.stock.length c1, .slice p2 exS.earn.length c2, .slice p3 exS.keeps.length c3, .int .i64 exS.changes] 26)
  obtain ⟨W, hW⟩ : ∃ W, W = W1.alloc (.cells #[.slice p0 exS.boxes.length c0, .slice p1 exS.stock.length c1, .slice p2 exS.earn.length c2, .slice p3 exS.keeps.length c3, .int .i64 exS.changes] 26) := ⟨_, rfl⟩
  have hE : Ext W1 W := by rw [hW]; exact Ext.alloc (Ext.refl W1) _
  rw [← hW] at hn ⊢
  have q0 := ExtW.cell (v := .slice p0 exS.boxes.length c0) (cell_of_heap hn 0)
  have q1 := ExtW.cell (v := .slice p1 exS.stock.length c1) (cell_of_heap hn 1)
  have q2 := ExtW.cell (v := .slice p2 exS.earn.length c2) (cell_of_heap hn 2)
  have q3 := ExtW.cell (v := .slice p3 exS.keeps.length c3) (cell_of_heap hn 3)
  have q4 := ExtW.cell (v := .int .i64 exS.changes) (cell_of_heap hn 4)
  obtain ⟨x0, hx0⟩ := ExtW.of (Ext.refl W)
  clear hW hn
  conv => arg 5; rw [hx0]
  have HB := Lib.hid (fun x : ExtW W => ExtW.call (x := x) (ex_bestV ▸ Best07 _ exS x.w (SwapV.mono _ _ _ _ (hE.trans x.h) HV.out) (modest_of_valid ex_valid)))
  have HF := Lib.hid (fun x : ExtW W => ExtW.call (x := x) (ex_fairV ▸ Fair07 _ exS x.w (SwapV.mono _ _ _ _ (hE.trans x.h) HV.out) (modest_of_valid ex_valid)))
  have HG := Lib.hid (fun x : ExtW W => ExtW.call (x := x) (ex_fewV ▸ Fewest07 _ exS 28 x.w (SwapV.mono _ _ _ _ (hE.trans x.h) HV.out) (modest_of_valid ex_valid)))
  have HC := Lib.hid (fun x : ExtW W => ExtW.call (x := x) (ex_copyV ▸ Copy07 _ exS 3 x.w (SwapV.mono _ _ _ _ (hE.trans x.h) HV.out) (modest_of_valid ex_valid)))
  have HI := Lib.hid (fun (x : World) (h : Ext W x) (p : Option Addr) (hp : ListsAt x p exL) => (ex_fitsV ▸ Fits07 _ exS p 2 exL x (SwapV.mono _ _ _ _ (hE.trans h) HV.out) (modest_of_valid ex_valid) hp (by decide) (by decide)))
  go_wp2_with fail
  refine (HB.out _).mono ?_
  rintro e _ ⟨rfl, x1, rfl⟩
  go_wp2_with fail
  refine (HF.out _).mono ?_
  rintro e _ ⟨rfl, x2, rfl⟩
  go_wp2_with fail
  refine (HG.out _).mono ?_
  rintro e _ ⟨rfl, x3, rfl⟩
  go_wp2_with fail
  refine (HC.out _).mono ?_
  rintro e _ ⟨rfl, x4, rfl⟩
  go_wp2_with fail
  refine (HI.out _ (Ext.alloc (Ext.alloc (Ext.alloc x4.h _) _) _) (some ⟨x4.w.heap.size + 1 + 1, 0, none⟩) ?_).mono ?_
  · rintro (_ | _ | i) hi
    · refine ⟨_, _, .slice (some ⟨x4.w.heap.size, 0, none⟩) 2 2, rfl, by rw [cell_of_heap (heap_newN _ (by simp only [size_alloc]))]; rfl, IntsV.cells _ 2 rfl (heap_old _ (heap_old _ (heap_newN _ rfl)))⟩
    · refine ⟨_, _, .slice (some ⟨x4.w.heap.size + 1, 0, none⟩) 2 2, rfl, by rw [cell_of_heap (heap_newN _ (by simp only [size_alloc]))]; rfl, IntsV.cells _ 2 rfl (heap_old _ (heap_newN _ (by simp only [size_alloc])))⟩
    · exact absurd hi (by simp [exL])
  rintro e W5 ⟨rfl, hE5⟩
  have hE6 : Ext w W5 := hE1.trans (hE.trans ((Ext.alloc (Ext.alloc (Ext.alloc x4.h _) _) _).trans hE5))
  clear hE5
  go_wp2
  go_ret
  exact RetE.fin hE6 rfl
end Go.Proofs.Ytpgjkmjejpfkmaa
