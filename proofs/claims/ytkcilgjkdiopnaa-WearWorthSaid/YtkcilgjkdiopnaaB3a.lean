/- The walks of seek, Cheapest, Needles, Records, Plan, Worth and Last, of a box that is not valid. -/
import Derived.Test.YtkcilgjkdiopnaaPl3
namespace Go.Proofs.Ytkcilgjkdiopnaa
open Go.RowKit

theorem heap_ext' {x y : World} {b : Nat} {o : Obj} (h : x.heap[b]? = some o) (hE : Ext x y) : y.heap[b]? = some o := (Below.block hE b (Array.getElem?_eq_some_iff.1 h).1).trans h
set_option maxRecDepth 20000 in
set_option maxHeartbeats 3200000 in
theorem seekBad03 (X : Wr) (hX : ¬ValidW X) (p q : Option Addr) (cp d h : Nat) (w : World) (hM : ModestW X) (hR : RecsAt w q X.recs) (hG : IntsAt w p X.rough) :
    Calls Try.prog 61 #[.agg #[.int .i64 X.weeks, .int .i64 X.price, .int .i64 X.age, .int .i64 X.step, .slice p X.rough.length cp, .slice q X.recs.length d], .func (.func h) #[] #[]] w
      (RetE (.tuple #[zeroBx, zeroCh, .int .i64 30]) w) := by
  have hC := fun w' (h : Ext w w') => Check03 (.agg #[.int .i64 X.weeks, .int .i64 X.price, .int .i64 X.age, .int .i64 X.step, .slice p X.rough.length cp, .slice q X.recs.length d]) X w' ⟨_, _, _, _, rfl, hG.ext h, hR.ext h⟩ hM
  rw [chkW_f hX] at hC
  have HC := Lib.hid hC
  clear hC hX hR hG hM
  go_enter Try.func61, Try.ntmps61
  go_upto_region 1 with (fail)
  generalize hW : World.alloc _ _ = W
  have g0 : W.heap[w.heap.size]? = some (.cells #[.int .i64 X.weeks, .int .i64 X.price, .int .i64 X.age, .int .i64 X.step, .slice p X.rough.length cp, .slice q X.recs.length d] 25) := by rw [← hW]; exact heap_old _ (heap3_0 _ _ _ _)
  have g2 : W.heap[w.heap.size + 2]? = some (.cells #[.int .i64 0, .int .i64 0, .int .i64 0, .int .i64 0, .slice none 0 0, .slice none 0 0] 88 (0, 0)) := by rw [← hW]; exact heap_old _ (heap3_2 _ _ _ _)
  have g3 : W.heap[w.heap.size + 3]? = some (.cells #[.int .u64 0, .slice none 0 0] 105 (0, 0)) := by rw [← hW]; exact heap4_3 _ _ _ _ _
  have hE : Ext w W := by rw [← hW]; exact Ext.alloc (Ext.alloc (Ext.alloc (Ext.alloc (Ext.refl w) _) _) _) _
  have q0 := ExtW.cell (v := .int .i64 X.weeks) (cell_of_heap g0 0)
  have q1 := ExtW.cell (v := .int .i64 X.price) (cell_of_heap g0 1)
  have q2 := ExtW.cell (v := .int .i64 X.age) (cell_of_heap g0 2)
  have q3 := ExtW.cell (v := .int .i64 X.step) (cell_of_heap g0 3)
  have q4 := ExtW.cell (v := .slice p X.rough.length cp) (cell_of_heap g0 4)
  have q5 := ExtW.cell (v := .slice q X.recs.length d) (cell_of_heap g0 5)
  have HC2 := Lib.hid (fun x : ExtW W => ExtW.call (HC.out x.w (hE.trans x.h)))
  have hs4 : W.heap.size = w.heap.size + 4 := by rw [← hW]; simp only [size_alloc]
  have HG2 := Lib.hid (fun x : ExtW W => heap_ext' g2 x.h)
  have HG3 := Lib.hid (fun x : ExtW W => heap_ext' g3 x.h)
  have HE := Lib.hid hE
  have HS4 := Lib.hid hs4
  obtain ⟨B, hB⟩ : ∃ B, B = w.heap.size + 2 := ⟨_, rfl⟩
  rw [show w.heap.size + 1 + 1 + 1 = B + 1 by omega, show w.heap.size + 1 + 1 = B by omega]
  have hBw : w.heap.size ≤ B := by omega
  rw [← hB] at HG2
  rw [show w.heap.size + 3 = B + 1 by omega] at HG3
  obtain ⟨x0, hx0⟩ := ExtW.of (Ext.refl W)
  clear hW g0 g2 g3 hE hs4 HC hB
  conv => arg 5; rw [hx0]
  clear hx0
  go_upto_region 3 with (go_at_call 19; refine (HC2.out _).mono ?_; rintro e w' ⟨rfl, x1, rfl⟩)
  have k2 := HG2.out x1
  have k3 := HG3.out x1
  have f0 := fun k => cell_frozen k2 k
  have f1 := fun k => cell_frozen k3 k
  have c20 : x1.w.cell? ⟨B, 0, none⟩ = some (.int .i64 0) := (cell_of_heap k2 0).trans rfl
  have c21 : x1.w.cell? ⟨B, 1, none⟩ = some (.int .i64 0) := (cell_of_heap k2 1).trans rfl
  have c22 : x1.w.cell? ⟨B, 2, none⟩ = some (.int .i64 0) := (cell_of_heap k2 2).trans rfl
  have c23 : x1.w.cell? ⟨B, 3, none⟩ = some (.int .i64 0) := (cell_of_heap k2 3).trans rfl
  have c24 : x1.w.cell? ⟨B, 4, none⟩ = some (.slice none 0 0) := (cell_of_heap k2 4).trans rfl
  have c25 : x1.w.cell? ⟨B, 5, none⟩ = some (.slice none 0 0) := (cell_of_heap k2 5).trans rfl
  have c30 : x1.w.cell? ⟨B + 1, 0, none⟩ = some (.int .u64 0) := (cell_of_heap k3 0).trans rfl
  have c31 : x1.w.cell? ⟨B + 1, 1, none⟩ = some (.slice none 0 0) := (cell_of_heap k3 1).trans rfl
  have K2 := Lib.hid k2
  have K3 := Lib.hid k3
  have HE7 := Lib.hid (HE.out.trans x1.h)
  clear k2 k3
  go_wp2
  generalize hWz : World.setCell _ _ _ = Wz
  have hz2 : Wz.heap[B]? = some (.cells #[.int .i64 0, .int .i64 0, .int .i64 0, .int .i64 0, .slice none 0 0, .slice none 0 0] 88 (0, 0)) := by
    rw [← hWz]; exact heap_set_ne (by omega) (heap_set_ne (by omega) (heap_set6 K2.out))
  have hz3 : Wz.heap[B + 1]? = some (.cells #[.int .u64 0, .slice none 0 0] 105 (0, 0)) := by
    rw [← hWz]
    refine heap_set2 (a0 := .int .u64 0) (a1 := .slice none 0 0) ?_
    repeat (with_reducible (first | refine heap_set_ne (by omega) ?_ | exact K3.out))
  have hEz : Ext w Wz := by
    rw [← hWz]
    repeat (with_reducible (first | refine Ext.set ?_ (by omega) | exact HE7.out))
  refine bodyPost_ret (v := .tuple #[zeroBx, zeroCh, .int .i64 30]) ?_ rfl ⟨rfl, hEz⟩
  have a0 := cell_of_heap hz2 0
  have a1 := cell_of_heap hz2 1
  have a2 := cell_of_heap hz2 2
  have a3 := cell_of_heap hz2 3
  have a4 := cell_of_heap hz2 4
  have a5 := cell_of_heap hz2 5
  have a6 := cell_of_heap hz3 0
  have a7 := cell_of_heap hz3 1
  simp at a0 a1 a2 a3 a4 a5 a6 a7
  simp [results, Try.results61, go_sem, a0, a1, a2, a3, a4, a5, a6, a7, zeroCh, zeroBx]

set_option maxRecDepth 20000 in
set_option maxHeartbeats 3200000 in
theorem CheapestBad03 (v : Value) (X : Wr) (w : World) (hv : WrV w v X) (hX : ¬ValidW X) (hM : ModestW X) : Calls Try.prog 36 #[v] w (RetE (.tuple #[.int .i64 0, .int .i64 30]) w) := by
  obtain ⟨p, cp, q, d, rfl, hG, hR⟩ := hv
  have HSE := Lib.hid (fun w' (h : Ext w w') => seekBad03 X hX p q cp d 62 w' hM (hR.ext h) (hG.ext h))
  clear hX hR hG hM
  go_enter Try.func36, Try.ntmps36
  go_upto_region 1 with (fail)
  generalize hW : World.alloc _ _ = W
  have hn : W.heap[w.heap.size]? = some (.cells #[.int .i64 X.weeks, .int .i64 X.price, .int .i64 X.age, .int .i64 X.step, .slice p X.rough.length cp, .slice q X.recs.length d] 25) := by rw [← hW]; exact heap_new _ _
  have hE : Ext w W := by rw [← hW]; exact Ext.alloc (Ext.refl w) _
  have q0 : W.cell? ⟨w.heap.size, 0, none⟩ = some (.int .i64 X.weeks) := (cell_of_heap hn 0).trans rfl
  have q1 : W.cell? ⟨w.heap.size, 1, none⟩ = some (.int .i64 X.price) := (cell_of_heap hn 1).trans rfl
  have q2 : W.cell? ⟨w.heap.size, 2, none⟩ = some (.int .i64 X.age) := (cell_of_heap hn 2).trans rfl
  have q3 : W.cell? ⟨w.heap.size, 3, none⟩ = some (.int .i64 X.step) := (cell_of_heap hn 3).trans rfl
  have q4 : W.cell? ⟨w.heap.size, 4, none⟩ = some (.slice p X.rough.length cp) := (cell_of_heap hn 4).trans rfl
  have q5 : W.cell? ⟨w.heap.size, 5, none⟩ = some (.slice q X.recs.length d) := (cell_of_heap hn 5).trans rfl
  have HS := Lib.hid (HSE.out W hE)
  have HE := Lib.hid hE
  clear hW hn hE HSE
  go_wp2_with (go_at_call 61; refine HS.out.mono ?_; rintro e W2 ⟨rfl, hE2⟩; unfold zeroCh zeroBx)
  go_ret2
  refine RetE.fin ?_ rfl
  refine (HE.out.trans hE2).trans ?_
  repeat (with_reducible (first | exact Ext.refl _ | refine Ext.drew ?_ | refine Ext.alloc ?_ _))
set_option maxRecDepth 20000 in
set_option maxHeartbeats 3200000 in
theorem NeedlesBad03 (v : Value) (X : Wr) (w : World) (hv : WrV w v X) (hX : ¬ValidW X) (hM : ModestW X) : Calls Try.prog 40 #[v] w (RetE (.tuple #[.int .i64 0, .int .i64 30]) w) := by
  obtain ⟨p, cp, q, d, rfl, hG, hR⟩ := hv
  have HSE := Lib.hid (fun w' (h : Ext w w') => seekBad03 X hX p q cp d 73 w' hM (hR.ext h) (hG.ext h))
  have HM := Lib.hid (fun y => RetQ.e (many03 0 y (by decide)))
  clear hX hR hG hM
  go_enter Try.func40, Try.ntmps40
  go_upto_region 1 with (fail)
  generalize hW : World.alloc _ _ = W
  have hn : W.heap[w.heap.size]? = some (.cells #[.int .i64 X.weeks, .int .i64 X.price, .int .i64 X.age, .int .i64 X.step, .slice p X.rough.length cp, .slice q X.recs.length d] 25) := by rw [← hW]; exact heap_new _ _
  have hE : Ext w W := by rw [← hW]; exact Ext.alloc (Ext.refl w) _
  have q0 : W.cell? ⟨w.heap.size, 0, none⟩ = some (.int .i64 X.weeks) := (cell_of_heap hn 0).trans rfl
  have q1 : W.cell? ⟨w.heap.size, 1, none⟩ = some (.int .i64 X.price) := (cell_of_heap hn 1).trans rfl
  have q2 : W.cell? ⟨w.heap.size, 2, none⟩ = some (.int .i64 X.age) := (cell_of_heap hn 2).trans rfl
  have q3 : W.cell? ⟨w.heap.size, 3, none⟩ = some (.int .i64 X.step) := (cell_of_heap hn 3).trans rfl
  have q4 : W.cell? ⟨w.heap.size, 4, none⟩ = some (.slice p X.rough.length cp) := (cell_of_heap hn 4).trans rfl
  have q5 : W.cell? ⟨w.heap.size, 5, none⟩ = some (.slice q X.recs.length d) := (cell_of_heap hn 5).trans rfl
  have HS := Lib.hid (HSE.out W hE)
  have HE := Lib.hid hE
  clear hW hn hE HSE
  go_wp2_with (first | (go_at_call 61; refine HS.out.mono ?_; rintro e W2 ⟨rfl, hE2⟩; unfold zeroCh zeroBx) | (go_at_call 74; refine (HM.out _).mono ?_; rintro e w' ⟨rfl, hE3⟩))
  go_ret2
  refine RetE.fin ?_ rfl
  refine (HE.out.trans hE2).trans (Ext.trans ?_ hE3)
  repeat (with_reducible (first | exact Ext.refl _ | refine Ext.drew ?_ | refine Ext.alloc ?_ _))
set_option maxRecDepth 20000 in
set_option maxHeartbeats 3200000 in
theorem RecordsBad03 (v : Value) (X : Wr) (w : World) (hv : WrV w v X) (hX : ¬ValidW X) (hM : ModestW X) : Calls Try.prog 41 #[v] w (RetE (.tuple #[.int .i64 0, .int .i64 30]) w) := by
  obtain ⟨p, cp, q, d, rfl, hG, hR⟩ := hv
  have HSE := Lib.hid (fun w' (h : Ext w w') => seekBad03 X hX p q cp d 75 w' hM (hR.ext h) (hG.ext h))
  have HM := Lib.hid (fun y => replaced03 (.agg #[.int .u64 0, .slice none 0 0]) ⟨0, []⟩ y ⟨none, 0, rfl, fun i hi => absurd hi (by simp)⟩ (by simp) (fun i hi => absurd hi (by simp)))
  clear hX hR hG hM
  go_enter Try.func41, Try.ntmps41
  go_upto_region 1 with (fail)
  generalize hW : World.alloc _ _ = W
  have hn : W.heap[w.heap.size]? = some (.cells #[.int .i64 X.weeks, .int .i64 X.price, .int .i64 X.age, .int .i64 X.step, .slice p X.rough.length cp, .slice q X.recs.length d] 25) := by rw [← hW]; exact heap_new _ _
  have hE : Ext w W := by rw [← hW]; exact Ext.alloc (Ext.refl w) _
  have q0 : W.cell? ⟨w.heap.size, 0, none⟩ = some (.int .i64 X.weeks) := (cell_of_heap hn 0).trans rfl
  have q1 : W.cell? ⟨w.heap.size, 1, none⟩ = some (.int .i64 X.price) := (cell_of_heap hn 1).trans rfl
  have q2 : W.cell? ⟨w.heap.size, 2, none⟩ = some (.int .i64 X.age) := (cell_of_heap hn 2).trans rfl
  have q3 : W.cell? ⟨w.heap.size, 3, none⟩ = some (.int .i64 X.step) := (cell_of_heap hn 3).trans rfl
  have q4 : W.cell? ⟨w.heap.size, 4, none⟩ = some (.slice p X.rough.length cp) := (cell_of_heap hn 4).trans rfl
  have q5 : W.cell? ⟨w.heap.size, 5, none⟩ = some (.slice q X.recs.length d) := (cell_of_heap hn 5).trans rfl
  have HS := Lib.hid (HSE.out W hE)
  have HE := Lib.hid hE
  clear hW hn hE HSE
  go_wp2_with (first | (go_at_call 61; refine HS.out.mono ?_; rintro e W2 ⟨rfl, hE2⟩; unfold zeroCh zeroBx) | (go_at_call 76; refine (HM.out _).mono ?_; rintro e w' ⟨rfl, hE3⟩))
  go_ret2
  refine RetE.fin ?_ rfl
  refine (HE.out.trans hE2).trans (Ext.trans ?_ hE3)
  repeat (with_reducible (first | exact Ext.refl _ | refine Ext.drew ?_ | refine Ext.alloc ?_ _))
set_option maxRecDepth 20000 in
set_option maxHeartbeats 3200000 in
theorem PlanBad03 (v : Value) (X : Wr) (w : World) (hv : WrV w v X) (hX : ¬ValidW X) (hM : ModestW X) : Calls Try.prog 42 #[v] w (RetE (.tuple #[.slice none 0 0, .int .i64 30]) w) := by
  obtain ⟨p, cp, q, d, rfl, hG, hR⟩ := hv
  have HSE := Lib.hid (fun w' (h : Ext w w') => seekBad03 X hX p q cp d 62 w' hM (hR.ext h) (hG.ext h))
  clear hX hR hG hM
  go_enter Try.func42, Try.ntmps42
  go_upto_region 1 with (fail)
  generalize hW : World.alloc _ _ = W
  have hn : W.heap[w.heap.size]? = some (.cells #[.int .i64 X.weeks, .int .i64 X.price, .int .i64 X.age, .int .i64 X.step, .slice p X.rough.length cp, .slice q X.recs.length d] 25) := by rw [← hW]; exact heap_new _ _
  have hE : Ext w W := by rw [← hW]; exact Ext.alloc (Ext.refl w) _
  have q0 : W.cell? ⟨w.heap.size, 0, none⟩ = some (.int .i64 X.weeks) := (cell_of_heap hn 0).trans rfl
  have q1 : W.cell? ⟨w.heap.size, 1, none⟩ = some (.int .i64 X.price) := (cell_of_heap hn 1).trans rfl
  have q2 : W.cell? ⟨w.heap.size, 2, none⟩ = some (.int .i64 X.age) := (cell_of_heap hn 2).trans rfl
  have q3 : W.cell? ⟨w.heap.size, 3, none⟩ = some (.int .i64 X.step) := (cell_of_heap hn 3).trans rfl
  have q4 : W.cell? ⟨w.heap.size, 4, none⟩ = some (.slice p X.rough.length cp) := (cell_of_heap hn 4).trans rfl
  have q5 : W.cell? ⟨w.heap.size, 5, none⟩ = some (.slice q X.recs.length d) := (cell_of_heap hn 5).trans rfl
  have HS := Lib.hid (HSE.out W hE)
  have HE := Lib.hid hE
  clear hW hn hE HSE
  go_wp2_with (go_at_call 61; refine HS.out.mono ?_; rintro e W2 ⟨rfl, hE2⟩; unfold zeroCh zeroBx)
  go_ret2
  refine RetE.fin ?_ rfl
  refine (HE.out.trans hE2).trans ?_
  repeat (with_reducible (first | exact Ext.refl _ | refine Ext.drew ?_ | refine Ext.alloc ?_ _))
set_option maxRecDepth 20000 in
set_option maxHeartbeats 3200000 in
theorem WorthBad03 (v : Value) (X : Wr) (w : World) (hv : WrV w v X) (hX : ¬ValidW X) (hM : ModestW X) : Calls Try.prog 28 #[v] w (RetE (.tuple #[.int .i64 0, .int .i64 30]) w) := by
  obtain ⟨p, cp, q, d, rfl, hG, hR⟩ := hv
  have HSE := Lib.hid (fun w' (h : Ext w w') => seekBad03 X hX p q cp d 62 w' hM (hR.ext h) (hG.ext h))
  clear hX hR hG hM
  go_enter Try.func28, Try.ntmps28
  go_upto_region 1 with (fail)
  generalize hW : World.alloc _ _ = W
  have hn : W.heap[w.heap.size]? = some (.cells #[.int .i64 X.weeks, .int .i64 X.price, .int .i64 X.age, .int .i64 X.step, .slice p X.rough.length cp, .slice q X.recs.length d] 25) := by rw [← hW]; exact heap_new _ _
  have hE : Ext w W := by rw [← hW]; exact Ext.alloc (Ext.refl w) _
  have q0 : W.cell? ⟨w.heap.size, 0, none⟩ = some (.int .i64 X.weeks) := (cell_of_heap hn 0).trans rfl
  have q1 : W.cell? ⟨w.heap.size, 1, none⟩ = some (.int .i64 X.price) := (cell_of_heap hn 1).trans rfl
  have q2 : W.cell? ⟨w.heap.size, 2, none⟩ = some (.int .i64 X.age) := (cell_of_heap hn 2).trans rfl
  have q3 : W.cell? ⟨w.heap.size, 3, none⟩ = some (.int .i64 X.step) := (cell_of_heap hn 3).trans rfl
  have q4 : W.cell? ⟨w.heap.size, 4, none⟩ = some (.slice p X.rough.length cp) := (cell_of_heap hn 4).trans rfl
  have q5 : W.cell? ⟨w.heap.size, 5, none⟩ = some (.slice q X.recs.length d) := (cell_of_heap hn 5).trans rfl
  have HS := Lib.hid (HSE.out W hE)
  have HE := Lib.hid hE
  clear hW hn hE HSE
  go_wp2_with (go_at_call 61; refine HS.out.mono ?_; rintro e W2 ⟨rfl, hE2⟩; unfold zeroCh zeroBx)
  go_ret2
  refine RetE.fin ?_ rfl
  refine (HE.out.trans hE2).trans ?_
  repeat (with_reducible (first | exact Ext.refl _ | refine Ext.drew ?_ | refine Ext.alloc ?_ _))
end Go.Proofs.Ytkcilgjkdiopnaa
