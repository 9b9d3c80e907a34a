/- The walk of begin. -/
import Derived.Test.YtkcilgjkdiopnaaW3b
import Derived.Test.YtkcilgjkdiopnaaW3c
namespace Go.Proofs.Ytkcilgjkdiopnaa
open Go.RowKit

def zeroBx : Value := .agg #[.int .i64 0, .int .i64 0, .int .i64 0, .int .i64 0, .slice none 0 0, .slice none 0 0]
def PlanOK (X : Wr) (l : List Wk) : Prop := (l.length : Int) = X.weeks ∧ ∀ x ∈ l, WeekOK X.recs.length x
noncomputable def beginV (v : Value) (X : Wr) (l : List Wk) : Value :=
  if bP (ValidW X) = true then (if bP (PlanOK X l) = true then .tuple #[v, .int .i64 0] else .tuple #[zeroBx, .int .i64 1]) else .tuple #[zeroBx, .int .i64 30]
theorem beginV_ok {v : Value} {X : Wr} {l : List Wk} (h : ValidW X) (k : PlanOK X l) : beginV v X l = .tuple #[v, .int .i64 0] := by rw [beginV, if_pos (bP_t h), if_pos (bP_t k)]
theorem beginV_arg {v : Value} {X : Wr} {l : List Wk} (h : ValidW X) (k : ¬PlanOK X l) : beginV v X l = .tuple #[zeroBx, .int .i64 1] := by rw [beginV, if_pos (bP_t h), if_neg (by rw [bP_f k]; simp)]
theorem beginV_bad {v : Value} {X : Wr} {l : List Wk} (h : ¬ValidW X) : beginV v X l = .tuple #[zeroBx, .int .i64 30] := by rw [beginV, if_neg (by rw [bP_f h]; simp)]

set_option maxHeartbeats 1600000 in
theorem begin03 (v : Value) (X : Wr) (p : Option Addr) (l : List Wk) (c : Nat) (w : World) (hv : WrV w v X) (hM : ModestW X) (hl : l.length ≤ 100000) (hr : ∀ x ∈ l, x.recs.length ≤ 100000) (h : WksAt w p l) :
    Calls Try.prog 58 #[v, .slice p l.length c] w (RetE (beginV v X l) w) := by
  have hC := fun w' (h : Ext w w') => Check03 v X w' (WrV.mono _ _ _ _ h hv) hM
  have hEv := fun w' (hw : Ext w w') => everyWk03 p l c v X w' hl hr hM.recs (WrV.mono _ _ _ _ hw hv) (h.ext hw)
  have HM := Lib.hid hM
  obtain ⟨p1, c1, q1, d1, rfl, h1, h2⟩ := id hv
  have HC := Lib.hid hC
  have HEV := Lib.hid hEv
  have m2 := hM.recs
  clear hC hEv hv h1 h2 h hM hr
  go_enter Try.func58, Try.ntmps58
  go_upto_region 1 with (fail)
  have hn1 := heap_new1 w (.cells #[.int .i64 X.weeks, .int .i64 X.price, .int .i64 X.age, .int .i64 X.step, .slice p1 X.rough.length c1, .slice q1 X.recs.length d1] 25) (.cells #[.int .i64 0, .int .i64 0, .int .i64 0, .int .i64 0, .slice none 0 0, .slice none 0 0] 88)
  have hn2 := heap_new2 w (.cells #[.int .i64 X.weeks, .int .i64 X.price, .int .i64 X.age, .int .i64 X.step, .slice p1 X.rough.length c1, .slice q1 X.recs.length d1] 25) (.cells #[.int .i64 0, .int .i64 0, .int .i64 0, .int .i64 0, .slice none 0 0, .slice none 0 0] 88)
  obtain ⟨W, hW⟩ : ∃ W, W = (w.alloc (.cells #[.int .i64 X.weeks, .int .i64 X.price, .int .i64 X.age, .int .i64 X.step, .slice p1 X.rough.length c1, .slice q1 X.recs.length d1] 25)).alloc (.cells #[.int .i64 0, .int .i64 0, .int .i64 0, .int .i64 0, .slice none 0 0, .slice none 0 0] 88) := ⟨_, rfl⟩
  have hE : Ext w W := by rw [hW]; exact Ext.alloc (Ext.alloc (Ext.refl w) _) _
  have hs : W.heap.size = w.heap.size + 2 := by rw [hW]; simp
  rw [← hW] at hn1 hn2 ⊢
  have q0 := ExtW.cell (v := .int .i64 X.weeks) (cell_of_heap hn1 0)
  have q1' := ExtW.cell (v := .int .i64 X.price) (cell_of_heap hn1 1)
  have q2 := ExtW.cell (v := .int .i64 X.age) (cell_of_heap hn1 2)
  have q3 := ExtW.cell (v := .int .i64 X.step) (cell_of_heap hn1 3)
  have q4 := ExtW.cell (v := .slice p1 X.rough.length c1) (cell_of_heap hn1 4)
  have q5 := ExtW.cell (v := .slice q1 X.recs.length d1) (cell_of_heap hn1 5)
  have hf : ∀ (x : ExtW W) k, x.w.frozen? ⟨w.heap.size + 1, k, none⟩ = false := fun x k => cell_frozen ((Below.block x.h _ (by omega)).trans hn2) k
  have hz : ∀ (x : ExtW W) (k : Nat) (u : Value), (#[.int .i64 0, .int .i64 0, .int .i64 0, .int .i64 0, .slice none 0 0, .slice none 0 0] : Array Value)[k]? = some u → x.w.cell? ⟨w.heap.size + 1, k, none⟩ = some u := fun x k u hu => (cell_of_heap ((Below.block x.h _ (by omega)).trans hn2) k).trans hu
  have z0 := fun x => hz x 0 _ rfl
  have z1 := fun x => hz x 1 _ rfl
  have z2 := fun x => hz x 2 _ rfl
  have z3 := fun x => hz x 3 _ rfl
  have z4 := fun x => hz x 4 _ rfl
  have z5 := fun x => hz x 5 _ rfl
  have HF := Lib.hid hf
  have HZ := Lib.hid (fun x : ExtW W => (Below.block x.h _ (by omega)).trans hn2)
  have hws : w.heap.size ≤ w.heap.size + 1 := by omega
  obtain ⟨x0, hx0⟩ := ExtW.of (Ext.refl W)
  clear hW hn1 hn2 hz hf
  conv => arg 5; rw [hx0]
  clear hx0
  by_cases hV : ValidW X
  · have HV := Lib.hid hV
    have HCC := Lib.hid (fun x : ExtW W => ExtW.call ((HC.out x.w (hE.trans x.h)).mono (R' := RetE (.int .i64 0) x.w) (fun e w'' hh => by rw [← chkW_t hV]; exact hh)))
    clear hV HC
    go_upto_region 4 with (go_at_call 19; refine (HCC.out _).mono ?_; rintro e w' ⟨rfl, x1, rfl⟩)
    go_upto_region 5 with (fail)
    have hn1 := heap_new x1.w (.cells #[.int .i64 X.weeks, .int .i64 X.price, .int .i64 X.age, .int .i64 X.step, .slice p1 X.rough.length c1, .slice q1 X.recs.length d1] 88)
    obtain ⟨W2, hW2⟩ : ∃ W2, W2 = x1.w.alloc (.cells #[.int .i64 X.weeks, .int .i64 X.price, .int .i64 X.age, .int .i64 X.step, .slice p1 X.rough.length c1, .slice q1 X.recs.length d1] 88) := ⟨_, rfl⟩
    have hE2 : Ext W W2 := by rw [hW2]; exact Ext.alloc x1.h _
    rw [← hW2] at hn1 ⊢
    have r0 := fun x : ExtW W2 => q0 ⟨x.w, hE2.trans x.h⟩
    have b0 := ExtW.cell (v := .int .i64 X.weeks) (cell_of_heap hn1 0)
    have b1 := ExtW.cell (v := .int .i64 X.price) (cell_of_heap hn1 1)
    have b2 := ExtW.cell (v := .int .i64 X.age) (cell_of_heap hn1 2)
    have b3 := ExtW.cell (v := .int .i64 X.step) (cell_of_heap hn1 3)
    have b4 := ExtW.cell (v := .slice p1 X.rough.length c1) (cell_of_heap hn1 4)
    have b5 := ExtW.cell (v := .slice q1 X.recs.length d1) (cell_of_heap hn1 5)
    have hf := fun (x : ExtW W2) k => HF.out ⟨x.w, hE2.trans x.h⟩ k
    have f0 := fun x => hf x 0
    have f1 := fun x => hf x 1
    have f2 := fun x => hf x 2
    have f3 := fun x => hf x 3
    have f4 := fun x => hf x 4
    have f5 := fun x => hf x 5
    have g0 := fun x : ExtW W2 => z0 ⟨x.w, hE2.trans x.h⟩
    have g1 := fun x : ExtW W2 => z1 ⟨x.w, hE2.trans x.h⟩
    have g2 := fun x : ExtW W2 => z2 ⟨x.w, hE2.trans x.h⟩
    have g3 := fun x : ExtW W2 => z3 ⟨x.w, hE2.trans x.h⟩
    have g4 := fun x : ExtW W2 => z4 ⟨x.w, hE2.trans x.h⟩
    have g5 := fun x : ExtW W2 => z5 ⟨x.w, hE2.trans x.h⟩
    have hEW := hE.trans hE2
    have HCE := Lib.hid (fun y : ExtW W2 => ExtW.call (HEV.out y.w (hEW.trans y.h)))
    obtain ⟨y0, hy0⟩ := ExtW.of (Ext.refl W2)
    clear hW2 hn1 q0 q1' q2 q3 q4 q5 z0 z1 z2 z3 z4 z5 hf HF HEV
    conv => arg 5; rw [hy0]
    clear hy0
    by_cases hlen : (l.length : Int) = X.weeks
    · have hl' : ((l.length : Int) != X.weeks) = false := by simpa using hlen
      have HL := Lib.hid hlen
      clear hlen
      by_cases hall : ∀ x ∈ l, WeekOK X.recs.length x
      · have HP : Hid (PlanOK X l) := Lib.hid ⟨HL.out, hall⟩
        have HCE2 := Lib.hid (fun y => HCE.out y)
        rw [bP_t hall] at HCE2
        clear HCE hall
        go_wp2_with (go_at_call 86; refine (HCE2.out _).mono ?_; rintro e w' ⟨rfl, y1, rfl⟩)
        generalize hW6 : World.setCell _ _ _ = W6
        have z6 : W6.heap[w.heap.size + 1]? = some (.cells #[.int .i64 X.weeks, .int .i64 X.price, .int .i64 X.age, .int .i64 X.step, .slice p1 X.rough.length c1, .slice q1 X.recs.length d1] 88 (0, 0)) := by rw [← hW6]; exact heap_set6 (HZ.out ⟨y1.w, hE2.trans y1.h⟩)
        have hE6 : Ext w W6 := by rw [← hW6]; exact Ext.set (Ext.set (Ext.set (Ext.set (Ext.set (Ext.set (hEW.trans y1.h) hws) hws) hws) hws) hws) hws
        refine bodyPost_ret (v := .tuple #[.agg #[.int .i64 X.weeks, .int .i64 X.price, .int .i64 X.age, .int .i64 X.step, .slice p1 X.rough.length c1, .slice q1 X.recs.length d1], .int .i64 0]) ?_ rfl (RetE.fin hE6 (beginV_ok HV.out HP.out).symm)
        have a0 := cell_of_heap z6 0
        have a1 := cell_of_heap z6 1
        have a2 := cell_of_heap z6 2
        have a3 := cell_of_heap z6 3
        have a4 := cell_of_heap z6 4
        have a5 := cell_of_heap z6 5
        simp at a0 a1 a2 a3 a4 a5
        simp [results, Try.results58, go_sem, a0, a1, a2, a3, a4, a5]
      · have HP : Hid (¬PlanOK X l) := Lib.hid (fun h => hall h.2)
        have HCE2 := Lib.hid (fun y => HCE.out y)
        rw [bP_f hall] at HCE2
        clear HCE hall
        go_wp2_with (go_at_call 86; refine (HCE2.out _).mono ?_; rintro e w' ⟨rfl, y1, rfl⟩)
        generalize hW6 : World.setCell _ _ _ = W6
        have z6 : W6.heap[w.heap.size + 1]? = some (.cells #[.int .i64 0, .int .i64 0, .int .i64 0, .int .i64 0, .slice none 0 0, .slice none 0 0] 88 (0, 0)) := by rw [← hW6]; exact heap_set6 (HZ.out ⟨y1.w, hE2.trans y1.h⟩)
        have hE6 : Ext w W6 := by rw [← hW6]; exact Ext.set (Ext.set (Ext.set (Ext.set (Ext.set (Ext.set (hEW.trans y1.h) hws) hws) hws) hws) hws) hws
        refine bodyPost_ret (v := .tuple #[zeroBx, .int .i64 1]) ?_ rfl (RetE.fin hE6 (beginV_arg HV.out HP.out).symm)
        have a0 := cell_of_heap z6 0
        have a1 := cell_of_heap z6 1
        have a2 := cell_of_heap z6 2
        have a3 := cell_of_heap z6 3
        have a4 := cell_of_heap z6 4
        have a5 := cell_of_heap z6 5
        simp at a0 a1 a2 a3 a4 a5
        simp [results, Try.results58, go_sem, a0, a1, a2, a3, a4, a5, zeroBx]
    · have hl' : ((l.length : Int) != X.weeks) = true := by simpa using hlen
      have HP : Hid (¬PlanOK X l) := Lib.hid (fun h => hlen h.1)
      clear hlen
      go_wp2
      generalize hW6 : World.setCell _ _ _ = W6
      have z6 : W6.heap[w.heap.size + 1]? = some (.cells #[.int .i64 0, .int .i64 0, .int .i64 0, .int .i64 0, .slice none 0 0, .slice none 0 0] 88 (0, 0)) := by rw [← hW6]; exact heap_set6 (HZ.out ⟨y0.w, hE2.trans y0.h⟩)
      have hE6 : Ext w W6 := by rw [← hW6]; exact Ext.set (Ext.set (Ext.set (Ext.set (Ext.set (Ext.set (hEW.trans y0.h) hws) hws) hws) hws) hws) hws
      refine bodyPost_ret (v := .tuple #[zeroBx, .int .i64 1]) ?_ rfl (RetE.fin hE6 (beginV_arg HV.out HP.out).symm)
      have a0 := cell_of_heap z6 0
      have a1 := cell_of_heap z6 1
      have a2 := cell_of_heap z6 2
      have a3 := cell_of_heap z6 3
      have a4 := cell_of_heap z6 4
      have a5 := cell_of_heap z6 5
      simp at a0 a1 a2 a3 a4 a5
      simp [results, Try.results58, go_sem, a0, a1, a2, a3, a4, a5, zeroBx]
  · have HCC := Lib.hid (fun x : ExtW W => ExtW.call ((HC.out x.w (hE.trans x.h)).mono (R' := RetE (.int .i64 30) x.w) (fun e w'' hh => by rw [← chkW_f hV]; exact hh)))
    have HNV := Lib.hid hV
    have f0 := fun x => HF.out x 0
    have f1 := fun x => HF.out x 1
    have f2 := fun x => HF.out x 2
    have f3 := fun x => HF.out x 3
    have f4 := fun x => HF.out x 4
    have f5 := fun x => HF.out x 5
    clear hV HC
    go_wp2_with (go_at_call 19; refine (HCC.out _).mono ?_; rintro e w' ⟨rfl, x1, rfl⟩)
    generalize hW6 : World.setCell _ _ _ = W6
    have z6 : W6.heap[w.heap.size + 1]? = some (.cells #[.int .i64 0, .int .i64 0, .int .i64 0, .int .i64 0, .slice none 0 0, .slice none 0 0] 88 (0, 0)) := by rw [← hW6]; exact heap_set6 (HZ.out x1)
    have hE6 : Ext w W6 := by rw [← hW6]; exact Ext.set (Ext.set (Ext.set (Ext.set (Ext.set (Ext.set (hE.trans x1.h) hws) hws) hws) hws) hws) hws
    refine bodyPost_ret (v := .tuple #[zeroBx, .int .i64 30]) ?_ rfl (RetE.fin hE6 (beginV_bad HNV.out).symm)
    have a0 := cell_of_heap z6 0
    have a1 := cell_of_heap z6 1
    have a2 := cell_of_heap z6 2
    have a3 := cell_of_heap z6 3
    have a4 := cell_of_heap z6 4
    have a5 := cell_of_heap z6 5
    simp at a0 a1 a2 a3 a4 a5
    simp [results, Try.results58, go_sem, a0, a1, a2, a3, a4, a5, zeroBx]
end Go.Proofs.Ytkcilgjkdiopnaa
