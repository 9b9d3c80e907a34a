/- The walks of Cheapest and Last, of a valid box. -/
import Derived.Test.YtkcilgjkdiopnaaW3o
namespace Go.Proofs.Ytkcilgjkdiopnaa
open Go.RowKit

/-- the least cost, as a choice -/
def bestW (X : Wr) : Option Ch := leastL (fun c => allW X c X.price) (choicesW X X.weeks.toNat)
def cheapV (X : Wr) : Value := match bestW X with
  | some c => .tuple #[.int .i64 (allW X c X.price), .int .i64 0]
  | none => .tuple #[.int .i64 0, .int .i64 3]

theorem says_whole (X : Wr) (hX : ValidW X) : Says2 62 X (fun c => allW X c X.price) :=
  ⟨Try.call62, fun w v u c hv hu hc => whole03 v u X c w hv hX hu hc⟩
theorem bestW_ok {X : Wr} (hX : ValidW X) {c : Ch} (h : bestW X = some c) : ChOK X c :=
  leastL_ok _ (fun c hc => choices_ok hX (by have := hX.weeks; omega) hc) c h

set_option maxRecDepth 20000 in
set_option maxHeartbeats 3200000 in
theorem Cheapest03 (v : Value) (X : Wr) (w : World) (hv : WrV w v X) (hX : ValidW X) (hM : ModestW X) : Calls Try.prog 36 #[v] w (RetE (cheapV X) w) := by
  obtain ⟨p, cp, q, d, rfl, hG, hR⟩ := hv
  have hse := fun w' (h : Ext w w') => seek03 X hX p q cp d 62 _ (says_whole X hX) w' hM (hR.ext h) (hG.ext h)
  have HSE := Lib.hid hse
  have HX := Lib.hid hX
  have HR := Lib.hid hR
  have HG := Lib.hid hG
  clear hse hX hR hG hM
  go_enter Try.func36, Try.ntmps36
  go_upto_region 1 with (fail)
  obtain ⟨W, hW⟩ : ∃ W, W = w.alloc (.cells #[.int .i64 X.weeks, .int .i64 X.price, .int .i64 X.age, .int .i64 X.step, .slice p X.rough.length cp, .slice q X.recs.length d] 25) := ⟨_, rfl⟩
  have hn := heap_new w (.cells #[.int .i64 X.weeks, .int .i64 X.price, .int .i64 X.age, .int .i64 X.step, .slice p X.rough.length cp, .slice q X.recs.length d] 25)
  have hE : Ext w W := by rw [hW]; exact Ext.alloc (Ext.refl w) _
  rw [← hW] at hn ⊢
  have q0 := cell_of_heap hn 0
  have q1 := cell_of_heap hn 1
  have q2 := cell_of_heap hn 2
  have q3 := cell_of_heap hn 3
  have q4 := cell_of_heap hn 4
  have q5 := cell_of_heap hn 5
  simp at q0 q1 q2 q3 q4 q5
  have HS := Lib.hid (HSE.out W hE)
  have HE := Lib.hid hE
  clear hW hn hE HSE
  cases hb : bestW X with
  | none =>
    have hb' := hb
    unfold bestW at hb'
    rw [hb'] at HS
    have HB := Lib.hid hb
    clear hb hb'
    go_wp2_with (go_at_call 61; refine HS.out.mono ?_; rintro e W2 ⟨hE2, rfl⟩; unfold zeroCh)
    go_ret2
    refine RetE.fin ?_ (by unfold cheapV; rw [HB.out]; rfl)
    have := HE.out.trans hE2
    repeat (with_reducible (first | refine Ext.drew ?_ | refine Ext.alloc ?_ _ | exact this))
  | some c =>
    have hok := bestW_ok HX.out hb
    have hb' := hb
    unfold bestW at hb'
    rw [hb'] at HS
    have HB := Lib.hid hb
    clear hb hb'
    go_upto_region 2 with (go_at_call 61; refine HS.out.mono ?_; rintro e W2 ⟨hE2, u, rfl, ⟨mp, mc, rfl, hma, -⟩⟩)
    obtain ⟨W3, hW3⟩ : ∃ W3, W3 = (W2.alloc (bxO X p cp q d)).alloc (.cells #[.int .u64 c.needles, .slice mp c.records.length mc] 105) := ⟨_, rfl⟩
    have g0 := heap_new1 W2 (bxO X p cp q d) (.cells #[.int .u64 c.needles, .slice mp c.records.length mc] 105)
    have g1 := heap_new2 W2 (bxO X p cp q d) (.cells #[.int .u64 c.needles, .slice mp c.records.length mc] 105)
    rw [← hW3] at g0 g1
    have hE3 : Ext W2 W3 := by rw [hW3]; exact Ext.alloc (Ext.alloc (Ext.refl _) _) _
    unfold bxO at hW3
    rw [← hW3]
    have b0 : W3.cell? ⟨W2.heap.size, 0, none⟩ = some (.int .i64 X.weeks) := (cell_of_heap g0 0).trans rfl
    have b1 : W3.cell? ⟨W2.heap.size, 1, none⟩ = some (.int .i64 X.price) := (cell_of_heap g0 1).trans rfl
    have b2 : W3.cell? ⟨W2.heap.size, 2, none⟩ = some (.int .i64 X.age) := (cell_of_heap g0 2).trans rfl
    have b3 : W3.cell? ⟨W2.heap.size, 3, none⟩ = some (.int .i64 X.step) := (cell_of_heap g0 3).trans rfl
    have b4 : W3.cell? ⟨W2.heap.size, 4, none⟩ = some (.slice p X.rough.length cp) := (cell_of_heap g0 4).trans rfl
    have b5 : W3.cell? ⟨W2.heap.size, 5, none⟩ = some (.slice q X.recs.length d) := (cell_of_heap g0 5).trans rfl
    have e0 : W3.cell? ⟨W2.heap.size + 1, 0, none⟩ = some (.int .u64 c.needles) := (cell_of_heap g1 0).trans rfl
    have e1 : W3.cell? ⟨W2.heap.size + 1, 1, none⟩ = some (.slice mp c.records.length mc) := (cell_of_heap g1 1).trans rfl
    have hEw := (HE.out.trans hE2).trans hE3
    have HWH := Lib.hid (whole03 (.agg #[.int .i64 X.weeks, .int .i64 X.price, .int .i64 X.age, .int .i64 X.step, .slice p X.rough.length cp, .slice q X.recs.length d]) (.agg #[.int .u64 c.needles, .slice mp c.records.length mc]) X c W3 ⟨_, _, _, _, rfl, HG.out.ext hEw, HR.out.ext hEw⟩ HX.out ⟨_, _, rfl, hma.ext hE3⟩ hok)
    have HEW := Lib.hid hEw
    clear hW3 g0 g1 hE3 hEw hE2 hma hok
    go_wp2_with (go_at_call 62; refine HWH.out.mono ?_; rintro e w' ⟨rfl, hE4⟩)
    go_ret2
    exact RetE.fin (HEW.out.trans hE4) (by unfold cheapV; rw [HB.out]; rfl)

/-- the best choice of the first weeks -/
def bestTo (X : Wr) (long : Nat) : Option Ch := leastL (fun c => allW X c X.price) (choicesW X long)
def enoughB (X : Wr) (budget : Int) (long : Nat) : Bool := match bestTo X long with
  | some c => decide (allW X c X.price ≤ budget)
  | none => false
/-- the greatest number of weeks up to n for which a budget is enough -/
def lastTo (X : Wr) (budget : Int) : Nat → Nat
  | 0 => 0
  | n + 1 => if enoughB X budget (n + 1) = true then n + 1 else lastTo X budget n
def lastV (X : Wr) (budget : Int) : Value :=
  if 0 ≤ budget ∧ budget ≤ 99999 then .tuple #[.int .i64 (lastTo X budget X.weeks.toNat), .int .i64 0] else .tuple #[.int .i64 0, .int .i64 1]

set_option maxHeartbeats 1600000 in
theorem lastFn03 (X : Wr) (hX : ValidW X) (p q : Option Addr) (cp d B : Nat) (u : Value) (c : Ch) (w : World) (hu : ChV w u c) (hc : ChOK X c) (hR : RecsAt w q X.recs) (hG : IntsAt w p X.rough)
    (hB : w.heap[B]? = some (bxO X p cp q d)) :
    Calls Try.prog 71 #[u, .pointer (some ⟨B, 0, none⟩)] w (RetE (.int .i64 (allW X c X.price)) w) := by
  obtain ⟨s, cs, rfl, hma⟩ := hu
  unfold bxO at hB
  go_enter Try.func71, Try.ntmps71
  go_upto_region 1 with (fail)
  have hn := heap_new w (.cells #[.int .u64 c.needles, .slice s c.records.length cs] 105)
  obtain ⟨W, hW⟩ : ∃ W, W = w.alloc (.cells #[.int .u64 c.needles, .slice s c.records.length cs] 105) := ⟨_, rfl⟩
  have hE : Ext w W := by rw [hW]; exact Ext.alloc (Ext.refl w) _
  rw [← hW] at hn ⊢
  have c0 : W.cell? ⟨w.heap.size, 0, none⟩ = some (.int .u64 c.needles) := (cell_of_heap hn 0).trans rfl
  have c1 : W.cell? ⟨w.heap.size, 1, none⟩ = some (.slice s c.records.length cs) := (cell_of_heap hn 1).trans rfl
  have hBw := (Below.block hE B (Array.getElem?_eq_some_iff.1 hB).1).trans hB
  have b0 : W.cell? ⟨B, 0, none⟩ = some (.int .i64 X.weeks) := (cell_of_heap hBw 0).trans rfl
  have b1 : W.cell? ⟨B, 1, none⟩ = some (.int .i64 X.price) := (cell_of_heap hBw 1).trans rfl
  have b2 : W.cell? ⟨B, 2, none⟩ = some (.int .i64 X.age) := (cell_of_heap hBw 2).trans rfl
  have b3 : W.cell? ⟨B, 3, none⟩ = some (.int .i64 X.step) := (cell_of_heap hBw 3).trans rfl
  have b4 : W.cell? ⟨B, 4, none⟩ = some (.slice p X.rough.length cp) := (cell_of_heap hBw 4).trans rfl
  have b5 : W.cell? ⟨B, 5, none⟩ = some (.slice q X.recs.length d) := (cell_of_heap hBw 5).trans rfl
  have HS := Lib.hid (whole03 (.agg #[.int .i64 X.weeks, .int .i64 X.price, .int .i64 X.age, .int .i64 X.step, .slice p X.rough.length cp, .slice q X.recs.length d]) (.agg #[.int .u64 c.needles, .slice s c.records.length cs]) X c W ⟨_, _, _, _, rfl, hG.ext hE, hR.ext hE⟩ hX ⟨_, _, rfl, hma.ext hE⟩ hc)
  have HE := Lib.hid hE
  clear hW hn hE hBw hB hma hX
  go_wp2_with (go_at_call 62; refine HS.out.mono ?_; rintro e W2 ⟨rfl, hE2⟩)
  go_ret
  exact RetE.fin (HE.out.trans hE2) rfl
end Go.Proofs.Ytkcilgjkdiopnaa
