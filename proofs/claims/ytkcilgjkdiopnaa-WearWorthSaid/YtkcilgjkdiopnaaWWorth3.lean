/- The walk of WearWorth. -/
import Derived.Test.YtkcilgjkdiopnaaR3r
import Derived.Test.YtkcilgjkdiopnaaWCheap3
namespace Go.Proofs.Ytkcilgjkdiopnaa
open Go.RowKit

set_option maxRecDepth 20000 in
set_option maxHeartbeats 3200000 in
theorem LastBad03 (v : Value) (X : Wr) (budget : Int) (w : World) (hv : WrV w v X) (hX : ¬ValidW X) (hM : ModestW X) : Calls Try.prog 30 #[v, .int .i64 budget] w (RetE (.tuple #[.int .i64 0, .int .i64 30]) w) := by
  have hC := fun w' (h : Ext w w') => Check03 v X w' (WrV.mono _ _ _ _ h hv) hM
  rw [chkW_f hX] at hC
  obtain ⟨p, cp, q, d, rfl, hG, hR⟩ := hv
  have HC := Lib.hid hC
  clear hC hX hR hG hM
  go_enter Try.func30, Try.ntmps30
  go_upto_region 1 with (fail)
  obtain ⟨W, hW⟩ : ∃ W, W = w.alloc (.cells #[.int .i64 X.weeks, .int .i64 X.price, .int .i64 X.age, .int .i64 X.step, .slice p X.rough.length cp, .slice q X.recs.length d] 25) := ⟨_, rfl⟩
  have hn := heap_new w (.cells #[.int .i64 X.weeks, .int .i64 X.price, .int .i64 X.age, .int .i64 X.step, .slice p X.rough.length cp, .slice q X.recs.length d] 25)
  have hE : Ext w W := by rw [hW]; exact Ext.alloc (Ext.refl w) _
  rw [← hW] at hn ⊢
  have q0 := ExtW.cell (v := .int .i64 X.weeks) (cell_of_heap hn 0)
  have q1 := ExtW.cell (v := .int .i64 X.price) (cell_of_heap hn 1)
  have q2 := ExtW.cell (v := .int .i64 X.age) (cell_of_heap hn 2)
  have q3 := ExtW.cell (v := .int .i64 X.step) (cell_of_heap hn 3)
  have q4 := ExtW.cell (v := .slice p X.rough.length cp) (cell_of_heap hn 4)
  have q5 := ExtW.cell (v := .slice q X.recs.length d) (cell_of_heap hn 5)
  have HC2 := Lib.hid (fun x : ExtW W => ExtW.call (HC.out x.w (hE.trans x.h)))
  have HE := Lib.hid hE
  obtain ⟨x0, hx0⟩ := ExtW.of (Ext.refl W)
  clear hW hn hE HC
  conv => arg 5; rw [hx0]
  clear hx0
  go_wp2_with (go_at_call 19; refine (HC2.out _).mono ?_; rintro e w' ⟨rfl, x1, rfl⟩)
  go_ret2
  exact RetE.fin (HE.out.trans x1.h) rfl

theorem worth_pair (X : Wr) : ∃ a e, worthV X = .tuple #[.int .i64 a, .int .i64 e] := by
  unfold worthV
  split
  · exact ⟨_, _, rfl⟩
  · split
    · exact ⟨_, _, rfl⟩
    · exact ⟨_, _, rfl⟩
theorem last_pair (X : Wr) (b : Int) : ∃ a e, lastV X b = .tuple #[.int .i64 a, .int .i64 e] := by
  unfold lastV
  split
  · exact ⟨_, _, rfl⟩
  · exact ⟨_, _, rfl⟩

/-- What both functions answer, for any box. -/
theorem both_worth (X : Wr) (hM : ModestW X) (b : Int) : ∃ a e c g : Int,
    (∀ v w, WrV w v X → Calls Try.prog 28 #[v] w (RetE (.tuple #[.int .i64 a, .int .i64 e]) w)) ∧
    (∀ v w, WrV w v X → Calls Try.prog 29 #[v] w (RetE (.tuple #[.int .i64 a, .int .i64 e]) w)) ∧
    (∀ v w, WrV w v X → Calls Try.prog 30 #[v, .int .i64 b] w (RetE (.tuple #[.int .i64 c, .int .i64 g]) w)) ∧
    (∀ v w, WrV w v X → Calls Try.prog 31 #[v, .int .i64 b] w (RetE (.tuple #[.int .i64 c, .int .i64 g]) w)) := by
  by_cases hX : ValidW X
  · obtain ⟨a, e, h1⟩ := worth_pair X
    obtain ⟨c, g, h2⟩ := last_pair X b
    refine ⟨a, e, c, g, fun v w h => ?_, fun v w h => ?_, fun v w h => ?_, fun v w h => ?_⟩
    · rw [← h1]; exact Worth03 v X w h hX hM
    · exact WorthR03 v _ X w h hM (Or.inl ⟨hX, h1.symm⟩)
    · rw [← h2]; exact Last03 v X b w h hX hM
    · have := LastR03 v X b w h hM
      unfold lastRV at this
      rw [if_pos hX, h2] at this
      exact this
  · refine ⟨0, 30, 0, 30, fun v w h => ?_, fun v w h => ?_, fun v w h => ?_, fun v w h => ?_⟩
    · exact WorthBad03 v X w h hX hM
    · exact WorthR03 v _ X w h hM (Or.inr ⟨hX, rfl⟩)
    · exact LastBad03 v X b w h hX hM
    · have := LastR03 v X b w h hM
      rw [lastRV_bad hX] at this
      exact this

set_option maxRecDepth 20000 in
set_option maxHeartbeats 16000000 in
theorem WearWorth03 (v : Value) (X : Wr) (budget : Int) (w : World) (hv : WrV w v X) (hM : BigW X) :
    Calls Try.prog 4 #[v, .int .i64 budget] w (RetE (.bool true) w) := by
  have HV := Lib.hid hv
  have HB := Lib.hid hM
  have m2 := hM.recs
  obtain ⟨p, c, q, d, rfl, h1, h2⟩ := hv
  clear hM
  go_enter Try.func4, Try.ntmps4
  go_upto_region 1 with (fail)
  generalize hW : World.alloc _ _ = W
  have hn : W.heap[w.heap.size]? = some (.cells #[.int .i64 X.weeks, .int .i64 X.price, .int .i64 X.age, .int .i64 X.step, .slice p X.rough.length c, .slice q X.recs.length d] 25) := by rw [← hW]; exact heap_new _ _
  have hE : Ext w W := by rw [← hW]; exact Ext.alloc (Ext.refl w) _
  have q0 := ExtW.cell (v := .int .i64 X.weeks) (cell_of_heap hn 0)
  have q1 := ExtW.cell (v := .int .i64 X.price) (cell_of_heap hn 1)
  have q2 := ExtW.cell (v := .int .i64 X.age) (cell_of_heap hn 2)
  have q3 := ExtW.cell (v := .int .i64 X.step) (cell_of_heap hn 3)
  have q4 := ExtW.cell (v := .slice p X.rough.length c) (cell_of_heap hn 4)
  have q5 := ExtW.cell (v := .slice q X.recs.length d) (cell_of_heap hn 5)
  have HWK := Lib.hid (fun x : ExtW W => ExtW.call (works03 x.w))
  have HR := fun x : ExtW W => Far03 _ X x.w (WrV.mono _ _ _ _ (hE.trans x.h) HV.out) HB.out
  have HE := Lib.hid hE
  obtain ⟨x0, hx0⟩ := ExtW.of (Ext.refl W)
  clear hW hn h1 h2
  conv => arg 5; rw [hx0]
  clear hx0
  by_cases hR : FarW X
  case pos =>
    have HR2 := Lib.hid (fun x : ExtW W => ExtW.call (RetE.bt hR (HR x)))
    clear HR hR
    go_wp2_with (first | (go_at_call 14; refine (HR2.out _).mono ?_; rintro e w' ⟨rfl, x1, rfl⟩) | (go_at_call 16; refine (HWK.out _).mono ?_; rintro e w' ⟨rfl, x2, rfl⟩))
    go_ret
    exact RetE.fin (hE.trans x2.h) rfl
  have HR2 := Lib.hid (fun x : ExtW W => ExtW.call (RetE.bf hR (HR x)))
  have HNF := Lib.hid hR
  clear HR hR
  have hnw : ¬WideW X := fun h => HNF.out (Or.inl h)
  have hmo := modest_of_w hnw
  simp only [WideW, not_or, not_exists, not_and] at hnw
  obtain ⟨w1, w2, w3⟩ := hnw
  have HMO := Lib.hid hmo
  have HCP := Lib.hid (fun x : ExtW W => Copy03m _ X x.w (WrV.mono _ _ _ _ (hE.trans x.h) HV.out) (by omega) (by omega) (fun r hr => by have := w3 r hr; omega))
  clear hmo w3
  go_upto_region 4 with (first
    | (go_at_call 14; refine (HR2.out _).mono ?_; rintro e w' ⟨rfl, x1, rfl⟩)
    | (go_at_call 17; refine (HCP.out _).mono ?_; rintro e W4 ⟨p4, c4, q4', d4, rfl, hE4, ho⟩))
  obtain ⟨b5, hb5⟩ : ∃ b, b = W4.heap.size := ⟨_, rfl⟩
  generalize hW6 : World.alloc _ _ = W6
  have hn6 : W6.heap[b5]? = some (.cells #[.int .i64 X.weeks, .int .i64 X.price, .int .i64 X.age, .int .i64 X.step, .slice p4 X.rough.length c4, .slice q4' X.recs.length d4] 25) := by rw [← hW6, hb5]; exact heap_new _ _
  have hE6 : Ext W4 W6 := by rw [← hW6]; exact Ext.alloc (Ext.refl _) _
  have hEx : Ext W W6 := x1.h.trans (hE4.trans hE6)
  have r0 := ExtW.cell (q0 ⟨W6, hEx⟩)
  have r1 := ExtW.cell (q1 ⟨W6, hEx⟩)
  have r2 := ExtW.cell (q2 ⟨W6, hEx⟩)
  have r3 := ExtW.cell (q3 ⟨W6, hEx⟩)
  have r4 := ExtW.cell (q4 ⟨W6, hEx⟩)
  have r5 := ExtW.cell (q5 ⟨W6, hEx⟩)
  simp only at r0 r1 r2 r3 r4 r5
  have z0 := ExtW.cell (v := .int .i64 X.weeks) (cell_of_heap hn6 0)
  have z1 := ExtW.cell (v := .int .i64 X.price) (cell_of_heap hn6 1)
  have z2 := ExtW.cell (v := .int .i64 X.age) (cell_of_heap hn6 2)
  have z3 := ExtW.cell (v := .int .i64 X.step) (cell_of_heap hn6 3)
  have z4 := ExtW.cell (v := .slice p4 X.rough.length c4) (cell_of_heap hn6 4)
  have z5 := ExtW.cell (v := .slice q4' X.recs.length d4) (cell_of_heap hn6 5)
  have hEw := HE.out.trans hEx
  have HVX := Lib.hid (fun x : ExtW W6 => WrV.mono _ _ _ _ (hEw.trans x.h) HV.out)
  have HVY := Lib.hid (fun x : ExtW W6 => WrV.mono _ _ _ _ (hE6.trans x.h) ho.wr)
  have SA := Lib.hid (fun x : ExtW W6 => ExtW.call (same03 _ _ X x.w (HVY.out x) (HVX.out x) HMO.out))
  have WK := Lib.hid (fun x : ExtW W6 => ExtW.call (works03 x.w))
  obtain ⟨a, e, c0, g, k1, k2, k3, k4⟩ := both_worth X HMO.out budget
  have A1 := Lib.hid (fun x : ExtW W6 => ExtW.call (k1 _ x.w (HVY.out x)))
  have B1 := Lib.hid (fun x : ExtW W6 => ExtW.call (k2 _ x.w (HVX.out x)))
  have A2 := Lib.hid (fun x : ExtW W6 => ExtW.call (k3 _ x.w (HVY.out x)))
  have B2 := Lib.hid (fun x : ExtW W6 => ExtW.call (k4 _ x.w (HVX.out x)))
  have HEW := Lib.hid hEw
  rw [← hb5]
  obtain ⟨y0, hy0⟩ := ExtW.of (Ext.refl W6)
  clear hW6 hn6 hE6 hEx hEw hE4 ho q0 q1 q2 q3 q4 q5 hb5 HR2 HCP HWK x0 x1 k1 k2 k3 k4
  conv => arg 5; rw [hy0]
  clear hy0
  go_wp2_with (first
      | (go_at_call 28; refine (A1.out _).mono ?_; rintro e w' ⟨rfl, y2, rfl⟩)
      | (go_at_call 29; refine (B1.out _).mono ?_; rintro e w' ⟨rfl, y3, rfl⟩)
      | (go_at_call 30; refine (A2.out _).mono ?_; rintro e w' ⟨rfl, y4, rfl⟩)
      | (go_at_call 31; refine (B2.out _).mono ?_; rintro e w' ⟨rfl, y5, rfl⟩)
      | (go_at_call 26; refine (SA.out _).mono ?_; rintro e w' ⟨rfl, y10, rfl⟩)
      | (go_at_call 16; refine (WK.out _).mono ?_; rintro e w' ⟨rfl, y11, rfl⟩))
  go_ret
  exact RetE.fin (HEW.out.trans y11.h) rfl
end Go.Proofs.Ytkcilgjkdiopnaa
