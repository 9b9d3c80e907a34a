/- The walk of MetersSums. -/
import Derived.Test.YtimelbcfaniifaaDoorQ9e
import Derived.Test.YtimelbcfaniifaaDoorQ8g
import Derived.Test.YtimelbcfaniifaaDoorQ8h
namespace Go.Proofs.YtimelbcfaniifaaDoor
open Go.RowKit

theorem Sums04A (M : Mt) (f t : Int) (v : Value) (w : World) (hv : MtV w v M) (h1 : M.weeks.length ≤ 1000) (h2 : M.reads.length ≤ 1000) (hT : TabW w) :
    Calls Tryd.prog 17 #[v, .int .i64 f, .int .i64 t] w (RetL (sumsA M f t) (askV M (areB f t M.weeks.length)) w) := Sums04 M f t v w hv h1 h2 hT
theorem Shows04A (M : Mt) (a : Int) (v : Value) (w : World) (hv : MtV w v M) (h1 : M.weeks.length ≤ 1000) (h2 : M.reads.length ≤ 1000) :
    Calls Tryd.prog 29 #[v, .int .i64 a] w (RetL (showsA M a) (askV M (isAf a M.weeks.length)) w) := Shows04 M a v w hv h1 h2
theorem RetL.list {l : List Int} {n : Int} {w : World} {e : Ending} {w' : World} (h : RetL l n w e w') : ∃ (p : Option Addr) (c : Nat), e = .returned (.tuple #[.slice p l.length c, .int .i64 n]) ∧ Ext w w' ∧ IntsAt w' p l ∧ ∀ u, p = some u → w.heap.size ≤ u.block := by
  obtain ⟨v, he, hO, hE⟩ := h
  rcases hO.2 with ⟨rfl, h0⟩ | ⟨g, cap, cur, rfl, hB, -⟩
  · have : l = [] := List.length_eq_zero_iff.1 h0
    subst this
    exact ⟨none, 0, he, hE, IntsAt.nil _ _, fun u hu => by cases hu⟩
  · exact ⟨_, cap, he, hE, row_ints hO, fun u hu => by cases hu; exact hB⟩
theorem ints_set {w : World} {p : Option Addr} {l : List Int} {s i : Nat} {v : Value} (h : IntsAt w p l) (hn : ∀ u, p = some u → u.block ≠ s) : IntsAt (w.setCell ⟨s, i, none⟩ v) p l := by
  intro j hj
  obtain ⟨b, o, hp, hc⟩ := h.at j hj
  have hb : b ≠ s := hn _ hp
  refine ⟨b, o, _, hp, ?_, rfl⟩
  have : (w.setCell ⟨s, i, none⟩ v).heap[b]? = w.heap[b]? := Below.heap_setCell w ⟨s, i, none⟩ v b hb
  unfold World.cell? at hc ⊢
  rw [this]
  exact hc

set_option maxRecDepth 20000 in
set_option maxHeartbeats 16000000 in
theorem MetersSums04 (v : Value) (M : Mt) (x0 x1 x2 x3 : Int) (w : World) (hv : MtV w v M) (hT : TabW w) :
    Calls Tryd.prog 10 #[v, .agg #[.int .i64 x0, .int .i64 x1, .int .i64 x2, .int .i64 x3]] w (RetE (.bool true) w) := by
  have HV := Lib.hid hv
  have HT := Lib.hid hT
  obtain ⟨p, c, qq, d, rfl, hp, hq⟩ := hv
  clear hp hq hT
  go_enter Tryd.func10, Tryd.ntmps10
  go_upto_region 1 with (fail)
  obtain ⟨s0, hs0⟩ : ∃ s0, s0 = w.heap.size := ⟨_, rfl⟩
  obtain ⟨W, hW⟩ : ∃ W, W = (w.alloc (.cells #[.slice p M.weeks.length c, .slice qq M.reads.length d, .int .i64 M.wrong] 25)).alloc (.cells #[.int .i64 x0, .int .i64 x1, .int .i64 x2, .int .i64 x3] 27) := ⟨_, rfl⟩
  have m0 : W.heap[s0]? = some (.cells #[.slice p M.weeks.length c, .slice qq M.reads.length d, .int .i64 M.wrong] 25) := by rw [hs0]; exact heap_at0 (by rw [hW]; exact (by repeat (first | exact Ext.refl _ | assumption | refine Ext.drewN ?_ _ | refine Ext.drew ?_ | refine Ext.alloc ?_ _)))
  have m1 : W.heap[s0 + 1]? = some (.cells #[.int .i64 x0, .int .i64 x1, .int .i64 x2, .int .i64 x3] 27) := by rw [hs0, hW]; exact heap_new2 _ _ _
  have hE : Ext w W := by rw [hW]; exact (by repeat (first | exact Ext.refl _ | assumption | refine Ext.drewN ?_ _ | refine Ext.drew ?_ | refine Ext.alloc ?_ _))
  rw [← hs0, ← hW]
  have a0 := ExtW.cell (v := .slice p M.weeks.length c) (cell_of_heap m0 0)
  have a1 := ExtW.cell (v := .slice qq M.reads.length d) (cell_of_heap m0 1)
  have a2 := ExtW.cell (v := .int .i64 M.wrong) (cell_of_heap m0 2)
  have k0 := ExtW.cell (v := .int .i64 x0) (cell_of_heap m1 0)
  have k1 := ExtW.cell (v := .int .i64 x1) (cell_of_heap m1 1)
  have k2 := ExtW.cell (v := .int .i64 x2) (cell_of_heap m1 2)
  have k3 := ExtW.cell (v := .int .i64 x3) (cell_of_heap m1 3)
  have HM0 := Lib.hid m0
  have HM1 := Lib.hid m1
  have HE := Lib.hid hE
  have HS0 := Lib.hid hs0
  have HWK := Lib.hid (fun x : ExtW W => ExtW.callX (x := x) (works04 x.w (HT.out.ext (HE.out.trans x.h))))
  have HFA := Lib.hid (fun x : ExtW W => ExtW.callX (x := x) (Far04 M _ x.w (HV.out.ext (HE.out.trans x.h))))
  obtain ⟨y0, hy0⟩ := ExtW.of (Ext.refl W)
  clear hW m0 m1 hE hs0
  conv => arg 5; rw [hy0]
  clear hy0
  obtain ⟨fb, hfb⟩ : ∃ b, farB M = b := ⟨_, rfl⟩
  rw [hfb] at HFA
  have HFB := Lib.hid hfb
  clear hfb
  cases fb
  case true =>
    go_wp2_with (first | (go_at_call 22; refine (HFA.out _).mono ?_; rintro e w2 ⟨rfl, xr, rfl, -⟩) | (go_at_call 16; refine (HWK.out _).mono ?_; rintro e w2 ⟨rfl, xw, rfl, -⟩))
    go_ret
    exact RetE.fin (HE.out.trans xw.h) rfl
  have hl := far_len HFB.out
  obtain ⟨hl1, hl2⟩ := hl
  go_wp2_with (go_at_call 22; refine (HFA.out _).mono ?_; rintro e w2 ⟨rfl, xr, rfl, -⟩)
  refine (Copy04 M _ xr.w (HV.out.ext (HE.out.trans xr.h)) (by omega) (by omega)).mono ?_
  rintro e w2 ⟨u, rfl, hE2, hMO⟩
  have hMV := hMO.mt
  obtain ⟨r1, c1, r2, c2, rfl, hw1, hw2⟩ := hMV
  clear hw1 hw2
  have hEw2 : Ext W w2 := xr.h.trans hE2
  go_upto_region 4 with (fail)
  obtain ⟨s7, hs7⟩ : ∃ s7, s7 = w2.heap.size := ⟨_, rfl⟩
  obtain ⟨W3, hW3⟩ : ∃ W3, W3 = w2.alloc (.cells #[.slice r1 M.weeks.length c1, .slice r2 M.reads.length c2, .int .i64 M.wrong] 25) := ⟨_, rfl⟩
  have hE3 : Ext W W3 := by rw [hW3]; exact hEw2.alloc _
  have m7 : W3.heap[s7]? = some (.cells #[.slice r1 M.weeks.length c1, .slice r2 M.reads.length c2, .int .i64 M.wrong] 25) := by rw [hW3, hs7]; exact heap_new _ _
  have hMV3 := (hMO.ext (show Ext w2 W3 by rw [hW3]; exact Ext.alloc (Ext.refl _) _)).mt
  rw [← hs7, ← hW3]
  have HE3 := Lib.hid (HE.out.trans hE3)
  have HVO := Lib.hid (fun y (h : Ext W3 y) => hMV3.ext h)
  have HVM3 := Lib.hid (fun y (h : Ext W3 y) => HV.out.ext (HE3.out.trans h))
  have HTY := Lib.hid (fun y (h : Ext W3 y) => HT.out.ext (HE3.out.trans h))
  have q0 := heap_ext3 HM0.out hE3
  have q1 := heap_ext3 HM1.out hE3
  have a0 := ExtW.cell (v := .slice p M.weeks.length c) (cell_of_heap q0 0)
  have a1 := ExtW.cell (v := .slice qq M.reads.length d) (cell_of_heap q0 1)
  have a2 := ExtW.cell (v := .int .i64 M.wrong) (cell_of_heap q0 2)
  have k0 := ExtW.cell (v := .int .i64 x0) (cell_of_heap q1 0)
  have k1 := ExtW.cell (v := .int .i64 x1) (cell_of_heap q1 1)
  have k2 := ExtW.cell (v := .int .i64 x2) (cell_of_heap q1 2)
  have k3 := ExtW.cell (v := .int .i64 x3) (cell_of_heap q1 3)
  have o0 := ExtW.cell (v := .slice r1 M.weeks.length c1) (cell_of_heap m7 0)
  have o1 := ExtW.cell (v := .slice r2 M.reads.length c2) (cell_of_heap m7 1)
  have o2 := ExtW.cell (v := .int .i64 M.wrong) (cell_of_heap m7 2)
  have HQ0 := Lib.hid q0
  have HQ1 := Lib.hid q1
  have HM7 := Lib.hid m7
  have HWK := Lib.hid (fun x : ExtW W3 => ExtW.callX (x := x) (works04 x.w (HTY.out x.w x.h)))
  have HSA := Lib.hid (fun x : ExtW W3 => ExtW.callX (x := x) (same04 M (by omega) (by omega) _ _ x.w (HVO.out x.w x.h) (HVM3.out x.w x.h)))
  have HW1 := Lib.hid (fun y (h : Ext W3 y) => Week04 M x0 _ y (HVO.out y h) (by omega) (by omega) (HTY.out y h))
  have HW2 := Lib.hid (fun y (h : Ext W3 y) => rWeek04 M HFB.out x0 _ y (HVM3.out y h))
  have HR1 := Lib.hid (fun y (h : Ext W3 y) => Rounds04 M _ y (HVO.out y h) (by omega) (by omega) (HTY.out y h))
  have HR2 := Lib.hid (fun y (h : Ext W3 y) => rRounds04 M HFB.out _ y (HVM3.out y h))
  have HS1 := Lib.hid (fun y (h : Ext W3 y) => Sums04A M x1 x2 _ y (HVO.out y h) (by omega) (by omega) (HTY.out y h))
  have HS2 := Lib.hid (fun y (h : Ext W3 y) => rSums04 M HFB.out x1 x2 _ y (HVM3.out y h))
  have HH1 := Lib.hid (fun y (h : Ext W3 y) => Shows04A M x3 _ y (HVO.out y h) (by omega) (by omega))
  have HH2 := Lib.hid (fun y (h : Ext W3 y) => rShows04 M HFB.out x3 _ y (HVM3.out y h))
  obtain ⟨zw, hzw⟩ : ∃ z, z = askV M (isWkB x0 M.weeks.length) := ⟨_, rfl⟩
  obtain ⟨lo, hlo⟩ : ∃ z, z = weekLo M x0 := ⟨_, rfl⟩
  obtain ⟨hi, hhi⟩ : ∃ z, z = weekHi M x0 := ⟨_, rfl⟩
  obtain ⟨z1, hz1⟩ : ∃ z, z = askV M (areB x1 x2 M.weeks.length) := ⟨_, rfl⟩
  obtain ⟨z2, hz2⟩ : ∃ z, z = askV M (isAf x3 M.weeks.length) := ⟨_, rfl⟩
  obtain ⟨z3, hz3⟩ : ∃ z, z = askV M true := ⟨_, rfl⟩
  obtain ⟨rl, hrl⟩ : ∃ z, z = roundLo M := ⟨_, rfl⟩
  obtain ⟨rh, hrh⟩ : ∃ z, z = roundHi M := ⟨_, rfl⟩
  have hl1' := sumsA_len M x1 x2
  have hl2' := showsA_len M x3
  obtain ⟨l1, hl1e⟩ : ∃ z, z = sumsA M x1 x2 := ⟨_, rfl⟩
  obtain ⟨l2, hl2e⟩ : ∃ z, z = showsA M x3 := ⟨_, rfl⟩
  rw [← hl1e] at hl1' HS1 HS2
  rw [← hl2e] at hl2' HH1 HH2
  rw [← hzw, ← hlo, ← hhi] at HW1 HW2
  rw [← hz1] at HS1 HS2
  rw [← hz2] at HH1 HH2
  rw [← hz3, ← hrl, ← hrh] at HR1 HR2
  clear hzw hlo hhi hz1 hz2 hz3 hrl hrh hl1e hl2e
  obtain ⟨z0, hz0⟩ := ExtW.of (Ext.refl W3)
  clear hW3 hs7 hE3 m7 hMV3 hMO hE2 hEw2 q0 q1
  conv => arg 5; rw [hz0]
  clear hz0
  have HW1 := Lib.hid (HW1.out z0.w z0.h)
  go_upto_region 5 with (go_at_call 21; refine HW1.out.mono ?_; rintro e w2 ⟨rfl, hE2⟩)
  obtain ⟨s6, hs6⟩ : ∃ s, s = w2.heap.size := ⟨_, rfl⟩
  obtain ⟨W4, hW4⟩ : ∃ W, W = w2.alloc (.cells #[.int .i64 lo, .int .i64 hi] 39) := ⟨_, rfl⟩
  have hE4 : Ext W3 W4 := by rw [hW4]; exact (z0.h.trans hE2).alloc _
  have m6 : W4.heap[s6]? = some (.cells #[.int .i64 lo, .int .i64 hi] 39) := by rw [hW4, hs6]; exact heap_new _ _
  have hs6W : W3.heap.size ≤ s6 := by rw [hs6]; exact (z0.h.trans hE2).size
  rw [← hs6, ← hW4]
  have q0 := heap_ext3 HQ0.out hE4
  have q1 := heap_ext3 HQ1.out hE4
  have q7 := heap_ext3 HM7.out hE4
  have a0 := ExtW.cell (v := .slice p M.weeks.length c) (cell_of_heap q0 0)
  have a1 := ExtW.cell (v := .slice qq M.reads.length d) (cell_of_heap q0 1)
  have a2 := ExtW.cell (v := .int .i64 M.wrong) (cell_of_heap q0 2)
  have k0 := ExtW.cell (v := .int .i64 x0) (cell_of_heap q1 0)
  have k1 := ExtW.cell (v := .int .i64 x1) (cell_of_heap q1 1)
  have k2 := ExtW.cell (v := .int .i64 x2) (cell_of_heap q1 2)
  have k3 := ExtW.cell (v := .int .i64 x3) (cell_of_heap q1 3)
  have o0 := ExtW.cell (v := .slice r1 M.weeks.length c1) (cell_of_heap q7 0)
  have o1 := ExtW.cell (v := .slice r2 M.reads.length c2) (cell_of_heap q7 1)
  have o2 := ExtW.cell (v := .int .i64 M.wrong) (cell_of_heap q7 2)
  have HW2 := Lib.hid (HW2.out W4 hE4)
  have HE4 := Lib.hid hE4
  have HM6 := Lib.hid m6
  have HS6 := Lib.hid hs6W
  clear hE2 hs6 hW4 hE4 m6 hs6W q0 q1 q7
  obtain ⟨y4, hy4⟩ := ExtW.of (Ext.refl W4)
  rw [hy4] at HW2
  conv => arg 5; rw [hy4]
  clear hy4
  go_upto_region 6 with (go_at_call 42; refine HW2.out.mono ?_; rintro e w2 ⟨rfl, hE2⟩)
  obtain ⟨s8, hs8⟩ : ∃ s, s = w2.heap.size := ⟨_, rfl⟩
  obtain ⟨W5, hW5⟩ : ∃ W, W = w2.alloc (.cells #[.int .i64 lo, .int .i64 hi] 39) := ⟨_, rfl⟩
  have hE45 : Ext W4 W5 := by rw [hW5]; exact (y4.h.trans hE2).alloc _
  have hE5 := HE4.out.trans hE45
  have m8 : W5.heap[s8]? = some (.cells #[.int .i64 lo, .int .i64 hi] 39) := by rw [hW5, hs8]; exact heap_new _ _
  have m6 := heap_ext3 HM6.out hE45
  have hn68 : s6 ≠ s8 := by
    have := (Array.getElem?_eq_some_iff.1 HM6.out).1
    have := (y4.h.trans hE2).size
    omega
  rw [← hs8, ← hW5]
  have q0 := heap_ext3 HQ0.out hE5
  have q1 := heap_ext3 HQ1.out hE5
  have q7 := heap_ext3 HM7.out hE5
  have a0 := ExtW.cell (v := .slice p M.weeks.length c) (cell_of_heap q0 0)
  have a1 := ExtW.cell (v := .slice qq M.reads.length d) (cell_of_heap q0 1)
  have a2 := ExtW.cell (v := .int .i64 M.wrong) (cell_of_heap q0 2)
  have k0 := ExtW.cell (v := .int .i64 x0) (cell_of_heap q1 0)
  have k1 := ExtW.cell (v := .int .i64 x1) (cell_of_heap q1 1)
  have k2 := ExtW.cell (v := .int .i64 x2) (cell_of_heap q1 2)
  have k3 := ExtW.cell (v := .int .i64 x3) (cell_of_heap q1 3)
  have o0 := ExtW.cell (v := .slice r1 M.weeks.length c1) (cell_of_heap q7 0)
  have o1 := ExtW.cell (v := .slice r2 M.reads.length c2) (cell_of_heap q7 1)
  have o2 := ExtW.cell (v := .int .i64 M.wrong) (cell_of_heap q7 2)
  have d0 := ExtW.cell (v := .int .i64 lo) (cell_of_heap m6 0)
  have d1 := ExtW.cell (v := .int .i64 hi) (cell_of_heap m6 1)
  have f0 := ExtW.cell (v := .int .i64 lo) (cell_of_heap m8 0)
  have f1 := ExtW.cell (v := .int .i64 hi) (cell_of_heap m8 1)
  have r60 : ∀ x : ExtW W5, x.w.frozen? ⟨s6, 0, none⟩ = false := fun x => cell_frozen (heap_ext3 m6 x.h) 0
  have r61 : ∀ x : ExtW W5, x.w.frozen? ⟨s6, 1, none⟩ = false := fun x => cell_frozen (heap_ext3 m6 x.h) 1
  have HE5 := Lib.hid hE5
  have HM6 := Lib.hid m6
  have HM8 := Lib.hid m8
  have HN68 := Lib.hid hn68
  have HS8 := Lib.hid (show W4.heap.size ≤ s8 from by rw [hs8]; exact (y4.h.trans hE2).size)
  have HS48 := Lib.hid HE4.out.size
  have HS1 := Lib.hid (fun x : ExtW W5 => ExtW.callL (x := x) (HS1.out x.w (hE5.trans x.h)))
  have HS2 := Lib.hid (fun x : ExtW W5 => ExtW.callL (x := x) (HS2.out x.w (hE5.trans x.h)))
  have HH1 := Lib.hid (fun x : ExtW W5 => ExtW.callL (x := x) (HH1.out x.w (hE5.trans x.h)))
  have HH2 := Lib.hid (fun x : ExtW W5 => ExtW.callL (x := x) (HH2.out x.w (hE5.trans x.h)))
  clear hE2 hs8 hW5 hE45 hE5 m8 m6 hn68 q0 q1 q7
  obtain ⟨y5, hy5⟩ := ExtW.of (Ext.refl W5)
  conv => arg 5; rw [hy5]
  clear hy5
  go_upto_region 7 with (go_at_call 17; refine (HS1.out _).mono ?_; rintro e w2 ⟨p3, cp3, rfl, t1, rfl, hA1, hI3, -⟩)
  have HI3 := Lib.hid hI3
  clear hA1 hI3
  go_upto_region 8 with (go_at_call 43; refine (HS2.out _).mono ?_; rintro e w2 ⟨p4, cp4, rfl, t2, rfl, hA2, hI4, -⟩)
  have HSX := Lib.hid (sameX (x := t2) (c := cp3) (d := cp4) (by omega) (HI3.out.ext hA2) hI4)
  clear hA2 hI4
  go_upto_region 10 with (go_at_call 19; refine HSX.out.mono ?_; rintro e w2 ⟨rfl, t3, rfl, -⟩)
  go_upto_region 11 with (go_at_call 29; refine (HH1.out _).mono ?_; rintro e w2 ⟨p5, cp5, rfl, t4, rfl, hA4, hI5, hB5⟩)
  have HI5 := Lib.hid hI5
  have HB5 := Lib.hid hB5
  clear hA4 hI5 hB5
  go_upto_region 12 with (go_at_call 44; refine (HH2.out _).mono ?_; rintro e w2 ⟨p6, cp6, rfl, t5, rfl, hA5, hI6, hB6⟩)
  have hlt6 := (Array.getElem?_eq_some_iff.1 HM6.out).1
  have hlt8 := (Array.getElem?_eq_some_iff.1 HM8.out).1
  have h5 : ∀ u, p5 = some u → u.block ≠ s6 ∧ u.block ≠ s8 := fun u hu => by have := HB5.out u hu; have := t3.h.size; omega
  have h6 : ∀ u, p6 = some u → u.block ≠ s6 ∧ u.block ≠ s8 := fun u hu => by have := hB6 u hu; have := t4.h.size; omega
  have HIS := Lib.hid (fun y (h : Ext t5.w y) => (⟨HI5.out.ext (hA5.trans h), hI6.ext h⟩ : IntsAt y p5 l2 ∧ IntsAt y p6 l2))
  have HNE := Lib.hid (⟨h5, h6⟩ : (∀ u, p5 = some u → u.block ≠ s6 ∧ u.block ≠ s8) ∧ (∀ u, p6 = some u → u.block ≠ s6 ∧ u.block ≠ s8))
  have HR1 := Lib.hid (HR1.out t5.w (HE5.out.trans t5.h))
  clear hA5 hI6 hB6 h5 h6 hlt6 hlt8 HI5 HB5
  go_upto_region 13 with (go_at_call 30; refine HR1.out.mono ?_; rintro e w6 ⟨rfl, hE6⟩; have e0 := cell_of_heap (heap_ext3 HM6.out (t5.h.trans hE6)) 0; have e1 := cell_of_heap (heap_ext3 HM6.out (t5.h.trans hE6)) 1; have g0 := cell_frozen (heap_ext3 HM6.out (t5.h.trans hE6)) 0; have g1 := cell_frozen (heap_ext3 HM6.out (t5.h.trans hE6)) 1)
  have hE56 := t5.h.trans hE6
  have hm8 := heap_ext3 HM8.out hE56
  have hli := HIS.out _ hE6
  obtain ⟨W6, hW6⟩ : ∃ W, W = (w6.setCell ⟨s6, 0, none⟩ (.int .i64 rl)).setCell ⟨s6, 1, none⟩ (.int .i64 rh) := ⟨_, rfl⟩
  have hE36 : Ext W3 W6 := by rw [hW6]; exact Ext.setCell (Ext.setCell (HE5.out.trans hE56) (p := ⟨s6, 0, none⟩) HS6.out _) (p := ⟨s6, 1, none⟩) HS6.out _
  have m6 : W6.heap[s6]? = some (.cells #[.int .i64 rl, .int .i64 rh] 39) := by rw [hW6]; exact heap_pair (heap_ext3 HM6.out hE56)
  have m8 : W6.heap[s8]? = some (.cells #[.int .i64 lo, .int .i64 hi] 39) := by rw [hW6]; exact heap_set_ne (Ne.symm HN68.out) (heap_set_ne (Ne.symm HN68.out) hm8)
  have hl5 : IntsAt W6 p5 l2 := by rw [hW6]; exact ints_set (ints_set hli.1 fun u hu => (HNE.out.1 u hu).1) fun u hu => (HNE.out.1 u hu).1
  have hl6 : IntsAt W6 p6 l2 := by rw [hW6]; exact ints_set (ints_set hli.2 fun u hu => (HNE.out.2 u hu).1) fun u hu => (HNE.out.2 u hu).1
  rw [← hW6]
  have q0 := cell_of_heap (heap_ext3 HQ0.out hE36) 0
  have q1 := cell_of_heap (heap_ext3 HQ0.out hE36) 1
  have q2 := cell_of_heap (heap_ext3 HQ0.out hE36) 2
  have HR2 := Lib.hid (HR2.out W6 hE36)
  have hs8 : W3.heap.size ≤ s8 := by
    have h1 := HS8.out
    have h2 := HS48.out
    omega
  have HS8 := Lib.hid hs8
  have HE36 := Lib.hid hE36
  have HM6 := Lib.hid m6
  have HM8 := Lib.hid m8
  have HL := Lib.hid (fun y (h : Ext W6 y) => (⟨hl5.ext h, hl6.ext h⟩ : IntsAt y p5 l2 ∧ IntsAt y p6 l2))
  clear hE6 hE56 hm8 hli hW6 hE36 m6 m8 hl5 hl6 hs8 e0 e1 g0 g1 d0 d1 f0 f1 r60 r61 a0 a1 a2 k0 k1 k2 k3 o0 o1 o2
  go_upto_region 14 with (go_at_call 45; refine HR2.out.mono ?_; rintro e w7 ⟨rfl, hE7⟩; have e0 := cell_of_heap (heap_ext3 HM8.out hE7) 0; have e1 := cell_of_heap (heap_ext3 HM8.out hE7) 1; have g0 := cell_frozen (heap_ext3 HM8.out hE7) 0; have g1 := cell_frozen (heap_ext3 HM8.out hE7) 1)
  have hli := HL.out _ hE7
  obtain ⟨W7, hW7⟩ : ∃ W, W = (w7.setCell ⟨s8, 0, none⟩ (.int .i64 rl)).setCell ⟨s8, 1, none⟩ (.int .i64 rh) := ⟨_, rfl⟩
  have hE37 : Ext W3 W7 := by rw [hW7]; exact Ext.setCell (Ext.setCell (HE36.out.trans hE7) (p := ⟨s8, 0, none⟩) HS8.out _) (p := ⟨s8, 1, none⟩) HS8.out _
  have m8 : W7.heap[s8]? = some (.cells #[.int .i64 rl, .int .i64 rh] 39) := by rw [hW7]; exact heap_pair (heap_ext3 HM8.out hE7)
  have m6 : W7.heap[s6]? = some (.cells #[.int .i64 rl, .int .i64 rh] 39) := by rw [hW7]; exact heap_set_ne HN68.out (heap_set_ne HN68.out (heap_ext3 HM6.out hE7))
  have hl5 : IntsAt W7 p5 l2 := by rw [hW7]; exact ints_set (ints_set hli.1 fun u hu => (HNE.out.1 u hu).2) fun u hu => (HNE.out.1 u hu).2
  have hl6 : IntsAt W7 p6 l2 := by rw [hW7]; exact ints_set (ints_set hli.2 fun u hu => (HNE.out.2 u hu).2) fun u hu => (HNE.out.2 u hu).2
  rw [← hW7]
  have q0 := heap_ext3 HQ0.out hE37
  have q7 := heap_ext3 HM7.out hE37
  have a0 := ExtW.cell (v := .slice p M.weeks.length c) (cell_of_heap q0 0)
  have a1 := ExtW.cell (v := .slice qq M.reads.length d) (cell_of_heap q0 1)
  have a2 := ExtW.cell (v := .int .i64 M.wrong) (cell_of_heap q0 2)
  have o0 := ExtW.cell (v := .slice r1 M.weeks.length c1) (cell_of_heap q7 0)
  have o1 := ExtW.cell (v := .slice r2 M.reads.length c2) (cell_of_heap q7 1)
  have o2 := ExtW.cell (v := .int .i64 M.wrong) (cell_of_heap q7 2)
  have d0 := ExtW.cell (v := .int .i64 rl) (cell_of_heap m6 0)
  have d1 := ExtW.cell (v := .int .i64 rh) (cell_of_heap m6 1)
  have f0 := ExtW.cell (v := .int .i64 rl) (cell_of_heap m8 0)
  have f1 := ExtW.cell (v := .int .i64 rh) (cell_of_heap m8 1)
  have HWK := Lib.hid (fun x : ExtW W7 => ExtW.callX (x := x) (works04 x.w (HTY.out x.w (hE37.trans x.h))))
  have HSA := Lib.hid (fun x : ExtW W7 => ExtW.callX (x := x) (same04 M (by omega) (by omega) _ _ x.w (HVO.out x.w (hE37.trans x.h)) (HVM3.out x.w (hE37.trans x.h))))
  have HSI := Lib.hid (fun x : ExtW W7 => sameX (x := x) (c := cp5) (d := cp6) (by omega) (hl5.ext x.h) (hl6.ext x.h))
  have HE37 := Lib.hid hE37
  clear hE7 hli hW7 hE37 m6 m8 hl5 hl6 q1 q2 e0 e1 g0 g1
  obtain ⟨y7, hy7⟩ := ExtW.of (Ext.refl W7)
  conv => arg 5; rw [hy7]
  clear hy7 q0 q7
  go_wp2_with (first
    | (go_at_call 19; refine (HSI.out _).mono ?_; rintro e w2 ⟨rfl, z9, rfl, -⟩)
    | (go_at_call 26; refine (HSA.out _).mono ?_; rintro e w2 ⟨rfl, xs, rfl, -⟩)
    | (go_at_call 16; refine (HWK.out _).mono ?_; rintro e w2 ⟨rfl, xw, rfl, -⟩))
  go_ret
  exact RetE.fin ((HE3.out.trans HE37.out).trans xw.h) rfl
end Go.Proofs.YtimelbcfaniifaaDoor
