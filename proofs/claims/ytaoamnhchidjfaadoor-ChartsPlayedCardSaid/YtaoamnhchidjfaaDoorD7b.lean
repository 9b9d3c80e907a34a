
/- The walk of ChartsPlayed. -/
import Derived.Test.YtaoamnhchidjfaaDoorC8g
import Derived.Test.YtaoamnhchidjfaaDoorD7a
namespace Go.Proofs.YtaoamnhchidjfaaDoor
open Go.RowKit

theorem ChV.ints {w : World} {p q : Option Addr} {n c m d : Nat} {x y : Value} {C : Ch} (h : ChV w (.agg #[.slice p n c, .slice q m d, x, y]) C) : IntsAt w q C.extra := by
  obtain ⟨p', c', q', d', e, h1, h2⟩ := h
  simp only [Value.agg.injEq, Array.mk.injEq, List.cons.injEq, Value.slice.injEq, and_true] at e
  obtain ⟨-, ⟨rfl, -⟩, -⟩ := e
  exact h2

theorem ChG.chS {w : World} {B : Nat} {u : Value} {g cx t : Nat} {v : Int} {C : Ch} (h : ChG w B u g cx (exS C t v)) : ChV w (.agg #[u, .slice (some ⟨g, 0, none⟩) C.extra.length cx, .int .i64 C.frm, .int .i64 C.tto]) (exS C t v) := by
  have h1 := h.ch
  have e : (exS C t v).extra.length = C.extra.length := by simp [exS]
  rw [e] at h1
  exact h1
/-- an extra of the copy is written: what stands -/
theorem stepX {W y : World} {s0 s1 s7 g B i cx : Nat} {o0 o1 o7 : Obj} {u : Value} {C : Ch} (v : Int) (hE : Ext W y) (hne : s0 ≠ g ∧ s1 ≠ g ∧ s7 ≠ g ∧ W.heap.size ≤ g ∧ g < s7) (m0 : y.heap[s0]? = some o0) (m1 : y.heap[s1]? = some o1) (m7 : y.heap[s7]? = some o7) (hG : ChG y B u g cx C) :
    Ext W (y.setCell ⟨g, i, none⟩ (.int .i64 v)) ∧ (y.setCell ⟨g, i, none⟩ (.int .i64 v)).heap[s0]? = some o0 ∧ (y.setCell ⟨g, i, none⟩ (.int .i64 v)).heap[s1]? = some o1 ∧ (y.setCell ⟨g, i, none⟩ (.int .i64 v)).heap[s7]? = some o7 ∧ ChG (y.setCell ⟨g, i, none⟩ (.int .i64 v)) B u g cx (exS C i v) :=
  ⟨Ext.setCell (p := ⟨g, i, none⟩) hE hne.2.2.2.1 _, heap_set_ne hne.1 m0, heap_set_ne hne.2.1 m1, heap_set_ne hne.2.2.1 m7, hG.set i v⟩

set_option maxRecDepth 20000 in
set_option maxHeartbeats 16000000 in
theorem ChartsPlayed06 (v : Value) (C : Ch) (t f more : Int) (w : World) (hv : ChV w v C) (hwf : (Lit.int .i64 f).wf = true) (hT : TabW w) :
    Calls Tryd.prog 4 #[v, .agg #[.int .i64 t, .int .i64 f], .int .i64 more] w (RetE (.bool true) w) := by
  have HWF := Lib.hid hwf
  clear hwf
  have HV := Lib.hid hv
  have HT := Lib.hid hT
  obtain ⟨p, c, q, d, rfl, hp, hq⟩ := hv
  clear hp hq hT
  go_enter Tryd.func4, Tryd.ntmps4
  go_upto_region 1 with (fail)
  obtain ⟨s0, hs0⟩ : ∃ s0, s0 = w.heap.size := ⟨_, rfl⟩
  obtain ⟨W, hW⟩ : ∃ W, W = (w.alloc (.cells #[.slice p C.meters.length c, .slice q C.extra.length d, .int .i64 C.frm, .int .i64 C.tto] 25)).alloc (.cells #[.int .i64 t, .int .i64 f] 27) := ⟨_, rfl⟩
  have m0 : W.heap[s0]? = some (.cells #[.slice p C.meters.length c, .slice q C.extra.length d, .int .i64 C.frm, .int .i64 C.tto] 25) := by rw [hs0, hW, Below.heap_alloc _ _ _ (by rw [size_alloc]; omega)]; exact heap_new _ _
  have m1 : W.heap[s0 + 1]? = some (.cells #[.int .i64 t, .int .i64 f] 27) := by rw [hs0, hW]; exact heap_new2 _ _ _
  have hE : Ext w W := by rw [hW]; exact Ext.alloc (Ext.alloc (Ext.refl _) _) _
  rw [← hs0, ← hW]
  obtain ⟨s1, hs1⟩ : ∃ s1, s1 = s0 + 1 := ⟨_, rfl⟩
  rw [← hs1] at m1 ⊢
  have a0 := ExtW.cell (v := .slice p C.meters.length c) (cell_of_heap m0 0)
  have a1 := ExtW.cell (v := .slice q C.extra.length d) (cell_of_heap m0 1)
  have a2 := ExtW.cell (v := .int .i64 C.frm) (cell_of_heap m0 2)
  have a3 := ExtW.cell (v := .int .i64 C.tto) (cell_of_heap m0 3)
  have b0 := ExtW.cell (v := .int .i64 t) (cell_of_heap m1 0)
  have b1 := ExtW.cell (v := .int .i64 f) (cell_of_heap m1 1)
  have HM0 := Lib.hid m0
  have HM1 := Lib.hid m1
  have HE := Lib.hid hE
  have HS0 := Lib.hid hs0
  have HS1 := Lib.hid hs1
  have HVW := Lib.hid (fun y (h : Ext W y) => HV.out.ext (HE.out.trans h))
  have HTW := Lib.hid (HT.out.ext HE.out)
  have HWK := Lib.hid (fun x : ExtW W => ExtW.callX (x := x) (works06 x.w (HTW.out.ext x.h)))
  have HRD := Lib.hid (fun x : ExtW W => ExtW.callX (x := x) (ready06 C _ x.w (HVW.out _ x.h)))
  obtain ⟨y0, hy0⟩ := ExtW.of (Ext.refl W)
  clear hW m0 m1 hE hs0 hs1
  conv => arg 5; rw [hy0]
  clear hy0
  obtain ⟨b, hb⟩ : ∃ b, readyC C = b := ⟨_, rfl⟩
  rw [hb] at HRD
  cases b
  case false =>
    clear hb
    go_wp2_with (first
    | (go_at_call 6; refine (HRD.out _).mono ?_; rintro e w2 ⟨rfl, xr, rfl, -⟩)
    | (go_at_call 7; refine (HIT.out _).mono ?_; rintro e w2 ⟨rfl, xi, rfl, -⟩)
    | (go_at_call 8; refine (HIF.out _).mono ?_; rintro e w2 ⟨rfl, xf, rfl, -⟩)
    | (go_at_call 9; refine (HWK.out _).mono ?_; rintro e w2 ⟨rfl, xw, rfl, -⟩))
    go_ret
    exact RetE.fin (HE.out.trans xw.h) rfl
  obtain ⟨hfar, hC⟩ := readyC_iff.1 hb
  have HSM := Lib.hid (farC_sm hfar)
  have HC := Lib.hid hC
  have hn6 := hC.nm
  clear hb hfar hC
  have HIT := Lib.hid (fun x : ExtW W => ExtW.callX (x := x) (rIsTitle06 C t _ x.w (HVW.out _ x.h) (by omega)))
  have HIF := Lib.hid (fun x : ExtW W => ExtW.callX (x := x) (rIsRank06 C f _ x.w (HVW.out _ x.h) (by omega)))
  obtain ⟨bt, hbt⟩ : ∃ b, isTB C t = b := ⟨_, rfl⟩
  obtain ⟨bf, hbf⟩ : ∃ b, isFB C f = b := ⟨_, rfl⟩
  rw [hbt] at HIT
  rw [hbf] at HIF
  have HBT := Lib.hid hbt
  have HBF := Lib.hid hbf
  clear hbt hbf
  cases bt
  case false =>
    go_wp2_with (first
    | (go_at_call 6; refine (HRD.out _).mono ?_; rintro e w2 ⟨rfl, xr, rfl, -⟩)
    | (go_at_call 7; refine (HIT.out _).mono ?_; rintro e w2 ⟨rfl, xi, rfl, -⟩)
    | (go_at_call 8; refine (HIF.out _).mono ?_; rintro e w2 ⟨rfl, xf, rfl, -⟩)
    | (go_at_call 9; refine (HWK.out _).mono ?_; rintro e w2 ⟨rfl, xw, rfl, -⟩))
    go_ret
    exact RetE.fin (HE.out.trans xw.h) rfl
  cases bf
  case false =>
    go_wp2_with (first
    | (go_at_call 6; refine (HRD.out _).mono ?_; rintro e w2 ⟨rfl, xr, rfl, -⟩)
    | (go_at_call 7; refine (HIT.out _).mono ?_; rintro e w2 ⟨rfl, xi, rfl, -⟩)
    | (go_at_call 8; refine (HIF.out _).mono ?_; rintro e w2 ⟨rfl, xf, rfl, -⟩)
    | (go_at_call 9; refine (HWK.out _).mono ?_; rintro e w2 ⟨rfl, xw, rfl, -⟩))
    go_ret
    exact RetE.fin (HE.out.trans xw.h) rfl
  by_cases hm0 : more < 0
  · go_wp2_with (first
    | (go_at_call 6; refine (HRD.out _).mono ?_; rintro e w2 ⟨rfl, xr, rfl, -⟩)
    | (go_at_call 7; refine (HIT.out _).mono ?_; rintro e w2 ⟨rfl, xi, rfl, -⟩)
    | (go_at_call 8; refine (HIF.out _).mono ?_; rintro e w2 ⟨rfl, xf, rfl, -⟩)
    | (go_at_call 9; refine (HWK.out _).mono ?_; rintro e w2 ⟨rfl, xw, rfl, -⟩))
    go_ret
    exact RetE.fin (HE.out.trans xw.h) rfl
  obtain ⟨ht0, ht1⟩ := isTB_iff.1 HBT.out
  obtain ⟨hf1, hf2⟩ := isFB_iff.1 HBF.out
  obtain ⟨tn, htn⟩ : ∃ tn : Nat, t = tn := ⟨t.toNat, by omega⟩
  subst htn
  have hxl : tn < C.extra.length := by have := HC.out.nx; omega
  obtain ⟨qb, qo, hqe, hx⟩ := (HVW.out W (Ext.refl W)).ints.at tn hxl
  subst hqe
  have hxb := HC.out.ex _ (List.getElem_mem hxl)
  obtain ⟨ex, hex⟩ : ∃ ex, ex = C.extra[tn] := ⟨_, rfl⟩
  rw [← hex] at hx hxb
  have ax := ExtW.cell hx
  have hxl' : (tn : Int) < (C.extra.length : Int) := by omega
  have HX := Lib.hid hx
  have HEX := Lib.hid hex
  have HXB := Lib.hid hxb
  clear hx hex
  by_cases hm1 : 999 < ex + more
  · by_cases hm2 : 1000 < more
    · go_wp2_with (first
    | (go_at_call 6; refine (HRD.out _).mono ?_; rintro e w2 ⟨rfl, xr, rfl, -⟩)
    | (go_at_call 7; refine (HIT.out _).mono ?_; rintro e w2 ⟨rfl, xi, rfl, -⟩)
    | (go_at_call 8; refine (HIF.out _).mono ?_; rintro e w2 ⟨rfl, xf, rfl, -⟩)
    | (go_at_call 9; refine (HWK.out _).mono ?_; rintro e w2 ⟨rfl, xw, rfl, -⟩))
      all_goals
        go_ret
        exact RetE.fin (HE.out.trans xw.h) rfl
    · go_wp2_with (first
    | (go_at_call 6; refine (HRD.out _).mono ?_; rintro e w2 ⟨rfl, xr, rfl, -⟩)
    | (go_at_call 7; refine (HIT.out _).mono ?_; rintro e w2 ⟨rfl, xi, rfl, -⟩)
    | (go_at_call 8; refine (HIF.out _).mono ?_; rintro e w2 ⟨rfl, xf, rfl, -⟩)
    | (go_at_call 9; refine (HWK.out _).mono ?_; rintro e w2 ⟨rfl, xw, rfl, -⟩))
      all_goals
        go_ret
        exact RetE.fin (HE.out.trans xw.h) rfl
  have HCP := Lib.hid (fun x : ExtW W => Copy06 C _ x.w (HVW.out x.w x.h) HSM.out)
  go_upto_region 4 with (first
    | (go_at_call 6; refine (HRD.out _).mono ?_; rintro e w2 ⟨rfl, xr, rfl, -⟩)
    | (go_at_call 7; refine (HIT.out _).mono ?_; rintro e w2 ⟨rfl, xi, rfl, -⟩)
    | (go_at_call 8; refine (HIF.out _).mono ?_; rintro e w2 ⟨rfl, xf, rfl, -⟩)
    | (go_at_call 16; refine (HCP.out _).mono ?_; rintro e w2 ⟨u, g, cx, rfl, hE2, hG2⟩; have HG2 := Lib.hid hG2; obtain ⟨⟨vs, hM2⟩, hX2⟩ := hG2; obtain ⟨pu, cu, rfl, -⟩ := hM2.mts; have HE2 := Lib.hid hE2; clear hE2 hM2 hX2))
  obtain ⟨s7, hs7⟩ : ∃ s7, s7 = w2.heap.size := ⟨_, rfl⟩
  obtain ⟨W7, hW7⟩ : ∃ W7, W7 = w2.alloc (.cells #[.slice pu C.meters.length cu, .slice (some ⟨g, 0, none⟩) C.extra.length cx, .int .i64 C.frm, .int .i64 C.tto] 25) := ⟨_, rfl⟩
  have hE7 : Ext W W7 := by rw [hW7]; exact (xf.h.trans HE2.out).alloc _
  have hG7 : ChG W7 xf.w.heap.size (.slice pu C.meters.length cu) g cx C := by rw [hW7]; exact HG2.out.ext ((Ext.refl _).alloc _)
  have hgl := HG2.out.le
  have hxs := xf.h.size
  have hb0 := (Array.getElem?_eq_some_iff.1 HM0.out).1
  have hb1 := (Array.getElem?_eq_some_iff.1 HM1.out).1
  have m0 := heap_ext3 HM0.out hE7
  have m1 := heap_ext3 HM1.out hE7
  have m7 : W7.heap[s7]? = some (.cells #[.slice pu C.meters.length cu, .slice (some ⟨g, 0, none⟩) C.extra.length cx, .int .i64 C.frm, .int .i64 C.tto] 25) := by rw [hW7, hs7]; exact heap_new _ _
  have HNE := Lib.hid (show s0 ≠ g ∧ s1 ≠ g ∧ s7 ≠ g ∧ W.heap.size ≤ g ∧ g < s7 from ⟨by omega, by omega, by omega, by omega, by omega⟩)
  rw [← hs7, ← hW7]
  have HM0 := Lib.hid m0
  have HM1 := Lib.hid m1
  have HM7 := Lib.hid m7
  have HE7 := Lib.hid hE7
  have HG7 := Lib.hid hG7
  have c7 : W7.cell? ⟨s7, 1, none⟩ = some (.slice (some ⟨g, 0, none⟩) C.extra.length cx) := cell_of_heap m7 1
  have cb : W7.cell? ⟨s1, 0, none⟩ = some (.int .i64 (tn : Int)) := cell_of_heap m1 0
  obtain ⟨cg, fg⟩ := hG7.cell hxl
  rw [← HEX.out] at cg
  have hwr : IntKind.i64.wrap (ex + more) = ex + more := IntWalk.i64_in _ (by omega)
  clear hW7 hs7 hE7 hG7 hgl hxs hb0 hb1 m0 m1 m7 a0 a1 a2 a3 b0 b1 ax HRD HIT HIF HCP HG2 HE2 HWK
  go_upto_region 5 with (fail)
  obtain ⟨W8, hW8⟩ : ∃ W8, W8 = W7.setCell ⟨g, tn, none⟩ (.int .i64 (ex + more)) := ⟨_, rfl⟩
  obtain ⟨hE8, m0, m1, m7, hG8⟩ := stepX (i := tn) (ex + more) HE7.out HNE.out HM0.out HM1.out HM7.out HG7.out
  rw [← hW8] at hE8 m0 m1 m7 hG8
  rw [← hW8]
  clear c7 cb cg fg hwr hW8
  have a0 := ExtW.cell (v := .slice p C.meters.length c) (cell_of_heap m0 0)
  have a1 := ExtW.cell (v := .slice (some ⟨qb, qo, none⟩) C.extra.length d) (cell_of_heap m0 1)
  have a2 := ExtW.cell (v := .int .i64 C.frm) (cell_of_heap m0 2)
  have a3 := ExtW.cell (v := .int .i64 C.tto) (cell_of_heap m0 3)
  have b0 := ExtW.cell (v := .int .i64 (tn : Int)) (cell_of_heap m1 0)
  have b1 := ExtW.cell (v := .int .i64 f) (cell_of_heap m1 1)
  have k0 := ExtW.cell (v := .slice pu C.meters.length cu) (cell_of_heap m7 0)
  have k1 := ExtW.cell (v := .slice (some ⟨g, 0, none⟩) C.extra.length cx) (cell_of_heap m7 1)
  have k2 := ExtW.cell (v := .int .i64 C.frm) (cell_of_heap m7 2)
  have k3 := ExtW.cell (v := .int .i64 C.tto) (cell_of_heap m7 3)
  have HM0 := Lib.hid m0
  have HM1 := Lib.hid m1
  have HM7 := Lib.hid m7
  have HE8 := Lib.hid hE8
  have HG8 := Lib.hid hG8
  have hxb := HXB.out
  obtain ⟨z, hz⟩ : ∃ z, z = errC C true := ⟨_, rfl⟩
  have het : errT C tn = z := by unfold errT; rw [HBT.out]; exact hz.symm
  have hen : errN C tn f = z := by unfold errN; rw [HBT.out, HBF.out]; exact hz.symm
  have heo : errT (exS C tn (ex + more)) tn = z := by unfold errT; rw [show isTB (exS C tn (ex + more)) tn = isTB C tn from rfl, HBT.out, exS_err HC.out (by omega)]; exact hz.symm
  obtain ⟨lo, hlo⟩ : ∃ lo, lo = rankLoA C tn := ⟨_, rfl⟩
  obtain ⟨hi, hhi⟩ : ∃ hi, hi = rankHiA C tn := ⟨_, rfl⟩
  obtain ⟨lp, hlp⟩ : ∃ lo, lo = rankLoA (exS C tn (ex + more)) tn := ⟨_, rfl⟩
  obtain ⟨hp, hhp⟩ : ∃ hi, hi = rankHiA (exS C tn (ex + more)) tn := ⟨_, rfl⟩
  obtain ⟨nd, hnd⟩ : ∃ n, n = needsA C tn f := ⟨_, rfl⟩
  have HTX := Lib.hid (fun x : ExtW W8 => HTW.out.ext (HE8.out.trans x.h))
  have HVX := Lib.hid (fun x : ExtW W8 => HVW.out x.w (HE8.out.trans x.h))
  have HRK := Lib.hid (fun x : ExtW W8 => ExtW.callX (v := .tuple #[.agg #[.int .i64 lo, .int .i64 hi], .int .i64 z]) (x := x) (by
    have h := Rank06 C tn _ x.w (HVX.out x) HSM.out (HTX.out x)
    rw [← hlo, ← hhi, het] at h
    exact h))
  have HRO := Lib.hid (fun x : ExtW W8 => ExtW.callX (v := .tuple #[.agg #[.int .i64 lp, .int .i64 hp], .int .i64 z]) (x := x) (by
    have h := Rank06 (exS C tn (ex + more)) tn _ x.w ((HG8.out.ext x.h).chS) (exS_sm HSM.out _ _) (HTX.out x)
    rw [← hlp, ← hhp, heo] at h
    exact h))
  have HND := Lib.hid (fun x : ExtW W8 => ExtW.callX (v := .tuple #[.int .i64 nd, .int .i64 z]) (x := x) (by
    have h := Needs06 C tn f _ x.w (HVX.out x) HSM.out (HTX.out x) HWF.out
    rw [← hnd, hen] at h
    exact h))
  have HWK := Lib.hid (fun x : ExtW W8 => ExtW.callX (x := x) (works06 x.w (HTX.out x)))
  have HKN := Lib.hid (fun x : ExtW W8 => ExtW.callX (v := .bool true) (x := x) (by
    have h := isKnown06 z x.w
    rw [show (decide (z = 0) || decide (z = 3)) = true from by rcases errC_two HC.out with e | e <;> rw [hz, e] <;> rfl] at h
    exact h))
  have HZ := Lib.hid hz
  have HVAL := Lib.hid (show lo = rankLoA C tn ∧ hi = rankHiA C tn ∧ lp = rankLoA (exS C tn (ex + more)) tn ∧ hp = rankHiA (exS C tn (ex + more)) tn ∧ nd = needsA C tn f from ⟨hlo, hhi, hlp, hhp, hnd⟩)
  have HERR := Lib.hid (show errT C tn = z ∧ errN C tn f = z ∧ errT (exS C tn (ex + more)) tn = z from ⟨het, hen, heo⟩)
  obtain ⟨y8, hy8⟩ := ExtW.of (Ext.refl W8)
  clear m0 m1 m7 hE8 hG8 hxb hz het hen heo hlo hhi hlp hhp hnd
  conv => arg 5; rw [hy8]
  clear hy8
  go_upto_region 6 with (first
    | (go_at_call 10; refine (HRK.out _).mono ?_; rintro e w2 ⟨rfl, x2, rfl, -⟩))
  obtain ⟨s8, hs8⟩ : ∃ s8, s8 = x2.w.heap.size := ⟨_, rfl⟩
  obtain ⟨W9, hW9⟩ : ∃ W9, W9 = x2.w.alloc (.cells #[.int .i64 lo, .int .i64 hi] 32) := ⟨_, rfl⟩
  have hE9 : Ext W8 W9 := by rw [hW9]; exact x2.h.alloc _
  have m8 : W9.heap[s8]? = some (.cells #[.int .i64 lo, .int .i64 hi] 32) := by rw [hW9, hs8]; exact heap_new _ _
  rw [← hs8, ← hW9]
  obtain ⟨y9, hy9⟩ := ExtW.of hE9
  conv => arg 5; rw [hy9]
  rw [hy9] at m8
  have HM8 := Lib.hid m8
  have HS8 := Lib.hid (show s8 < y9.w.heap.size from (Array.getElem?_eq_some_iff.1 m8).1)
  clear hs8 hW9 hE9 hy9 m8
  go_upto_region 7 with (first
    | (go_at_call 10; refine (HRO.out _).mono ?_; rintro e w2 ⟨rfl, x3, rfl, hE3⟩))
  obtain ⟨s10, hs10⟩ : ∃ s10, s10 = x3.w.heap.size := ⟨_, rfl⟩
  obtain ⟨W10, hW10⟩ : ∃ W10, W10 = x3.w.alloc (.cells #[.int .i64 lp, .int .i64 hp] 32) := ⟨_, rfl⟩
  have hE10 : Ext W8 W10 := by rw [hW10]; exact x3.h.alloc _
  have m10 : W10.heap[s10]? = some (.cells #[.int .i64 lp, .int .i64 hp] 32) := by rw [hW10, hs10]; exact heap_new _ _
  have m8 : W10.heap[s8]? = some (.cells #[.int .i64 lo, .int .i64 hi] 32) := by rw [hW10]; exact heap_ext3 HM8.out (hE3.alloc _)
  rw [← hs10, ← hW10]
  obtain ⟨y10, hy10⟩ := ExtW.of hE10
  conv => arg 5; rw [hy10]
  rw [hy10] at m8 m10
  have HM8 := Lib.hid m8
  have HM10 := Lib.hid m10
  clear hs10 hW10 hE10 hy10 m8 m10 hE3
  go_upto_region 8 with (first
    | (go_at_call 17; refine (HND.out _).mono ?_; rintro e w2 ⟨rfl, x4, rfl, hE4⟩))
  by_cases hz : z = 0
  case neg =>
    have hz3 : z = 3 := by have := errC_two HC.out; rw [← HZ.out] at this; omega
    subst hz3
    clear hz
    go_wp2_with (first
      | (go_at_call 13; refine (HKN.out _).mono ?_; rintro e w2 ⟨rfl, x6, rfl, -⟩)
      | (go_at_call 9; refine (HWK.out _).mono ?_; rintro e w2 ⟨rfl, xw, rfl, -⟩))
    go_ret
    exact RetE.fin (HE.out.trans (HE8.out.trans xw.h)) rfl
  subst hz
  obtain ⟨T, hTT⟩ : ∃ T, T = tabC C := ⟨_, rfl⟩
  obtain ⟨hCv, -, hso⟩ := errC_0 HZ.out.symm
  have hG := tabC_ok hCv hso
  have htl := tabC_len C
  rw [← hTT] at hG htl
  have HG := Lib.hid hG
  have htT : tn < T.length := by omega
  obtain ⟨vlo, vhi, vlp, vhp, vnd⟩ := HVAL.out
  obtain ⟨het, hen, heo⟩ := HERR.out
  have hexC : exC C tn = ex := by rw [exC_get hxl, HEX.out]
  have hTW : ∀ v, tabC (exS C tn v) = withT T tn (v - ex) := fun v => by rw [exS_tab HC.out.nx (by omega), hexC, ← hTT]
  have hlo : lo = (rkLo T tn : Nat) := by rw [vlo]; unfold rankLoA; rw [het, okN_0 rfl, ← hTT]; rfl
  have hhi : hi = (rkHi T tn : Nat) := by rw [vhi]; unfold rankHiA; rw [het, okN_0 rfl, ← hTT]; rfl
  have hlp : lp = (rkLo (withT T tn more) tn : Nat) := by rw [vlp]; unfold rankLoA; rw [heo, okN_0 rfl, hTW, show ex + more - ex = more by omega]; rfl
  have hhp : hp = (rkHi (withT T tn more) tn : Nat) := by rw [vhp]; unfold rankHiA; rw [heo, okN_0 rfl, hTW, show ex + more - ex = more by omega]; rfl
  have hnd : nd = needV T tn f := by rw [vnd]; unfold needsA; rw [hen, okN_0 rfl, ← hTT]; rfl
  obtain ⟨hisn, hnb⟩ := need_bd hG htT hf1
  rw [← hnd] at hisn hnb
  have hn0 := hisn.1
  have g1 : ¬lo < lp := by have := rkLo_with hG.ok htT (m := more) (by omega); omega
  have g2 : ¬hi < hp := by have := rkHi_with hG.ok htT (m := more) (by omega); omega
  have g3 : ¬nd < 0 := by omega
  have g4 : ¬(10000 : Int) < nd := by omega
  have HTW2 := Lib.hid hTW
  have HISN := Lib.hid hisn
  have HTT := Lib.hid hTT
  have HHT := Lib.hid htT
  clear hTT hCv hso hG htl vlo vhi vlp vhp vnd het hen heo hexC hTW hlo hhi hlp hhp hnd hisn htT a0 a1 a2 a3 b0 b1 k0 k1 k2 k3 HRK HRO HND HWK HKN
  obtain ⟨W11, hW11⟩ : ∃ W11, W11 = x4.w := ⟨_, rfl⟩
  have hE11 : Ext W8 W11 := by rw [hW11]; exact x4.h
  have m0 := heap_ext3 HM0.out hE11
  have m1 := heap_ext3 HM1.out hE11
  have m7 := heap_ext3 HM7.out hE11
  have m8 : W11.heap[s8]? = some (.cells #[.int .i64 lo, .int .i64 hi] 32) := by rw [hW11]; exact heap_ext3 HM8.out hE4
  have m10 : W11.heap[s10]? = some (.cells #[.int .i64 lp, .int .i64 hp] 32) := by rw [hW11]; exact heap_ext3 HM10.out hE4
  rw [← hW11]
  have a0 := ExtW.cell (v := .slice p C.meters.length c) (cell_of_heap m0 0)
  have a1 := ExtW.cell (v := .slice (some ⟨qb, qo, none⟩) C.extra.length d) (cell_of_heap m0 1)
  have a2 := ExtW.cell (v := .int .i64 C.frm) (cell_of_heap m0 2)
  have a3 := ExtW.cell (v := .int .i64 C.tto) (cell_of_heap m0 3)
  have b0 := ExtW.cell (v := .int .i64 (tn : Int)) (cell_of_heap m1 0)
  have b1 := ExtW.cell (v := .int .i64 f) (cell_of_heap m1 1)
  have k0 := ExtW.cell (v := .slice pu C.meters.length cu) (cell_of_heap m7 0)
  have k1 := ExtW.cell (v := .slice (some ⟨g, 0, none⟩) C.extra.length cx) (cell_of_heap m7 1)
  have k2 := ExtW.cell (v := .int .i64 C.frm) (cell_of_heap m7 2)
  have k3 := ExtW.cell (v := .int .i64 C.tto) (cell_of_heap m7 3)
  have d0 := ExtW.cell (v := .int .i64 lo) (cell_of_heap m8 0)
  have d1 := ExtW.cell (v := .int .i64 hi) (cell_of_heap m8 1)
  have d2 := ExtW.cell (v := .int .i64 lp) (cell_of_heap m10 0)
  have d3 := ExtW.cell (v := .int .i64 hp) (cell_of_heap m10 1)
  have ax := ExtW.cell ((HE8.out.trans hE11).cell HX.out)
  have HM0 := Lib.hid m0
  have HM1 := Lib.hid m1
  have HM7 := Lib.hid m7
  have HEB := Lib.hid (HE8.out.trans hE11)
  have HGB := Lib.hid (HG8.out.ext hE11)
  have HWK := Lib.hid (fun x : ExtW W11 => ExtW.callX (x := x) (works06 x.w (HTW.out.ext (HEB.out.trans x.h))))
  have HKN := Lib.hid (fun x : ExtW W11 => ExtW.callX (v := .bool true) (x := x) (isKnown06 0 x.w))
  have hxb := HXB.out
  have hwr : IntKind.i64.wrap (ex + nd) = ex + nd := IntWalk.i64_in _ (by omega)
  obtain ⟨y11, hy11⟩ := ExtW.of (Ext.refl W11)
  clear m0 m1 m7 m8 m10 hE11 hW11 hE4 HM8 HM10 HG8 HE8 HTX HVX
  conv => arg 5; rw [hy11]
  clear hy11
  by_cases hbig : 999 < ex + nd
  · go_wp2_with (first
      | (go_at_call 13; refine (HKN.out _).mono ?_; rintro e w2 ⟨rfl, x6, rfl, -⟩)
      | (go_at_call 9; refine (HWK.out _).mono ?_; rintro e w2 ⟨rfl, xw, rfl, -⟩))
    go_ret
    exact RetE.fin (HE.out.trans (HEB.out.trans xw.h)) rfl
  go_upto_region 16 with (first
    | (go_at_call 13; refine (HKN.out _).mono ?_; rintro e w2 ⟨rfl, x6, rfl, -⟩))
  obtain ⟨W15, hW15⟩ : ∃ W15, W15 = x6.w := ⟨_, rfl⟩
  have hE15 : Ext W11 W15 := by rw [hW15]; exact x6.h
  rw [← hW15]
  clear hW15 a0 a1 a2 a3 b0 b1 k0 k1 k2 k3 d0 d1 d2 d3 ax g1 g2 g3 g4 HKN HWK
  obtain ⟨W16, hW16⟩ : ∃ W16, W16 = W15.drew := ⟨_, rfl⟩
  have hE16 : Ext W11 W16 := by rw [hW16]; exact hE15.drew
  have a1 : W15.cell? ⟨s0, 1, none⟩ = some (.slice (some ⟨qb, qo, none⟩) C.extra.length d) := hE15.cell (cell_of_heap HM0.out 1)
  have b0 : W15.cell? ⟨s1, 0, none⟩ = some (.int .i64 (tn : Int)) := hE15.cell (cell_of_heap HM1.out 0)
  have k1 : W15.cell? ⟨s7, 1, none⟩ = some (.slice (some ⟨g, 0, none⟩) C.extra.length cx) := hE15.cell (cell_of_heap HM7.out 1)
  have ax : W15.cell? ⟨qb, qo + tn, none⟩ = some (.int .i64 ex) := (HEB.out.trans hE15).cell HX.out
  go_still_tail 13, (by kernel_rfl)
  change wpList _ _ _ _ _ W15.drew
  rw [← hW16]
  clear a1 b0 k1 ax hW16
  have a1 : W16.cell? ⟨s0, 1, none⟩ = some (.slice (some ⟨qb, qo, none⟩) C.extra.length d) := hE16.cell (cell_of_heap HM0.out 1)
  have b0 : W16.cell? ⟨s1, 0, none⟩ = some (.int .i64 (tn : Int)) := hE16.cell (cell_of_heap HM1.out 0)
  have k1 : W16.cell? ⟨s7, 1, none⟩ = some (.slice (some ⟨g, 0, none⟩) C.extra.length cx) := hE16.cell (cell_of_heap HM7.out 1)
  have ax : W16.cell? ⟨qb, qo + tn, none⟩ = some (.int .i64 ex) := (HEB.out.trans hE16).cell HX.out
  obtain ⟨cg, fg⟩ := (HGB.out.ext hE16).cell (i := tn) (by simpa [exS] using hxl)
  rw [exS_get hxl] at cg
  go_upto_region 17 with (fail)
  obtain ⟨W17, hW17⟩ : ∃ W17, W17 = W16.setCell ⟨g, tn, none⟩ (.int .i64 (ex + nd)) := ⟨_, rfl⟩
  obtain ⟨hE17, m0, m1, m7, hG17⟩ := stepX (i := tn) (ex + nd) (HEB.out.trans hE16) HNE.out (heap_ext3 HM0.out hE16) (heap_ext3 HM1.out hE16) (heap_ext3 HM7.out hE16) (HGB.out.ext hE16)
  rw [exS_set] at hG17
  rw [← hW17] at hE17 m0 m1 m7 hG17
  rw [← hW17]
  clear a1 b0 k1 ax cg fg hW17 hE16 hE15
  have a0 := ExtW.cell (v := .slice p C.meters.length c) (cell_of_heap m0 0)
  have a1 := ExtW.cell (v := .slice (some ⟨qb, qo, none⟩) C.extra.length d) (cell_of_heap m0 1)
  have a2 := ExtW.cell (v := .int .i64 C.frm) (cell_of_heap m0 2)
  have a3 := ExtW.cell (v := .int .i64 C.tto) (cell_of_heap m0 3)
  have b0 := ExtW.cell (v := .int .i64 (tn : Int)) (cell_of_heap m1 0)
  have b1 := ExtW.cell (v := .int .i64 f) (cell_of_heap m1 1)
  have k0 := ExtW.cell (v := .slice pu C.meters.length cu) (cell_of_heap m7 0)
  have k1 := ExtW.cell (v := .slice (some ⟨g, 0, none⟩) C.extra.length cx) (cell_of_heap m7 1)
  have k2 := ExtW.cell (v := .int .i64 C.frm) (cell_of_heap m7 2)
  have k3 := ExtW.cell (v := .int .i64 C.tto) (cell_of_heap m7 3)
  have HM0 := Lib.hid m0
  have HM1 := Lib.hid m1
  have HM7 := Lib.hid m7
  have HEC := Lib.hid hE17
  have HGC := Lib.hid hG17
  have hv0 : 0 ≤ ex + nd ∧ ex + nd ≤ 999 := by omega
  obtain ⟨L, hL⟩ : ∃ L, L = topL (withT T tn nd) f := ⟨_, rfl⟩
  have hef : errF (exS C tn (ex + nd)) f = 0 := by unfold errF; rw [show isFB (exS C tn (ex + nd)) f = isFB C f from rfl, HBF.out, exS_err HC.out hv0]; exact HZ.out.symm
  have hta : topA (exS C tn (ex + nd)) f = L := by unfold topA; rw [hef, okL_0 rfl, HTW2.out, show ex + nd - ex = nd by omega, hL]
  have hin : inL L (tn : Int) = true := by rw [hL]; exact (top_with HG.out.ok HHT.out nd f).2 HISN.out.2.1
  have hl6 : L.length ≤ 6 := by rw [hL]; exact Nat.le_trans pick_max (by rw [withT_len]; exact HG.out.len)
  have hl7 : ¬(6 : Int) < (L.length : Int) := by omega
  have HTP := Lib.hid (fun x : ExtW W17 => ExtW.callL (l := L) (n := 0) (x := x) (by
    have h := Top06 (exS C tn (ex + nd)) f _ x.w ((HGC.out.ext x.h).chS) (exS_sm HSM.out _ _) (HTW.out.ext (HEC.out.trans x.h)) HWF.out
    rw [hef, hta] at h
    exact h))
  have HIN := Lib.hid (fun (x : ExtW W17) a b (h : IntsAt x.w a L) => ExtW.callX (v := .bool true) (x := x) (hin ▸ In02 a L b (tn : Int) x.w (by omega) h : Calls Tryd.prog 15 #[.slice a L.length b, .int .i64 (tn : Int)] x.w (RetE (.bool true) x.w)))
  have HWK := Lib.hid (fun x : ExtW W17 => ExtW.callX (x := x) (works06 x.w (HTW.out.ext (HEC.out.trans x.h))))
  obtain ⟨y17, hy17⟩ := ExtW.of (Ext.refl W17)
  clear m0 m1 m7 hE17 hG17 hef hta hin hl6 hL
  conv => arg 5; rw [hy17]
  clear hy17
  go_upto_region 20 with (first
    | (go_at_call 11; refine (HTP.out _).mono ?_; rintro e w2 ⟨pk, ck, rfl, x8, rfl, -, hk8, -⟩; have HK8 := Lib.hid hk8; clear hk8)
    | (go_at_call 15; refine (HIN.out _ _ _ HK8.out).mono ?_; rintro e w2 ⟨rfl, x9, rfl, -⟩))
  by_cases hn1 : nd = 0
  · go_wp2_with (first
      | (go_at_call 9; refine (HWK.out _).mono ?_; rintro e w2 ⟨rfl, xw, rfl, -⟩))
    go_ret
    exact RetE.fin (HE.out.trans (HEC.out.trans xw.h)) rfl
  obtain ⟨W20, hW20⟩ : ∃ W20, W20 = x9.w := ⟨_, rfl⟩
  have hE20 : Ext W17 W20 := by rw [hW20]; exact x9.h
  rw [← hW20]
  clear hW20 a0 a1 a2 a3 b0 b1 k0 k1 k2 k3 HTP HIN HWK hl7
  have b0 : W20.cell? ⟨s1, 0, none⟩ = some (.int .i64 (tn : Int)) := hE20.cell (cell_of_heap HM1.out 0)
  have k1 : W20.cell? ⟨s7, 1, none⟩ = some (.slice (some ⟨g, 0, none⟩) C.extra.length cx) := hE20.cell (cell_of_heap HM7.out 1)
  obtain ⟨cg, fg⟩ := (HGC.out.ext hE20).cell (i := tn) (by simpa [exS] using hxl)
  rw [exS_get hxl] at cg
  have hwr : IntKind.i64.wrap (ex + nd - 1) = ex + nd - 1 := IntWalk.i64_in _ (by omega)
  go_upto_region 23 with (fail)
  obtain ⟨W23, hW23⟩ : ∃ W23, W23 = W20.setCell ⟨g, tn, none⟩ (.int .i64 (ex + nd - 1)) := ⟨_, rfl⟩
  obtain ⟨hE23, m0, m1, m7, hG23⟩ := stepX (i := tn) (ex + nd - 1) (HEC.out.trans hE20) HNE.out (heap_ext3 HM0.out hE20) (heap_ext3 HM1.out hE20) (heap_ext3 HM7.out hE20) (HGC.out.ext hE20)
  rw [exS_set] at hG23
  rw [← hW23] at hE23 m0 m1 m7 hG23
  rw [← hW23]
  clear b0 k1 cg fg hW23 hE20
  have a0 := ExtW.cell (v := .slice p C.meters.length c) (cell_of_heap m0 0)
  have a1 := ExtW.cell (v := .slice (some ⟨qb, qo, none⟩) C.extra.length d) (cell_of_heap m0 1)
  have a2 := ExtW.cell (v := .int .i64 C.frm) (cell_of_heap m0 2)
  have a3 := ExtW.cell (v := .int .i64 C.tto) (cell_of_heap m0 3)
  have b0 := ExtW.cell (v := .int .i64 (tn : Int)) (cell_of_heap m1 0)
  have b1 := ExtW.cell (v := .int .i64 f) (cell_of_heap m1 1)
  have k0 := ExtW.cell (v := .slice pu C.meters.length cu) (cell_of_heap m7 0)
  have k1 := ExtW.cell (v := .slice (some ⟨g, 0, none⟩) C.extra.length cx) (cell_of_heap m7 1)
  have k2 := ExtW.cell (v := .int .i64 C.frm) (cell_of_heap m7 2)
  have k3 := ExtW.cell (v := .int .i64 C.tto) (cell_of_heap m7 3)
  have HED := Lib.hid hE23
  have HGD := Lib.hid hG23
  have hv0 : 0 ≤ ex + nd - 1 ∧ ex + nd - 1 ≤ 999 := by have := HXB.out; omega
  obtain ⟨L2, hL⟩ : ∃ L2, L2 = topL (withT T tn (nd - 1)) f := ⟨_, rfl⟩
  have hef : errF (exS C tn (ex + nd - 1)) f = 0 := by unfold errF; rw [show isFB (exS C tn (ex + nd - 1)) f = isFB C f from rfl, HBF.out, exS_err HC.out hv0]; exact HZ.out.symm
  have hta : topA (exS C tn (ex + nd - 1)) f = L2 := by unfold topA; rw [hef, okL_0 rfl, HTW2.out, show ex + nd - 1 - ex = nd - 1 by omega, hL]
  have hin : inL L2 (tn : Int) = false := by
    rw [hL, Bool.eq_false_iff]
    intro h
    exact HISN.out.2.2 (nd - 1) (by omega) (by omega) ((top_with HG.out.ok HHT.out (nd - 1) f).1 h)
  have hl6 : L2.length ≤ 6 := by rw [hL]; exact Nat.le_trans pick_max (by rw [withT_len]; exact HG.out.len)
  have hl7 : (L2.length : Int) ≤ 6 := by omega
  have HTP := Lib.hid (fun x : ExtW W23 => ExtW.callL (l := L2) (n := 0) (x := x) (by
    have h := Top06 (exS C tn (ex + nd - 1)) f _ x.w ((HGD.out.ext x.h).chS) (exS_sm HSM.out _ _) (HTW.out.ext (HED.out.trans x.h)) HWF.out
    rw [hef, hta] at h
    exact h))
  have HIN := Lib.hid (fun (x : ExtW W23) a b (h : IntsAt x.w a L2) => ExtW.callX (v := .bool false) (x := x) (hin ▸ In02 a L2 b (tn : Int) x.w (by omega) h : Calls Tryd.prog 15 #[.slice a L2.length b, .int .i64 (tn : Int)] x.w (RetE (.bool false) x.w)))
  have HWK := Lib.hid (fun x : ExtW W23 => ExtW.callX (x := x) (works06 x.w (HTW.out.ext (HED.out.trans x.h))))
  obtain ⟨y23, hy23⟩ := ExtW.of (Ext.refl W23)
  clear m0 m1 m7 hE23 hG23 hef hta hin hl6 hL
  conv => arg 5; rw [hy23]
  clear hy23
  go_wp2_with (first
    | (go_at_call 11; refine (HTP.out _).mono ?_; rintro e w2 ⟨pm, cm, rfl, x10, rfl, -, hk8, -⟩; have HK10 := Lib.hid hk8; clear hk8)
    | (go_at_call 15; refine (HIN.out _ _ _ HK10.out).mono ?_; rintro e w2 ⟨rfl, x11, rfl, -⟩)
    | (go_at_call 9; refine (HWK.out _).mono ?_; rintro e w2 ⟨rfl, xw, rfl, -⟩))
  go_ret
  exact RetE.fin (HE.out.trans (HED.out.trans xw.h)) rfl
end Go.Proofs.YtaoamnhchidjfaaDoor
