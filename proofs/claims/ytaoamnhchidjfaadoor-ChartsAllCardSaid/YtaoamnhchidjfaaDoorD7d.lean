
/- The walk of ChartsAll. -/
import Derived.Test.YtaoamnhchidjfaaDoorC8g
import Derived.Test.YtaoamnhchidjfaaDoorD7a
import Derived.Test.YtaoamnhchidjfaaDoorD6c
namespace Go.Proofs.YtaoamnhchidjfaaDoor
open Go.RowKit

theorem topA_len (C : Ch) (f : Int) : (topA C f).length ≤ C.meters.length ∧ (mayA C f).length ≤ C.meters.length := by
  have h1 : (topL (tabC C) f).length ≤ C.meters.length := by rw [← tabC_len C]; exact pick_max
  have h2 : (mayL (tabC C) f).length ≤ C.meters.length := by rw [← tabC_len C]; exact pick_max
  unfold topA mayA okL
  constructor
  · split
    · exact h1
    · simp
  · split
    · exact h2
    · simp
theorem ChG.chA {w : World} {B : Nat} {u : Value} {g cx : Nat} {m : Int} {C : Ch} (h : ChG w B u g cx (shC C m)) : ChV w (.agg #[u, .slice (some ⟨g, 0, none⟩) C.extra.length cx, .int .i64 C.frm, .int .i64 C.tto]) (shC C m) := by
  have h1 := h.ch
  have e : (shC C m).extra.length = C.extra.length := by simp [shC]
  rw [e] at h1
  exact h1
theorem cellLift {a b : World} {ad : Addr} {v : Value} (h : ∀ x : ExtW a, x.w.cell? ad = some v) (hE : Ext a b) : ∀ x : ExtW b, x.w.cell? ad = some v := fun x => h ⟨x.w, hE.trans x.h⟩
/-- an extra of the copy is written: what stands -/
theorem stepX {W y : World} {s0 s1 s7 g B i cx : Nat} {o0 o1 o7 : Obj} {u : Value} {C : Ch} (v : Int) (hE : Ext W y) (hne : s0 ≠ g ∧ s1 ≠ g ∧ s7 ≠ g ∧ W.heap.size ≤ g ∧ g < s7) (m0 : y.heap[s0]? = some o0) (m1 : y.heap[s1]? = some o1) (m7 : y.heap[s7]? = some o7) (hG : ChG y B u g cx C) :
    Ext W (y.setCell ⟨g, i, none⟩ (.int .i64 v)) ∧ (y.setCell ⟨g, i, none⟩ (.int .i64 v)).heap[s0]? = some o0 ∧ (y.setCell ⟨g, i, none⟩ (.int .i64 v)).heap[s1]? = some o1 ∧ (y.setCell ⟨g, i, none⟩ (.int .i64 v)).heap[s7]? = some o7 ∧ ChG (y.setCell ⟨g, i, none⟩ (.int .i64 v)) B u g cx (exS C i v) :=
  ⟨Ext.setCell (p := ⟨g, i, none⟩) hE hne.2.2.2.1 _, heap_set_ne hne.1 m0, heap_set_ne hne.2.1 m1, heap_set_ne hne.2.2.1 m7, hG.set i v⟩
theorem sh_val {a b a' b' : Int} (h : a' = a ∧ b' = b) : (Value.agg #[.int .i64 a', .int .i64 b']) = .agg #[.int .i64 a, .int .i64 b] := by rw [h.1, h.2]

set_option maxRecDepth 20000 in
set_option maxHeartbeats 16000000 in
theorem ChartsAll06 (v : Value) (C : Ch) (t f more : Int) (w : World) (hv : ChV w v C) (hwf : (Lit.int .i64 f).wf = true) (hT : TabW w) :
    Calls Tryd.prog 5 #[v, .agg #[.int .i64 t, .int .i64 f], .int .i64 more] w (RetE (.bool true) w) := by
  have HWF := Lib.hid hwf
  clear hwf
  have HV := Lib.hid hv
  have HT := Lib.hid hT
  obtain ⟨p, c, q, d, rfl, hp, hq⟩ := hv
  clear hp hq hT
  go_enter Tryd.func5, Tryd.ntmps5
  go_upto_region 1 with (fail)
  obtain ⟨s0, hs0⟩ : ∃ s0, s0 = w.heap.size := ⟨_, rfl⟩
  obtain ⟨W, hW⟩ : ∃ W, W = (w.alloc (.cells #[.slice p C.meters.length c, .slice q C.extra.length d, .int .i64 C.frm, .int .i64 C.tto] 25)).alloc (.cells #[.int .i64 t, .int .i64 f] 27) := ⟨_, rfl⟩
  have m0 : W.heap[s0]? = some (.cells #[.slice p C.meters.length c, .slice q C.extra.length d, .int .i64 C.frm, .int .i64 C.tto] 25) := by rw [hs0, hW, Below.heap_alloc _ _ _ (by rw [size_alloc]; omega)]; exact heap_new _ _
  have m1 : W.heap[s0 + 1]? = some (.cells #[.int .i64 t, .int .i64 f] 27) := by rw [hs0, hW]; exact heap_new2 _ _ _
  have hE : Ext w W := by rw [hW]; exact Ext.alloc (Ext.alloc (Ext.refl _) _) _
  rw [← hs0, ← hW]
  obtain ⟨s1, hs1⟩ : ∃ s1, s1 = s0 + 1 := ⟨_, rfl⟩
  rw [← hs1] at m1 ⊢
  have a0 := ExtW.cell (v := .slice p C.meters.length c) (cell_of_heap m0 0)
  have a1 := ExtW.cell (v := .slice q C.extra.length d) (cell_of_heap m0 1)
  have a2 := ExtW.cell (v := .int .i64 C.frm) (cell_of_heap m0 2)
  have a3 := ExtW.cell (v := .int .i64 C.tto) (cell_of_heap m0 3)
  have b0 := ExtW.cell (v := .int .i64 t) (cell_of_heap m1 0)
  have b1 := ExtW.cell (v := .int .i64 f) (cell_of_heap m1 1)
  have HM0 := Lib.hid m0
  have HM1 := Lib.hid m1
  have HE := Lib.hid hE
  have HS0 := Lib.hid hs0
  have HS1 := Lib.hid hs1
  have HVW := Lib.hid (fun y (h : Ext W y) => HV.out.ext (HE.out.trans h))
  have HTW := Lib.hid (HT.out.ext HE.out)
  have HWK := Lib.hid (fun x : ExtW W => ExtW.callX (x := x) (works06 x.w (HTW.out.ext x.h)))
  have HRD := Lib.hid (fun x : ExtW W => ExtW.callX (x := x) (ready06 C _ x.w (HVW.out _ x.h)))
  obtain ⟨y0, hy0⟩ := ExtW.of (Ext.refl W)
  clear hW m0 m1 hE hs0 hs1
  conv => arg 5; rw [hy0]
  clear hy0
  obtain ⟨b, hb⟩ : ∃ b, readyC C = b := ⟨_, rfl⟩
  rw [hb] at HRD
  cases b
  case false =>
    clear hb
    go_wp2_with (first
    | (go_at_call 6; refine (HRD.out _).mono ?_; rintro e w2 ⟨rfl, xr, rfl, -⟩)
    | (go_at_call 9; refine (HWK.out _).mono ?_; rintro e w2 ⟨rfl, xw, rfl, -⟩))
    go_ret
    exact RetE.fin (HE.out.trans xw.h) rfl
  obtain ⟨hfar, hC⟩ := readyC_iff.1 hb
  have HSM := Lib.hid (farC_sm hfar)
  have HC := Lib.hid hC
  have hn6 := hC.nm
  clear hb hfar hC
  by_cases hm0 : more < 0
  · go_wp2_with (first
    | (go_at_call 6; refine (HRD.out _).mono ?_; rintro e w2 ⟨rfl, xr, rfl, -⟩)
    | (go_at_call 9; refine (HWK.out _).mono ?_; rintro e w2 ⟨rfl, xw, rfl, -⟩))
    go_ret
    exact RetE.fin (HE.out.trans xw.h) rfl
  by_cases hm1 : 999 < more
  · go_wp2_with (first
    | (go_at_call 6; refine (HRD.out _).mono ?_; rintro e w2 ⟨rfl, xr, rfl, -⟩)
    | (go_at_call 9; refine (HWK.out _).mono ?_; rintro e w2 ⟨rfl, xw, rfl, -⟩))
    go_ret
    exact RetE.fin (HE.out.trans xw.h) rfl
  have HCP := Lib.hid (fun x : ExtW W => Copy06 C _ x.w (HVW.out x.w x.h) HSM.out)
  go_upto_region 4 with (first
    | (go_at_call 6; refine (HRD.out _).mono ?_; rintro e w2 ⟨rfl, xf, rfl, -⟩)
    | (go_at_call 16; refine (HCP.out _).mono ?_; rintro e w2 ⟨u, g, cx, rfl, hE2, hG2⟩; have HG2 := Lib.hid hG2; obtain ⟨⟨vs, hM2⟩, hX2⟩ := hG2; obtain ⟨pu, cu, rfl, -⟩ := hM2.mts; have HE2 := Lib.hid hE2; clear hE2 hM2 hX2))
  obtain ⟨s7, hs7⟩ : ∃ s7, s7 = w2.heap.size := ⟨_, rfl⟩
  obtain ⟨W7, hW7⟩ : ∃ W7, W7 = w2.alloc (.cells #[.slice pu C.meters.length cu, .slice (some ⟨g, 0, none⟩) C.extra.length cx, .int .i64 C.frm, .int .i64 C.tto] 25) := ⟨_, rfl⟩
  have hE7 : Ext W W7 := by rw [hW7]; exact (xf.h.trans HE2.out).alloc _
  have hG7 : ChG W7 xf.w.heap.size (.slice pu C.meters.length cu) g cx C := by rw [hW7]; exact HG2.out.ext ((Ext.refl _).alloc _)
  have hgl := HG2.out.le
  have hxs := xf.h.size
  have hb0 := (Array.getElem?_eq_some_iff.1 HM0.out).1
  have hb1 := (Array.getElem?_eq_some_iff.1 HM1.out).1
  have m0 := heap_ext3 HM0.out hE7
  have m1 := heap_ext3 HM1.out hE7
  have m7 : W7.heap[s7]? = some (.cells #[.slice pu C.meters.length cu, .slice (some ⟨g, 0, none⟩) C.extra.length cx, .int .i64 C.frm, .int .i64 C.tto] 25) := by rw [hW7, hs7]; exact heap_new _ _
  have HNE := Lib.hid (show s0 ≠ g ∧ s1 ≠ g ∧ s7 ≠ g ∧ W.heap.size ≤ g ∧ g < s7 from ⟨by omega, by omega, by omega, by omega, by omega⟩)
  rw [← hs7, ← hW7]
  have HM0 := Lib.hid m0
  have HM1 := Lib.hid m1
  have HM7 := Lib.hid m7
  have HE7 := Lib.hid hE7
  have HG7 := Lib.hid hG7
  have HXB := Lib.hid HC.out.ex
  have hn7 : C.extra.length ≤ 6 := by have := HC.out.nx; omega
  clear hW7 hs7 hE7 hG7 hgl hxs hb0 hb1 m0 m1 m7 a0 a1 a2 a3 b0 b1 HRD HCP HG2 HE2 HWK
  obtain ⟨B, hB⟩ : ∃ B, B = xf.w.heap.size := ⟨_, rfl⟩
  rw [← hB] at HG7
  clear hB
  go_wp2
  go_loopw [8] (fun i wr => ∃ k : Nat, k ≤ C.extra.length ∧ i = .int .i64 k ∧ Ext W wr ∧ ChG wr B (.slice pu C.meters.length cu) g cx (exTo C more k) ∧
    wr.heap[s0]? = some (.cells #[.slice p C.meters.length c, .slice q C.extra.length d, .int .i64 C.frm, .int .i64 C.tto] 25) ∧ wr.heap[s1]? = some (.cells #[.int .i64 t, .int .i64 f] 27) ∧
    wr.heap[s7]? = some (.cells #[.slice pu C.meters.length cu, .slice (some ⟨g, 0, none⟩) C.extra.length cx, .int .i64 C.frm, .int .i64 C.tto] 25)) (fun i _ => C.extra.length - (intOf i).toNat)
  case atStart => exact ⟨0, Nat.zero_le _, rfl, HE7.out, by rw [exTo_0]; exact HG7.out, HM0.out, HM1.out, HM7.out⟩
  case round =>
    obtain ⟨k, hk, rfl, hE, hG, m0, m1, m7⟩ := hrel
    obtain ⟨wo, rfl⟩ : ∃ wo, wo = wr := ⟨_, rfl⟩
    have HM0 := Lib.hid m0
    have HM1 := Lib.hid m1
    have HM7 := Lib.hid m7
    have HEO := Lib.hid hE
    have HGO := Lib.hid hG
    by_cases hlt : k < C.extra.length
    · have hlt' : (k : Int) < (C.extra.length : Int) := by omega
      have c7 : wo.cell? ⟨s7, 1, none⟩ = some (.slice (some ⟨g, 0, none⟩) C.extra.length cx) := cell_of_heap m7 1
      obtain ⟨cg, fg⟩ := hG.cell (i := k) (by rw [exTo_len]; exact hlt)
      rw [exTo_get hlt] at cg
      have hxb := HXB.out _ (List.getElem_mem hlt)
      obtain ⟨ex, hex⟩ : ∃ ex, ex = C.extra[k] := ⟨_, rfl⟩
      rw [← hex] at cg hxb
      have HEX := Lib.hid hex
      have hwr : IntKind.i64.wrap (ex + more) = ex + more := IntWalk.i64_in _ (by omega)
      clear hex hE hG m0 m1 m7
      go_upto_region 6 with (fail)
      obtain ⟨W6, hW6⟩ : ∃ W6, W6 = wo.setCell ⟨g, k, none⟩ (.int .i64 (ex + more)) := ⟨_, rfl⟩
      obtain ⟨hE6, m0, m1, m7, hG6⟩ := stepX (i := k) (ex + more) HEO.out HNE.out HM0.out HM1.out HM7.out HGO.out
      rw [HEX.out, exTo_succ hlt, ← HEX.out] at hG6
      rw [← hW6] at hE6 m0 m1 m7 hG6
      rw [← hW6]
      have HM0 := Lib.hid m0
      have HM1 := Lib.hid m1
      have HM7 := Lib.hid m7
      have HE6 := Lib.hid hE6
      have HG6 := Lib.hid hG6
      clear c7 cg fg hxb hwr hW6 m0 m1 m7 hE6 hG6
      go_wp2
      go_roundw
      case rel => exact ⟨k + 1, by omega, by simp, HE6.out, HG6.out, HM0.out, HM1.out, HM7.out⟩
      case measure => simp [intOf]; omega
    · obtain rfl : k = C.extra.length := by omega
      have hge : ¬(C.extra.length : Int) < (C.extra.length : Int) := by omega
      rw [exTo_all] at hG
      have HGA := Lib.hid hG
      clear hE hG HGO
      have a0 := ExtW.cell (v := .slice p C.meters.length c) (cell_of_heap m0 0)
      have a1 := ExtW.cell (v := .slice q C.extra.length d) (cell_of_heap m0 1)
      have a2 := ExtW.cell (v := .int .i64 C.frm) (cell_of_heap m0 2)
      have a3 := ExtW.cell (v := .int .i64 C.tto) (cell_of_heap m0 3)
      have b0 := ExtW.cell (v := .int .i64 t) (cell_of_heap m1 0)
      have b1 := ExtW.cell (v := .int .i64 f) (cell_of_heap m1 1)
      have k0 := ExtW.cell (v := .slice pu C.meters.length cu) (cell_of_heap m7 0)
      have k1 := ExtW.cell (v := .slice (some ⟨g, 0, none⟩) C.extra.length cx) (cell_of_heap m7 1)
      have k2 := ExtW.cell (v := .int .i64 C.frm) (cell_of_heap m7 2)
      have k3 := ExtW.cell (v := .int .i64 C.tto) (cell_of_heap m7 3)
      obtain ⟨O, hO⟩ : ∃ O, O = shC C more := ⟨_, rfl⟩
      have hvo : ∀ y, Ext wo y → ChV y (.agg #[.slice pu C.meters.length cu, .slice (some ⟨g, 0, none⟩) C.extra.length cx, .int .i64 C.frm, .int .i64 C.tto]) O := fun y h => by rw [hO]; exact (HGA.out.ext h).chA
      have HOD := Lib.hid hO
      have HVO := Lib.hid hvo
      have HEW := Lib.hid (HE.out.trans HEO.out)
      have HTX := Lib.hid (fun y (h : Ext wo y) => HTW.out.ext (HEO.out.trans h))
      have HVX := Lib.hid (fun y (h : Ext wo y) => HVW.out y (HEO.out.trans h))
      have HWK := Lib.hid (fun x : ExtW wo => ExtW.callX (x := x) (works06 x.w (HTX.out _ x.h)))
      have HRD := Lib.hid (fun x : ExtW wo => ExtW.callX (x := x) (ready06 O _ x.w (HVO.out _ x.h)))
      obtain ⟨y9, hy9⟩ := ExtW.of (Ext.refl wo)
      clear m0 m1 m7 hvo hO HM0 HM1 HM7
      conv => arg 5; rw [hy9]
      clear hy9
      obtain ⟨b2, hb2⟩ : ∃ b, readyC O = b := ⟨_, rfl⟩
      rw [hb2] at HRD
      cases b2
      case false =>
        clear hb2
        go_wp2_with (first
    | (go_at_call 6; refine (HRD.out _).mono ?_; rintro e w2 ⟨rfl, xr, rfl, -⟩)
    | (go_at_call 9; refine (HWK.out _).mono ?_; rintro e w2 ⟨rfl, xw, rfl, -⟩))
        go_ret
        exact RetE.fin (HEW.out.trans xw.h) rfl
      obtain ⟨hfar, hOV⟩ := readyC_iff.1 hb2
      have HOS := Lib.hid (farC_sm hfar)
      have hov : ValidC (shC C more) := HOD.out ▸ hOV
      obtain ⟨z, hz⟩ : ∃ z, z = errT C t := ⟨_, rfl⟩
      obtain ⟨e, he⟩ : ∃ z, z = errF C f := ⟨_, rfl⟩
      obtain ⟨lo, hlo⟩ : ∃ n, n = rankLoA C t := ⟨_, rfl⟩
      obtain ⟨hi, hhi⟩ : ∃ n, n = rankHiA C t := ⟨_, rfl⟩
      obtain ⟨pl, hpl⟩ : ∃ n, n = cutLoA C f := ⟨_, rfl⟩
      obtain ⟨ph, hph⟩ : ∃ n, n = cutHiA C f := ⟨_, rfl⟩
      obtain ⟨ql, hql⟩ : ∃ n, n = cutLoA O f := ⟨_, rfl⟩
      obtain ⟨qh, hqh⟩ : ∃ n, n = cutHiA O f := ⟨_, rfl⟩
      obtain ⟨L, hL⟩ : ∃ n, n = topA C f := ⟨_, rfl⟩
      obtain ⟨K, hK⟩ : ∃ n, n = mayA C f := ⟨_, rfl⟩
      have hzo : errT O t = z := by rw [HOD.out, (sh_err HC.out hov).1, hz]
      have heo : errF O f = e := by rw [HOD.out, (sh_err HC.out hov).2.1, he]
      have hro := sh_rank HC.out hov t
      have hto := sh_top HC.out hov f
      rw [← HOD.out, ← hlo, ← hhi] at hro
      rw [← HOD.out, ← hL, ← hK] at hto
      have hcq : e = 0 → ql = pl + more ∧ qh = ph + more ∧ 0 ≤ pl ∧ ph ≤ 2499 ∧ pl ≤ 2499 ∧ 0 ≤ ph := fun h0 => by
        have := sh_cut HC.out hov f (by rw [← he, h0])
        rw [← HOD.out, ← hql, ← hqh, ← hpl, ← hph] at this
        exact this
      have hl6 := topA_len C f
      rw [← hL, ← hK] at hl6
      have hl7 : L.length ≤ 6 ∧ K.length ≤ 6 := by omega
      have HR1 := Lib.hid (fun x : ExtW wo => ExtW.callX (v := .tuple #[.agg #[.int .i64 lo, .int .i64 hi], .int .i64 z]) (x := x) (by
        have h := Rank06 C t _ x.w (HVX.out _ x.h) HSM.out (HTX.out _ x.h)
        rw [← hlo, ← hhi, ← hz] at h
        exact h))
      have HR2 := Lib.hid (fun x : ExtW wo => ExtW.callX (v := .tuple #[.agg #[.int .i64 lo, .int .i64 hi], .int .i64 z]) (x := x) (by
        have h := Rank06 O t _ x.w (HVO.out _ x.h) HOS.out (HTX.out _ x.h)
        rw [hro.1, hro.2, hzo] at h
        exact h))
      have HC1 := Lib.hid (fun x : ExtW wo => ExtW.callX (v := .tuple #[.agg #[.int .i64 pl, .int .i64 ph], .int .i64 e]) (x := x) (by
        have h := Cut06 C f _ x.w (HVX.out _ x.h) HSM.out (HTX.out _ x.h) HWF.out
        rw [← hpl, ← hph, ← he] at h
        exact h))
      have HC2 := Lib.hid (fun x : ExtW wo => ExtW.callX (v := .tuple #[.agg #[.int .i64 ql, .int .i64 qh], .int .i64 e]) (x := x) (by
        have h := Cut06 O f _ x.w (HVO.out _ x.h) HOS.out (HTX.out _ x.h) HWF.out
        rw [← hql, ← hqh, heo] at h
        exact h))
      have HT1 := Lib.hid (fun x : ExtW wo => ExtW.callL (l := L) (n := e) (x := x) (by
        have h := Top06 C f _ x.w (HVX.out _ x.h) HSM.out (HTX.out _ x.h) HWF.out
        rw [← he, ← hL] at h
        exact h))
      have HT2 := Lib.hid (fun x : ExtW wo => ExtW.callL (l := L) (n := e) (x := x) (by
        have h := Top06 O f _ x.w (HVO.out _ x.h) HOS.out (HTX.out _ x.h) HWF.out
        rw [heo, hto.1] at h
        exact h))
      have HM1 := Lib.hid (fun x : ExtW wo => ExtW.callL (l := K) (n := e) (x := x) (by
        have h := May06 C f _ x.w (HVX.out _ x.h) HSM.out (HTX.out _ x.h) HWF.out
        rw [← he, ← hK] at h
        exact h))
      have HM2 := Lib.hid (fun x : ExtW wo => ExtW.callL (l := K) (n := e) (x := x) (by
        have h := May06 O f _ x.w (HVO.out _ x.h) HOS.out (HTX.out _ x.h) HWF.out
        rw [heo, hto.2] at h
        exact h))
      obtain ⟨n1, hn1⟩ : ∃ n, n = ordersA C := ⟨_, rfl⟩
      obtain ⟨z0, hz0⟩ : ∃ n, n = errC C true := ⟨_, rfl⟩
      obtain ⟨nd, hnd⟩ : ∃ n, n = needsA C t f := ⟨_, rfl⟩
      obtain ⟨en, hen⟩ : ∃ n, n = errN C t f := ⟨_, rfl⟩
      obtain ⟨nx, hnx⟩ : ∃ n, n = nextTA C f := ⟨_, rfl⟩
      obtain ⟨ne, hne⟩ : ∃ n, n = nextTE C f := ⟨_, rfl⟩
      have hoo := sh_ords HC.out hov
      have hno := sh_needs HC.out hov t f
      have hxo := sh_next HC.out hov f
      have hze := (sh_err HC.out hov).2.2.2
      have hene := (sh_err HC.out hov).2.2.1 t f
      rw [← HOD.out, ← hn1] at hoo
      rw [← HOD.out, ← hnd] at hno
      rw [← HOD.out, ← hnx, ← hne] at hxo
      rw [← HOD.out, ← hz0] at hze
      rw [← HOD.out, ← hen] at hene
      have HQ := Lib.hid hcq
      have HL6 := Lib.hid hl7
      have HO1 := Lib.hid (fun y (h : Ext wo y) => (by
        have h := Orders06 C _ y (HVX.out _ h) HSM.out (HTX.out _ h)
        rw [← hn1, ← hz0] at h
        exact h : Calls Tryd.prog 20 #[.agg #[.slice p C.meters.length c, .slice q C.extra.length d, .int .i64 C.frm, .int .i64 C.tto]] y (RetE (.tuple #[.int .i64 n1, .int .i64 z0]) y)))
      have HO2 := Lib.hid (fun y (h : Ext wo y) => (by
        have h := Orders06 O _ y (HVO.out _ h) HOS.out (HTX.out _ h)
        rw [hoo, hze] at h
        exact h : Calls Tryd.prog 20 #[.agg #[.slice pu C.meters.length cu, .slice (some ⟨g, 0, none⟩) C.extra.length cx, .int .i64 C.frm, .int .i64 C.tto]] y (RetE (.tuple #[.int .i64 n1, .int .i64 z0]) y)))
      have HN1 := Lib.hid (fun y (h : Ext wo y) => (by
        have h := Needs06 C t f _ y (HVX.out _ h) HSM.out (HTX.out _ h) HWF.out
        rw [← hnd, ← hen] at h
        exact h : Calls Tryd.prog 17 #[.agg #[.slice p C.meters.length c, .slice q C.extra.length d, .int .i64 C.frm, .int .i64 C.tto], .int .i64 t, .int .i64 f] y (RetE (.tuple #[.int .i64 nd, .int .i64 en]) y)))
      have HN2 := Lib.hid (fun y (h : Ext wo y) => (by
        have h := Needs06 O t f _ y (HVO.out _ h) HOS.out (HTX.out _ h) HWF.out
        rw [hno, hene] at h
        exact h : Calls Tryd.prog 17 #[.agg #[.slice pu C.meters.length cu, .slice (some ⟨g, 0, none⟩) C.extra.length cx, .int .i64 C.frm, .int .i64 C.tto], .int .i64 t, .int .i64 f] y (RetE (.tuple #[.int .i64 nd, .int .i64 en]) y)))
      have HX1 := Lib.hid (fun y (h : Ext wo y) => (by
        have h := Next06 C f _ y (HVX.out _ h) HSM.out (HTX.out _ h) HWF.out
        rw [← hnx, ← hne] at h
        exact h : Calls Tryd.prog 21 #[.agg #[.slice p C.meters.length c, .slice q C.extra.length d, .int .i64 C.frm, .int .i64 C.tto], .int .i64 f] y (RetE (.tuple #[.int .i64 nx, .int .i64 ne]) y)))
      have HX2 := Lib.hid (fun y (h : Ext wo y) => (by
        have h := Next06 O f _ y (HVO.out _ h) HOS.out (HTX.out _ h) HWF.out
        rw [hxo.1, hxo.2] at h
        exact h : Calls Tryd.prog 21 #[.agg #[.slice pu C.meters.length cu, .slice (some ⟨g, 0, none⟩) C.extra.length cx, .int .i64 C.frm, .int .i64 C.tto], .int .i64 f] y (RetE (.tuple #[.int .i64 nx, .int .i64 ne]) y)))
      clear hz he hlo hhi hpl hph hql hqh hL hK hzo heo hro hto hcq hl6 hl7 hn1 hz0 hnd hen hnx hne hoo hno hxo hze hene hov hOV hfar hb2
      go_upto_region 10 with (go_at_call 6; refine (HRD.out _).mono ?_; rintro e w2 ⟨rfl, xr, rfl, -⟩)
      go_upto_region 11 with (go_at_call 10; refine (HR1.out _).mono ?_; rintro e w2 ⟨rfl, z1, rfl, hE2⟩)
      obtain ⟨p0, hs⟩ : ∃ s, s = z1.w.heap.size := ⟨_, rfl⟩
      obtain ⟨Wn, hWn⟩ : ∃ Wn, Wn = z1.w.alloc (.cells #[.int .i64 lo, .int .i64 hi] 32) := ⟨_, rfl⟩
      have hEn : Ext wo Wn := by rw [hWn]; exact z1.h.alloc _
      have mn : Wn.heap[p0]? = some (.cells #[.int .i64 lo, .int .i64 hi] 32) := by rw [hWn, hs]; exact heap_new _ _
      rw [← hs, ← hWn]
      obtain ⟨y0, hyn⟩ := ExtW.of hEn
      conv => arg 5; rw [hyn]
      rw [hyn] at mn
      have HB0 := Lib.hid mn
      clear hs hWn hEn mn hyn hE2
      go_upto_region 12 with (go_at_call 10; refine (HR2.out _).mono ?_; rintro e w2 ⟨rfl, z2, rfl, hE2⟩)
      obtain ⟨p1, hs⟩ : ∃ s, s = z2.w.heap.size := ⟨_, rfl⟩
      obtain ⟨Wn, hWn⟩ : ∃ Wn, Wn = z2.w.alloc (.cells #[.int .i64 lo, .int .i64 hi] 32) := ⟨_, rfl⟩
      have hEn : Ext wo Wn := by rw [hWn]; exact z2.h.alloc _
      have mn : Wn.heap[p1]? = some (.cells #[.int .i64 lo, .int .i64 hi] 32) := by rw [hWn, hs]; exact heap_new _ _
      have mo0 := heap_ext3 HB0.out ((show Ext y0.w Wn from by rw [hWn]; exact hE2.alloc _))
      rw [← hs, ← hWn]
      obtain ⟨y1, hyn⟩ := ExtW.of hEn
      conv => arg 5; rw [hyn]
      rw [hyn] at mn
      rw [hyn] at mo0
      clear HB0
      have HB0 := Lib.hid mo0
      clear mo0
      have HB1 := Lib.hid mn
      clear hs hWn hEn mn hyn hE2
      go_upto_region 13 with (go_at_call 18; refine (HC1.out _).mono ?_; rintro e w2 ⟨rfl, z3, rfl, hE2⟩)
      obtain ⟨p2, hs⟩ : ∃ s, s = z3.w.heap.size := ⟨_, rfl⟩
      obtain ⟨Wn, hWn⟩ : ∃ Wn, Wn = z3.w.alloc (.cells #[.int .i64 pl, .int .i64 ph] 32) := ⟨_, rfl⟩
      have hEn : Ext wo Wn := by rw [hWn]; exact z3.h.alloc _
      have mn : Wn.heap[p2]? = some (.cells #[.int .i64 pl, .int .i64 ph] 32) := by rw [hWn, hs]; exact heap_new _ _
      have mo0 := heap_ext3 HB0.out ((show Ext y1.w Wn from by rw [hWn]; exact hE2.alloc _))
      have mo1 := heap_ext3 HB1.out ((show Ext y1.w Wn from by rw [hWn]; exact hE2.alloc _))
      rw [← hs, ← hWn]
      obtain ⟨y2, hyn⟩ := ExtW.of hEn
      conv => arg 5; rw [hyn]
      rw [hyn] at mn
      rw [hyn] at mo0
      clear HB0
      have HB0 := Lib.hid mo0
      clear mo0
      rw [hyn] at mo1
      clear HB1
      have HB1 := Lib.hid mo1
      clear mo1
      have HB2 := Lib.hid mn
      clear hs hWn hEn mn hyn hE2
      go_upto_region 14 with (go_at_call 18; refine (HC2.out _).mono ?_; rintro e w2 ⟨rfl, z4, rfl, hE2⟩)
      obtain ⟨p3, hs⟩ : ∃ s, s = z4.w.heap.size := ⟨_, rfl⟩
      obtain ⟨Wn, hWn⟩ : ∃ Wn, Wn = z4.w.alloc (.cells #[.int .i64 ql, .int .i64 qh] 32) := ⟨_, rfl⟩
      have hEn : Ext wo Wn := by rw [hWn]; exact z4.h.alloc _
      have mn : Wn.heap[p3]? = some (.cells #[.int .i64 ql, .int .i64 qh] 32) := by rw [hWn, hs]; exact heap_new _ _
      have mo0 := heap_ext3 HB0.out ((show Ext y2.w Wn from by rw [hWn]; exact hE2.alloc _))
      have mo1 := heap_ext3 HB1.out ((show Ext y2.w Wn from by rw [hWn]; exact hE2.alloc _))
      have mo2 := heap_ext3 HB2.out ((show Ext y2.w Wn from by rw [hWn]; exact hE2.alloc _))
      rw [← hs, ← hWn]
      obtain ⟨y3, hyn⟩ := ExtW.of hEn
      conv => arg 5; rw [hyn]
      rw [hyn] at mn
      rw [hyn] at mo0
      clear HB0
      have HB0 := Lib.hid mo0
      clear mo0
      rw [hyn] at mo1
      clear HB1
      have HB1 := Lib.hid mo1
      clear mo1
      rw [hyn] at mo2
      clear HB2
      have HB2 := Lib.hid mo2
      clear mo2
      have HB3 := Lib.hid mn
      clear hs hWn hEn mn hyn hE2
      obtain ⟨W14, hW14⟩ : ∃ W14, W14 = y3.w := ⟨_, rfl⟩
      have hE14 : Ext wo W14 := by rw [hW14]; exact y3.h
      rw [← hW14] at HB0 HB1 HB2 HB3 ⊢
      have HE14 := Lib.hid hE14
      have d0 : W14.cell? ⟨p0, 0, none⟩ = some (.int .i64 lo) := cell_of_heap HB0.out 0
      have d1 : W14.cell? ⟨p0, 1, none⟩ = some (.int .i64 hi) := cell_of_heap HB0.out 1
      have d2 : W14.cell? ⟨p1, 0, none⟩ = some (.int .i64 lo) := cell_of_heap HB1.out 0
      have d3 : W14.cell? ⟨p1, 1, none⟩ = some (.int .i64 hi) := cell_of_heap HB1.out 1
      clear hW14 hE14 HRD
      by_cases he : e = 0
      · obtain ⟨hq1, hq2, hq3, hq4, hq5, hq6⟩ := HQ.out he
        subst he hq1 hq2
        have d4 : W14.cell? ⟨p2, 0, none⟩ = some (.int .i64 pl) := cell_of_heap HB2.out 0
        have d5 : W14.cell? ⟨p2, 1, none⟩ = some (.int .i64 ph) := cell_of_heap HB2.out 1
        have d6 : W14.cell? ⟨p3, 0, none⟩ = some (.int .i64 (pl + more)) := cell_of_heap HB3.out 0
        have d7 : W14.cell? ⟨p3, 1, none⟩ = some (.int .i64 (ph + more)) := cell_of_heap HB3.out 1
        have hw1 : IntKind.i64.wrap (pl + more) = pl + more := IntWalk.i64_in _ (by omega)
        have hw2 : IntKind.i64.wrap (ph + more) = ph + more := IntWalk.i64_in _ (by omega)
        have hg1 : ¬pl < 0 := by omega
        have hg2 : ¬(100000 : Int) < ph := by omega
        go_upto_region 16 with (fail)
        clear hw1 hw2 hg1 hg2 hq3 hq4 hq5 hq6 d0 d1 d2 d3 d4 d5 d6 d7 HB0 HB1 HB2 HB3 HR1 HR2 HC1 HC2
        obtain ⟨y14, hy14⟩ := ExtW.of HE14.out
        conv => arg 5; rw [hy14]
        clear hy14
        go_upto_region 17 with (go_at_call 11; refine (HT1.out _).mono ?_; rintro e w2 ⟨pk, ck, rfl, x5, rfl, -, hi5, -⟩)
        go_upto_region 18 with (go_at_call 11; refine (HT2.out _).mono ?_; rintro e w2 ⟨pm, cm, rfl, x6, rfl, hE6, hi6, -⟩)
        go_upto_region 19 with (go_at_call 12; refine (HM1.out _).mono ?_; rintro e w2 ⟨pn, cn, rfl, x7, rfl, hE7, hi7, -⟩)
        go_upto_region 20 with (go_at_call 12; refine (HM2.out _).mono ?_; rintro e w2 ⟨po, co, rfl, x8, rfl, hE8, hi8, -⟩)
        have hA1 := ((hi5.ext hE6).ext hE7).ext hE8
        have hA2 := (hi6.ext hE7).ext hE8
        have hA3 := hi7.ext hE8
        have hE20 := x8.h
        obtain ⟨W20, hW20⟩ : ∃ W20, W20 = x8.w := ⟨_, rfl⟩
        rw [← hW20] at hA1 hA2 hA3 hi8 hE20 ⊢
        have HI1 := Lib.hid (fun x : ExtW W20 => hA1.ext x.h)
        have HI2 := Lib.hid (fun x : ExtW W20 => hA2.ext x.h)
        have HI3 := Lib.hid (fun x : ExtW W20 => hA3.ext x.h)
        have HI4 := Lib.hid (fun x : ExtW W20 => hi8.ext x.h)
        have HSI := Lib.hid (fun (x : ExtW W20) (a b : Option Addr) (c d : Nat) (l : List Int) (hl : l.length ≤ 6) (ha : IntsAt x.w a l) (hb : IntsAt x.w b l) => ExtW.callX (v := .bool true) (x := x) (by
          have h := SameInts02 a b l l c d x.w (by omega) (by omega) ha hb
          rw [decide_eq_true rfl] at h
          exact h))
        have a0' := cellLift a0 hE20
        clear a0
        have a1' := cellLift a1 hE20
        clear a1
        have a2' := cellLift a2 hE20
        clear a2
        have a3' := cellLift a3 hE20
        clear a3
        have a4' := cellLift b0 hE20
        clear b0
        have a5' := cellLift b1 hE20
        clear b1
        have a6' := cellLift k0 hE20
        clear k0
        have a7' := cellLift k1 hE20
        clear k1
        have a8' := cellLift k2 hE20
        clear k2
        have a9' := cellLift k3 hE20
        clear k3
        have HO1L := Lib.hid (fun x : ExtW W20 => ExtW.callX (x := x) (HO1.out x.w (hE20.trans x.h)))
        have HO2L := Lib.hid (fun x : ExtW W20 => ExtW.callX (x := x) (HO2.out x.w (hE20.trans x.h)))
        have HN1L := Lib.hid (fun x : ExtW W20 => ExtW.callX (x := x) (HN1.out x.w (hE20.trans x.h)))
        have HN2L := Lib.hid (fun x : ExtW W20 => ExtW.callX (x := x) (HN2.out x.w (hE20.trans x.h)))
        have HX1L := Lib.hid (fun x : ExtW W20 => ExtW.callX (x := x) (HX1.out x.w (hE20.trans x.h)))
        have HX2L := Lib.hid (fun x : ExtW W20 => ExtW.callX (x := x) (HX2.out x.w (hE20.trans x.h)))
        have HWL := Lib.hid (fun x : ExtW W20 => ExtW.callX (x := x) (works06 x.w (HTX.out _ (hE20.trans x.h))))
        have HE20 := Lib.hid hE20
        obtain ⟨y20, hy20⟩ := ExtW.of (Ext.refl W20)
        clear hi5 hi6 hi7 hi8 hE6 hE7 hE8 hA1 hA2 hA3 hE20 hW20 HT1 HT2 HM1 HM2 HWK
        conv => arg 5; rw [hy20]
        clear hy20
        go_upto_region 22 with (go_at_call 19; refine (HSI.out _ _ _ _ _ _ (by first | with_reducible exact HL6.out.1 | with_reducible exact HL6.out.2) (by first | with_reducible exact HI1.out _ | with_reducible exact HI3.out _) (by first | with_reducible exact HI2.out _ | with_reducible exact HI4.out _)).mono ?_; rintro e w2 ⟨rfl, x9, rfl, -⟩)
        go_upto_region 23 with (go_at_call 20; refine (HO1L.out _).mono ?_; rintro e w2 ⟨rfl, z5, rfl, -⟩)
        go_upto_region 24 with (go_at_call 20; refine (HO2L.out _).mono ?_; rintro e w2 ⟨rfl, z6, rfl, -⟩)
        go_upto_region 25 with (go_at_call 17; refine (HN1L.out _).mono ?_; rintro e w2 ⟨rfl, z7, rfl, -⟩)
        go_upto_region 26 with (go_at_call 17; refine (HN2L.out _).mono ?_; rintro e w2 ⟨rfl, z8, rfl, -⟩)
        go_upto_region 27 with (go_at_call 21; refine (HX1L.out _).mono ?_; rintro e w2 ⟨rfl, z9, rfl, -⟩)
        go_upto_region 28 with (go_at_call 21; refine (HX2L.out _).mono ?_; rintro e w2 ⟨rfl, zx, rfl, -⟩)
        go_wp2_with (go_at_call 9; refine (HWL.out _).mono ?_; rintro e w2 ⟨rfl, xw, rfl, -⟩)
        go_ret
        exact RetE.fin (HEW.out.trans (HE20.out.trans xw.h)) rfl
      · have hne0 : (e == 0) = false := by simpa using he
        have d4 : W14.cell? ⟨p2, 0, none⟩ = some (.int .i64 pl) := cell_of_heap HB2.out 0
        have d5 : W14.cell? ⟨p2, 1, none⟩ = some (.int .i64 ph) := cell_of_heap HB2.out 1
        have d6 : W14.cell? ⟨p3, 0, none⟩ = some (.int .i64 ql) := cell_of_heap HB3.out 0
        have d7 : W14.cell? ⟨p3, 1, none⟩ = some (.int .i64 qh) := cell_of_heap HB3.out 1
        clear he
        go_upto_region 16 with (fail)
        clear d0 d1 d2 d3 d4 d5 d6 d7 HB0 HB1 HB2 HB3 HR1 HR2 HC1 HC2
        obtain ⟨y14, hy14⟩ := ExtW.of HE14.out
        conv => arg 5; rw [hy14]
        clear hy14
        go_upto_region 17 with (go_at_call 11; refine (HT1.out _).mono ?_; rintro e w2 ⟨pk, ck, rfl, x5, rfl, -, hi5, -⟩)
        go_upto_region 18 with (go_at_call 11; refine (HT2.out _).mono ?_; rintro e w2 ⟨pm, cm, rfl, x6, rfl, hE6, hi6, -⟩)
        go_upto_region 19 with (go_at_call 12; refine (HM1.out _).mono ?_; rintro e w2 ⟨pn, cn, rfl, x7, rfl, hE7, hi7, -⟩)
        go_upto_region 20 with (go_at_call 12; refine (HM2.out _).mono ?_; rintro e w2 ⟨po, co, rfl, x8, rfl, hE8, hi8, -⟩)
        have hA1 := ((hi5.ext hE6).ext hE7).ext hE8
        have hA2 := (hi6.ext hE7).ext hE8
        have hA3 := hi7.ext hE8
        have hE20 := x8.h
        obtain ⟨W20, hW20⟩ : ∃ W20, W20 = x8.w := ⟨_, rfl⟩
        rw [← hW20] at hA1 hA2 hA3 hi8 hE20 ⊢
        have HI1 := Lib.hid (fun x : ExtW W20 => hA1.ext x.h)
        have HI2 := Lib.hid (fun x : ExtW W20 => hA2.ext x.h)
        have HI3 := Lib.hid (fun x : ExtW W20 => hA3.ext x.h)
        have HI4 := Lib.hid (fun x : ExtW W20 => hi8.ext x.h)
        have HSI := Lib.hid (fun (x : ExtW W20) (a b : Option Addr) (c d : Nat) (l : List Int) (hl : l.length ≤ 6) (ha : IntsAt x.w a l) (hb : IntsAt x.w b l) => ExtW.callX (v := .bool true) (x := x) (by
          have h := SameInts02 a b l l c d x.w (by omega) (by omega) ha hb
          rw [decide_eq_true rfl] at h
          exact h))
        have a0' := cellLift a0 hE20
        clear a0
        have a1' := cellLift a1 hE20
        clear a1
        have a2' := cellLift a2 hE20
        clear a2
        have a3' := cellLift a3 hE20
        clear a3
        have a4' := cellLift b0 hE20
        clear b0
        have a5' := cellLift b1 hE20
        clear b1
        have a6' := cellLift k0 hE20
        clear k0
        have a7' := cellLift k1 hE20
        clear k1
        have a8' := cellLift k2 hE20
        clear k2
        have a9' := cellLift k3 hE20
        clear k3
        have HO1L := Lib.hid (fun x : ExtW W20 => ExtW.callX (x := x) (HO1.out x.w (hE20.trans x.h)))
        have HO2L := Lib.hid (fun x : ExtW W20 => ExtW.callX (x := x) (HO2.out x.w (hE20.trans x.h)))
        have HN1L := Lib.hid (fun x : ExtW W20 => ExtW.callX (x := x) (HN1.out x.w (hE20.trans x.h)))
        have HN2L := Lib.hid (fun x : ExtW W20 => ExtW.callX (x := x) (HN2.out x.w (hE20.trans x.h)))
        have HX1L := Lib.hid (fun x : ExtW W20 => ExtW.callX (x := x) (HX1.out x.w (hE20.trans x.h)))
        have HX2L := Lib.hid (fun x : ExtW W20 => ExtW.callX (x := x) (HX2.out x.w (hE20.trans x.h)))
        have HWL := Lib.hid (fun x : ExtW W20 => ExtW.callX (x := x) (works06 x.w (HTX.out _ (hE20.trans x.h))))
        have HE20 := Lib.hid hE20
        obtain ⟨y20, hy20⟩ := ExtW.of (Ext.refl W20)
        clear hi5 hi6 hi7 hi8 hE6 hE7 hE8 hA1 hA2 hA3 hE20 hW20 HT1 HT2 HM1 HM2 HWK
        conv => arg 5; rw [hy20]
        clear hy20
        go_upto_region 22 with (go_at_call 19; refine (HSI.out _ _ _ _ _ _ (by first | with_reducible exact HL6.out.1 | with_reducible exact HL6.out.2) (by first | with_reducible exact HI1.out _ | with_reducible exact HI3.out _) (by first | with_reducible exact HI2.out _ | with_reducible exact HI4.out _)).mono ?_; rintro e w2 ⟨rfl, x9, rfl, -⟩)
        go_upto_region 23 with (go_at_call 20; refine (HO1L.out _).mono ?_; rintro e w2 ⟨rfl, z5, rfl, -⟩)
        go_upto_region 24 with (go_at_call 20; refine (HO2L.out _).mono ?_; rintro e w2 ⟨rfl, z6, rfl, -⟩)
        go_upto_region 25 with (go_at_call 17; refine (HN1L.out _).mono ?_; rintro e w2 ⟨rfl, z7, rfl, -⟩)
        go_upto_region 26 with (go_at_call 17; refine (HN2L.out _).mono ?_; rintro e w2 ⟨rfl, z8, rfl, -⟩)
        go_upto_region 27 with (go_at_call 21; refine (HX1L.out _).mono ?_; rintro e w2 ⟨rfl, z9, rfl, -⟩)
        go_upto_region 28 with (go_at_call 21; refine (HX2L.out _).mono ?_; rintro e w2 ⟨rfl, zx, rfl, -⟩)
        go_wp2_with (go_at_call 9; refine (HWL.out _).mono ?_; rintro e w2 ⟨rfl, xw, rfl, -⟩)
        go_ret
        exact RetE.fin (HEW.out.trans (HE20.out.trans xw.h)) rfl
end Go.Proofs.YtaoamnhchidjfaaDoor
