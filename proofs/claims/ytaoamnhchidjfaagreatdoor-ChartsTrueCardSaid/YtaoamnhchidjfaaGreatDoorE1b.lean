
/- The walk of ChartsTrue. -/
import Derived.Test.YtaoamnhchidjfaaGreatDoorCE
import Derived.Test.YtaoamnhchidjfaaGreatDoorDA
import Derived.Test.YtaoamnhchidjfaaGreatDoorE1a
namespace Go.Proofs.YtaoamnhchidjfaaGreatDoor
open Go.RowKit

set_option maxRecDepth 20000 in
set_option maxHeartbeats 16000000 in
theorem ChartsTrue06 (v : Value) (C : Ch) (pt : Option Addr) (L : List Int) (ct : Nat) (t f : Int) (w : World) (hv : ChV w v C) (hI : IntsAt w pt L) (hwf : (Lit.int .i64 f).wf = true) (hT : TabW w) :
    Calls Tryz.prog 4 #[v, .slice pt L.length ct, .agg #[.int .i64 t, .int .i64 f]] w (RetE (.bool true) w) := by
  have HWF := Lib.hid hwf
  have HIL := Lib.hid hI
  clear hwf hI
  have HV := Lib.hid hv
  have HT := Lib.hid hT
  obtain ⟨p, c, q, d, rfl, hp, hq⟩ := hv
  clear hp hq hT
  go_enter Tryz.func4, Tryz.ntmps4
  go_upto_region 1 with (fail)
  obtain ⟨s0, hs0⟩ : ∃ s0, s0 = w.heap.size := ⟨_, rfl⟩
  obtain ⟨W, hW⟩ : ∃ W, W = (w.alloc (.cells #[.slice p C.meters.length c, .slice q C.extra.length d, .int .i64 C.frm, .int .i64 C.tto] 25)).alloc (.cells #[.int .i64 t, .int .i64 f] 27) := ⟨_, rfl⟩
  have m0 : W.heap[s0]? = some (.cells #[.slice p C.meters.length c, .slice q C.extra.length d, .int .i64 C.frm, .int .i64 C.tto] 25) := by rw [hs0, hW, Below.heap_alloc _ _ _ (by rw [size_alloc]; omega)]; exact heap_new _ _
  have m1 : W.heap[s0 + 1]? = some (.cells #[.int .i64 t, .int .i64 f] 27) := by rw [hs0, hW]; exact heap_new2 _ _ _
  have hE : Ext w W := by rw [hW]; exact Ext.alloc (Ext.alloc (Ext.refl _) _) _
  rw [← hs0, ← hW]
  obtain ⟨s1, hs1⟩ : ∃ s1, s1 = s0 + 1 := ⟨_, rfl⟩
  rw [← hs1] at m1 ⊢
  have a0 := ExtW.cell (v := .slice p C.meters.length c) (cell_of_heap m0 0)
  have a1 := ExtW.cell (v := .slice q C.extra.length d) (cell_of_heap m0 1)
  have a2 := ExtW.cell (v := .int .i64 C.frm) (cell_of_heap m0 2)
  have a3 := ExtW.cell (v := .int .i64 C.tto) (cell_of_heap m0 3)
  have b0 := ExtW.cell (v := .int .i64 t) (cell_of_heap m1 0)
  have b1 := ExtW.cell (v := .int .i64 f) (cell_of_heap m1 1)
  have HM0 := Lib.hid m0
  have HM1 := Lib.hid m1
  have HE := Lib.hid hE
  have HS0 := Lib.hid hs0
  have HS1 := Lib.hid hs1
  have HVW := Lib.hid (fun y (h : Ext W y) => HV.out.ext (HE.out.trans h))
  have HTW := Lib.hid (HT.out.ext HE.out)
  have HWK := Lib.hid (fun x : ExtW W => ExtW.callX (x := x) (works06 x.w (HTW.out.ext x.h)))
  have HRD := Lib.hid (fun x : ExtW W => ExtW.callX (x := x) (ready06 C _ x.w (HVW.out _ x.h)))
  obtain ⟨y0, hy0⟩ := ExtW.of (Ext.refl W)
  clear hW m0 m1 hE hs0 hs1
  conv => arg 5; rw [hy0]
  clear hy0
  obtain ⟨b, hb⟩ : ∃ b, readyC C = b := ⟨_, rfl⟩
  rw [hb] at HRD
  cases b
  case false =>
    clear hb
    go_wp2_with (first
    | (go_at_call 24; refine (HRD.out _).mono ?_; rintro e w2 ⟨rfl, xr, rfl, -⟩)
    | (go_at_call 25; refine (HIT.out _).mono ?_; rintro e w2 ⟨rfl, xi, rfl, -⟩)
    | (go_at_call 26; refine (HIF.out _).mono ?_; rintro e w2 ⟨rfl, xf, rfl, -⟩)
    | (go_at_call 12; refine (HWK.out _).mono ?_; rintro e w2 ⟨rfl, xw, rfl, -⟩))
    go_ret
    exact RetE.fin (HE.out.trans xw.h) rfl
  obtain ⟨hfar, hC⟩ := readyC_iff.1 hb
  have HSM := Lib.hid (farC_sm hfar)
  have HFB := Lib.hid (farC_len hfar).2.2.1
  have HC := Lib.hid hC
  have hn6 := hC.nm
  clear hb hfar hC
  by_cases hl40 : (40 : Int) < (L.length : Int)
  · go_wp2_with (first
    | (go_at_call 24; refine (HRD.out _).mono ?_; rintro e w2 ⟨rfl, xr, rfl, -⟩)
    | (go_at_call 25; refine (HIT.out _).mono ?_; rintro e w2 ⟨rfl, xi, rfl, -⟩)
    | (go_at_call 26; refine (HIF.out _).mono ?_; rintro e w2 ⟨rfl, xf, rfl, -⟩)
    | (go_at_call 12; refine (HWK.out _).mono ?_; rintro e w2 ⟨rfl, xw, rfl, -⟩))
    go_ret
    exact RetE.fin (HE.out.trans xw.h) rfl
  have HIT := Lib.hid (fun x : ExtW W => ExtW.callX (x := x) (rIsTitle06 C t _ x.w (HVW.out _ x.h) (by omega)))
  have HIF := Lib.hid (fun x : ExtW W => ExtW.callX (x := x) (rIsRank06 C f _ x.w (HVW.out _ x.h) (by omega)))
  obtain ⟨bt, hbt⟩ : ∃ b, isTB C t = b := ⟨_, rfl⟩
  obtain ⟨bf, hbf⟩ : ∃ b, isFB C f = b := ⟨_, rfl⟩
  rw [hbt] at HIT
  rw [hbf] at HIF
  have HBT := Lib.hid hbt
  have HBF := Lib.hid hbf
  clear hbt hbf
  cases bt
  case false =>
    go_wp2_with (first
    | (go_at_call 24; refine (HRD.out _).mono ?_; rintro e w2 ⟨rfl, xr, rfl, -⟩)
    | (go_at_call 25; refine (HIT.out _).mono ?_; rintro e w2 ⟨rfl, xi, rfl, -⟩)
    | (go_at_call 26; refine (HIF.out _).mono ?_; rintro e w2 ⟨rfl, xf, rfl, -⟩)
    | (go_at_call 12; refine (HWK.out _).mono ?_; rintro e w2 ⟨rfl, xw, rfl, -⟩))
    go_ret
    exact RetE.fin (HE.out.trans xw.h) rfl
  cases bf
  case false =>
    go_wp2_with (first
    | (go_at_call 24; refine (HRD.out _).mono ?_; rintro e w2 ⟨rfl, xr, rfl, -⟩)
    | (go_at_call 25; refine (HIT.out _).mono ?_; rintro e w2 ⟨rfl, xi, rfl, -⟩)
    | (go_at_call 26; refine (HIF.out _).mono ?_; rintro e w2 ⟨rfl, xf, rfl, -⟩)
    | (go_at_call 12; refine (HWK.out _).mono ?_; rintro e w2 ⟨rfl, xw, rfl, -⟩))
    go_ret
    exact RetE.fin (HE.out.trans xw.h) rfl
  obtain ⟨ht0, ht1⟩ := isTB_iff.1 HBT.out
  obtain ⟨hf1, hf2⟩ := isFB_iff.1 HBF.out
  obtain ⟨tn, htn⟩ : ∃ tn : Nat, t = tn := ⟨t.toNat, by omega⟩
  obtain ⟨fn, hfn⟩ : ∃ fn : Nat, f = fn := ⟨f.toNat, by omega⟩
  subst htn hfn
  have htl : tn < C.meters.length := by omega
  obtain ⟨z, hz⟩ : ∃ z, z = errC C true := ⟨_, rfl⟩
  have hzz := errC_two HC.out
  rw [← hz] at hzz
  have HZ := Lib.hid hz
  have HAL := Lib.hid (fun x : ExtW W => (by
    have h := All06 C _ x.w (HVW.out x.w x.h) HSM.out HFB.out
    rw [← HZ.out] at h
    exact h : Calls Tryz.prog 27 #[.agg #[.slice p C.meters.length c, .slice q C.extra.length d, .int .i64 C.frm, .int .i64 C.tto]] x.w (RetTb (askT C true) z x.w)))
  clear hz
  go_upto_region 3 with (first
    | (go_at_call 24; refine (HRD.out _).mono ?_; rintro e w2 ⟨rfl, xr, rfl, -⟩)
    | (go_at_call 25; refine (HIT.out _).mono ?_; rintro e w2 ⟨rfl, xi, rfl, -⟩)
    | (go_at_call 26; refine (HIF.out _).mono ?_; rintro e w2 ⟨rfl, xf, rfl, -⟩))
  clear HRD HIT HIF
  by_cases hz0 : z = 0
  case neg =>
    have h3 : z = 3 := by omega
    subst h3
    clear hz0 hzz
    go_upto_region 4 with (go_at_call 27; refine (HAL.out _).mono ?_; rintro e w2 ⟨u, vs, rfl, -, hE2, -⟩)
    obtain ⟨y2, hy2⟩ := ExtW.of (xf.h.trans hE2)
    conv => arg 5; rw [hy2]
    clear hy2 hE2
    go_wp2_with (go_at_call 12; refine (HWK.out _).mono ?_; rintro e w2 ⟨rfl, xw, rfl, -⟩)
    go_ret
    exact RetE.fin (HE.out.trans xw.h) rfl
  subst hz0
  clear hzz
  obtain ⟨hCv, -, hso⟩ := errC_0 HZ.out.symm
  obtain ⟨T, hTT⟩ : ∃ T, T = tabC C := ⟨_, rfl⟩
  have hG := tabC_ok hCv hso
  have hTL := tabC_len C
  have hask := askT_0 HZ.out.symm
  rw [← hTT] at hG hTL hask
  rw [hask] at HAL
  have HG := Lib.hid hG
  have HTT := Lib.hid hTT
  have HTL := Lib.hid hTL
  clear hCv hso hG hTL hask hTT
  go_upto_region 4 with (go_at_call 27; refine (HAL.out _).mono ?_; rintro e w2 ⟨u, vs, rfl, hR2, hE2, -⟩; obtain ⟨qa, ca, rfl, hla⟩ := hR2.lists; have HLA := Lib.hid hla; have HE2 := Lib.hid (xf.h.trans hE2); clear hR2 hla hE2)
  obtain ⟨bT, hbT⟩ : ∃ b, b = isTruB T L := ⟨_, rfl⟩
  have HIS := Lib.hid (fun x : ExtW w2 => ExtW.callX (v := .bool bT) (x := x) (by
    have h := IsTruth06 T HG.out.ls (by have := HG.out.len; omega) L qa ca pt ct x.w (HLA.out.ext x.h) (HIL.out.ext (HE.out.trans (HE2.out.trans x.h)))
    rw [← hbT] at h
    exact h))
  have m0 := heap_ext3 HM0.out HE2.out
  have m1 := heap_ext3 HM1.out HE2.out
  have hEB := HE2.out
  obtain ⟨W4, hW4⟩ : ∃ W4, W4 = w2 := ⟨_, rfl⟩
  rw [← hW4] at HIS m0 m1 hEB ⊢
  clear hW4 a0 a1 a2 a3 b0 b1 HAL HWK
  have a0 := ExtW.cell (v := .slice p C.meters.length c) (cell_of_heap m0 0)
  have a1 := ExtW.cell (v := .slice q C.extra.length d) (cell_of_heap m0 1)
  have a2 := ExtW.cell (v := .int .i64 C.frm) (cell_of_heap m0 2)
  have a3 := ExtW.cell (v := .int .i64 C.tto) (cell_of_heap m0 3)
  have b0 := ExtW.cell (v := .int .i64 (tn : Int)) (cell_of_heap m1 0)
  have b1 := ExtW.cell (v := .int .i64 (fn : Int)) (cell_of_heap m1 1)
  have HM0 := Lib.hid m0
  have HM1 := Lib.hid m1
  have HEB := Lib.hid hEB
  have HEW := Lib.hid (HE.out.trans hEB)
  have HTX := Lib.hid (fun y (h : Ext W4 y) => HTW.out.ext (HEB.out.trans h))
  have HVX := Lib.hid (fun y (h : Ext W4 y) => HVW.out y (HEB.out.trans h))
  have HWK := Lib.hid (fun x : ExtW W4 => ExtW.callX (x := x) (works06 x.w (HTX.out _ x.h)))
  have HBT2 := Lib.hid hbT
  obtain ⟨y4, hy4⟩ := ExtW.of (Ext.refl W4)
  clear m0 m1 hEB hbT
  conv => arg 5; rw [hy4]
  clear hy4
  cases bT
  case false =>
    go_wp2_with (first
      | (go_at_call 28; refine (HIS.out _).mono ?_; rintro e w2 ⟨rfl, x2, rfl, -⟩)
      | (go_at_call 12; refine (HWK.out _).mono ?_; rintro e w2 ⟨rfl, xw, rfl, -⟩))
    go_ret
    exact RetE.fin (HEW.out.trans xw.h) rfl
  obtain ⟨hLl, htru⟩ := isTruB_iff.1 HBT2.out.symm
  have hLC : L.length = C.meters.length := by rw [hLl, HTL.out]
  have HLL := Lib.hid hLl
  have HTR := Lib.hid htru
  have het : errT C tn = 0 := by unfold errT; rw [HBT.out]; exact HZ.out.symm
  have hef : errF C fn = 0 := by unfold errF; rw [HBF.out]; exact HZ.out.symm
  have hb1 := rk_bounds HG.out.ok (i := tn) (by rw [HTL.out]; exact htl) htru
  have hb2 := cut_bounds HG.out.ok (k := fn) (by omega) (by rw [HTL.out]; omega) htru
  obtain ⟨lo, hlo⟩ : ∃ n : Int, n = (rkLo T tn : Nat) := ⟨_, rfl⟩
  obtain ⟨hi, hhi⟩ : ∃ n : Int, n = (rkHi T tn : Nat) := ⟨_, rfl⟩
  obtain ⟨cl, hcl⟩ : ∃ n : Int, n = cutN T.length (loT T) fn := ⟨_, rfl⟩
  obtain ⟨cu, hcu⟩ : ∃ n : Int, n = cutN T.length (hiT T) fn := ⟨_, rfl⟩
  obtain ⟨rn, hrn⟩ : ∃ n : Int, n = (rnk L.length (vT L) tn : Nat) := ⟨_, rfl⟩
  obtain ⟨cn, hcn⟩ : ∃ n : Int, n = cutN L.length (vT L) fn := ⟨_, rfl⟩
  have HR1 := Lib.hid (fun x : ExtW W4 => ExtW.callX (v := .tuple #[.agg #[.int .i64 lo, .int .i64 hi], .int .i64 0]) (x := x) (by
    have h := Rank06 C tn _ x.w (HVX.out _ x.h) HSM.out (HTX.out _ x.h)
    unfold rankLoA rankHiA at h
    rw [het, okN_0 rfl, okN_0 rfl, ← HTT.out, Int.toNat_natCast, ← hlo, ← hhi] at h
    exact h))
  have HC1 := Lib.hid (fun x : ExtW W4 => ExtW.callX (v := .tuple #[.agg #[.int .i64 cl, .int .i64 cu], .int .i64 0]) (x := x) (by
    have h := Cut06 C fn _ x.w (HVX.out _ x.h) HSM.out (HTX.out _ x.h) HWF.out
    unfold cutLoA cutHiA at h
    rw [hef, okN_0 rfl, okN_0 rfl, ← HTT.out, ← hcl, ← hcu] at h
    exact h))
  have HT1 := Lib.hid (fun x : ExtW W4 => ExtW.callL (l := topL T fn) (n := 0) (x := x) (by
    have h := Top06 C fn _ x.w (HVX.out _ x.h) HSM.out (HTX.out _ x.h) HWF.out
    unfold topA at h
    rw [hef, okL_0 rfl, ← HTT.out] at h
    exact h))
  have HM1' := Lib.hid (fun x : ExtW W4 => ExtW.callL (l := mayL T fn) (n := 0) (x := x) (by
    have h := May06 C fn _ x.w (HVX.out _ x.h) HSM.out (HTX.out _ x.h) HWF.out
    unfold mayA at h
    rw [hef, okL_0 rfl, ← HTT.out] at h
    exact h))
  have g1 : ¬rn < lo := by rw [hrn, hlo, hLl]; omega
  have g2 : ¬hi < rn := by rw [hrn, hhi, hLl]; omega
  have g3 : ¬cn < cl := by rw [hcn, hcl, hLl]; omega
  have g4 : ¬cu < cn := by rw [hcn, hcu, hLl]; omega
  have hl6 : (topL T fn).length ≤ 6 ∧ (mayL T fn).length ≤ 6 := ⟨Nat.le_trans pick_max HG.out.len, Nat.le_trans pick_max HG.out.len⟩
  have g5 : ¬(6 : Int) < ((topL T fn).length : Int) := by omega
  have g6 : ¬(6 : Int) < ((mayL T fn).length : Int) := by omega
  have HL6 := Lib.hid hl6
  have HRN := Lib.hid hrn
  have HCN := Lib.hid hcn
  have HLC := Lib.hid hLC
  clear hLl hLC htru het hef hb1 hb2 hlo hhi hcl hcu hrn hcn hl6
  go_upto_region 6 with (first
    | (go_at_call 28; refine (HIS.out _).mono ?_; rintro e w2 ⟨rfl, x2, rfl, -⟩))
  go_upto_region 7 with (go_at_call 18; refine (HR1.out _).mono ?_; rintro e w2 ⟨rfl, z1, rfl, hE2⟩)
  obtain ⟨p0, hs⟩ : ∃ s, s = z1.w.heap.size := ⟨_, rfl⟩
  obtain ⟨Wn, hWn⟩ : ∃ Wn, Wn = z1.w.alloc (.cells #[.int .i64 lo, .int .i64 hi] 36) := ⟨_, rfl⟩
  have hEn : Ext W4 Wn := by rw [hWn]; exact z1.h.alloc _
  have mn : Wn.heap[p0]? = some (.cells #[.int .i64 lo, .int .i64 hi] 36) := by rw [hWn, hs]; exact heap_new _ _
  rw [← hs, ← hWn]
  obtain ⟨y0, hyn⟩ := ExtW.of hEn
  conv => arg 5; rw [hyn]
  rw [hyn] at mn
  have HB0 := Lib.hid mn
  clear hs hWn hEn mn hyn hE2
  go_upto_region 8 with (go_at_call 20; refine (HC1.out _).mono ?_; rintro e w2 ⟨rfl, z2, rfl, hE2⟩)
  obtain ⟨p1, hs⟩ : ∃ s, s = z2.w.heap.size := ⟨_, rfl⟩
  obtain ⟨Wn, hWn⟩ : ∃ Wn, Wn = z2.w.alloc (.cells #[.int .i64 cl, .int .i64 cu] 36) := ⟨_, rfl⟩
  have hEn : Ext W4 Wn := by rw [hWn]; exact z2.h.alloc _
  have mn : Wn.heap[p1]? = some (.cells #[.int .i64 cl, .int .i64 cu] 36) := by rw [hWn, hs]; exact heap_new _ _
  have mo0 := heap_ext3 HB0.out ((show Ext y0.w Wn from by rw [hWn]; exact hE2.alloc _))
  rw [← hs, ← hWn]
  obtain ⟨y1, hyn⟩ := ExtW.of hEn
  conv => arg 5; rw [hyn]
  rw [hyn] at mn
  rw [hyn] at mo0
  clear HB0
  have HB0 := Lib.hid mo0
  clear mo0
  have HB1 := Lib.hid mn
  clear hs hWn hEn mn hyn hE2
  go_upto_region 9 with (go_at_call 29; refine (HT1.out _).mono ?_; rintro e w2 ⟨pk, ck, rfl, x5, rfl, hE5, hi5, -⟩)
  go_upto_region 10 with (go_at_call 30; refine (HM1'.out _).mono ?_; rintro e w2 ⟨pm, cm, rfl, x6, rfl, hE6, hi6, -⟩)
  obtain ⟨W10, hW10⟩ : ∃ W10, W10 = x6.w := ⟨_, rfl⟩
  have hE10 : Ext W4 W10 := by rw [hW10]; exact x6.h
  have m8 := heap_ext3 HB0.out (hE5.trans hE6)
  have m9 := heap_ext3 HB1.out (hE5.trans hE6)
  have hA1 := hi5.ext hE6
  rw [← hW10] at m8 m9 hA1 hi6 ⊢
  have HK1 := Lib.hid hA1
  have HK2 := Lib.hid hi6
  have d0 := ExtW.cell (v := .int .i64 lo) (cell_of_heap m8 0)
  have d1 := ExtW.cell (v := .int .i64 hi) (cell_of_heap m8 1)
  have d2 := ExtW.cell (v := .int .i64 cl) (cell_of_heap m9 0)
  have d3 := ExtW.cell (v := .int .i64 cu) (cell_of_heap m9 1)
  have m0 := heap_ext3 HM0.out hE10
  have m1 := heap_ext3 HM1.out hE10
  clear a0 a1 a2 a3 b0 b1
  have b0 := ExtW.cell (v := .int .i64 (tn : Int)) (cell_of_heap m1 0)
  have b1 := ExtW.cell (v := .int .i64 (fn : Int)) (cell_of_heap m1 1)
  have HE10 := Lib.hid (HEW.out.trans hE10)
  have hLC := HLC.out
  obtain ⟨qt, hqt⟩ : ∃ a : Nat, a = (atN L.length (vT L) fn).toNat := ⟨_, rfl⟩
  obtain ⟨ia, hia, hia2, -⟩ := atN_ex (n := L.length) (vT L) (k := fn) (by omega) (by omega)
  have hcv : cn = L[ia] := by rw [HCN.out]; unfold cutN; rw [hia, Int.toNat_natCast, vT_get hia2]
  obtain ⟨tb, tof, rfl, hta⟩ := HIL.out.at ia hia2
  have ax := ExtW.cell (HE10.out.cell hta)
  rw [← hcv] at ax
  have hia' : (ia : Int) < (L.length : Int) := by omega
  have HRI := Lib.hid (fun x : ExtW W10 => ExtW.call (by
    have h := RankIn06 L tn (by omega) (by omega) _ ct x.w (HIL.out.ext (HE10.out.trans x.h))
    rw [← HRN.out] at h
    exact h))
  have HAT := Lib.hid (fun x : ExtW W10 => ExtW.call (by
    have h := At06 L fn (by omega) (by omega) (by omega) _ ct x.w (HIL.out.ext (HE10.out.trans x.h))
    rw [hia] at h
    exact h))
  have HWK := Lib.hid (fun x : ExtW W10 => ExtW.callX (x := x) (works06 x.w (HTX.out _ (hE10.trans x.h))))
  obtain ⟨y10, hy10⟩ := ExtW.of (Ext.refl W10)
  clear hLC hW10 hE10 m8 m9 hA1 hi5 hi6 hE5 hE6 m0 m1 hqt hia hcv hta HR1 HC1 HT1 HM1' HIS
  conv => arg 5; rw [hy10]
  clear hy10
  go_upto_region 12 with (fail)
  refine wp_region_extW (by kernel_rfl) (by kernel_rfl) ?_
  repeat (go_big_quiet_step (first
    | (go_at_call 31; exact HRI.out _)
    | (go_at_call 32; exact HAT.out _)))
  refine wpQuiet_nil ?_
  rintro _ ⟨x12, rfl⟩
  clear HRI HAT ax hia' hia2 qt
  go_wp2
  go_loopw [18, 19] (fun a _ wr => ∃ k : Nat, k ≤ L.length ∧ a = .int .i64 k ∧ ∃ x : ExtW W10, wr = x.w) (fun a _ _ => L.length - (intOf a).toNat)
  case atStart => exact ⟨0, Nat.zero_le _, rfl, x12, rfl⟩
  case round =>
    obtain ⟨k, hk, rfl, x, rfl⟩ := hrel
    by_cases hlt : k < L.length
    · have hlt' : (k : Int) < (L.length : Int) := by omega
      have hL6 : L.length ≤ 6 := by have := HLC.out; omega
      have hkT : k < T.length := by rw [← HLL.out]; exact hlt
      have hb := rk_bounds HG.out.ok hkT HTR.out
      have htk : inL (topL T fn) (k : Int) = topF T fn k := inL_pick hkT
      have hmk : inL (mayL T fn) (k : Int) = mayF T fn k := inL_pick hkT
      have hri := fun x : ExtW W10 => ExtW.call (x := x) (RankIn06 L k hlt (by omega) _ ct x.w (HIL.out.ext (HE10.out.trans x.h)))
      rw [← HLL.out] at hb
      obtain ⟨n, hn⟩ : ∃ n : Nat, n = rnk L.length (vT L) k := ⟨_, rfl⟩
      rw [← hn] at hri hb
      have HRI := Lib.hid hri
      by_cases hnf : n ≤ fn
      · have hd : decide (n ≤ fn) = true := decide_eq_true hnf
        have hm : inL (mayL T fn) (k : Int) = true := by rw [hmk]; unfold mayF; rw [decide_eq_true_eq]; omega
        have HIN := Lib.hid (fun x : ExtW W10 => ExtW.call (x := x) (by
          have h := In02 pm (mayL T fn) cm (k : Int) x.w (by omega) (HK2.out.ext x.h)
          rw [hm] at h
          exact h))
        clear hri hn hb htk hmk hm hnf hL6 hkT
        go_upto_region 18 with (fail)
        refine wp_region_extW (by kernel_rfl) (by kernel_rfl) ?_
        repeat (go_big_quiet_step ((go_at_call 31; exact HRI.out _)))
        refine wpQuiet_nil ?_
        rintro _ ⟨x13, rfl⟩
        clear hd
        go_wp2_with (go_at_call 33; refine (HIN.out _).mono ?_; rintro e _ ⟨rfl, x14, rfl⟩)
        go_roundw
        case rel => exact ⟨k + 1, by omega, by simp, x14, rfl⟩
        case measure => simp [intOf]; omega
      · have hd : decide (n ≤ fn) = false := decide_eq_false hnf
        have hm : inL (topL T fn) (k : Int) = false := by rw [htk]; unfold topF; rw [decide_eq_false_iff_not]; omega
        have HIN := Lib.hid (fun x : ExtW W10 => ExtW.call (x := x) (by
          have h := In02 pk (topL T fn) ck (k : Int) x.w (by omega) (HK1.out.ext x.h)
          rw [hm] at h
          exact h))
        clear hri hn hb htk hmk hm hnf hL6 hkT
        go_upto_region 18 with (fail)
        refine wp_region_extW (by kernel_rfl) (by kernel_rfl) ?_
        repeat (go_big_quiet_step ((go_at_call 31; exact HRI.out _)))
        refine wpQuiet_nil ?_
        rintro _ ⟨x13, rfl⟩
        clear hd
        go_wp2_with (go_at_call 33; refine (HIN.out _).mono ?_; rintro e _ ⟨rfl, x14, rfl⟩)
        go_roundw
        case rel => exact ⟨k + 1, by omega, by simp, x14, rfl⟩
        case measure => simp [intOf]; omega
    · obtain rfl : k = L.length := by omega
      have hge : ¬((L.length : Int) < (L.length : Int)) := by omega
      go_wp2_with (go_at_call 12; refine (HWK.out _).mono ?_; rintro e _ ⟨rfl, x14, rfl, -⟩)
      go_ret
      exact RetE.fin (HE10.out.trans x14.h) rfl
end Go.Proofs.YtaoamnhchidjfaaGreatDoor
