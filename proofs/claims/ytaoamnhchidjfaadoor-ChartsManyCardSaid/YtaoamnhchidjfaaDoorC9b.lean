
/- The walk of ChartsMany. -/
import Derived.Test.YtaoamnhchidjfaaDoorC8g
import Derived.Test.YtaoamnhchidjfaaDoorC9a
namespace Go.Proofs.YtaoamnhchidjfaaDoor
open Go.RowKit

theorem wf_small {n : Int} (h : 0 ≤ n) (h2 : n ≤ 1000) : (Lit.int .i64 n).wf = true := by
  simp [Lit.wf, IntKind.min, IntKind.max, IntKind.signed, IntKind.bits]
  omega
theorem errC_or {C : Ch} (h : ValidC C) : errC C true = 0 ∨ errC C true = 3 := by
  cases hn : someN C C.meters.length
  · exact Or.inl (errC_ok h hn)
  · exact Or.inr (errC_none h hn)

set_option maxRecDepth 20000 in
set_option maxHeartbeats 16000000 in
theorem ChartsMany06 (v : Value) (C : Ch) (t f : Int) (w : World) (hv : ChV w v C) (hwf : (Lit.int .i64 f).wf = true) (hT : TabW w) :
    Calls Tryd.prog 3 #[v, .agg #[.int .i64 t, .int .i64 f]] w (RetE (.bool true) w) := by
  have HWF := Lib.hid hwf
  clear hwf
  have HV := Lib.hid hv
  have HT := Lib.hid hT
  obtain ⟨p, c, q, d, rfl, hp, hq⟩ := hv
  clear hp hq hT
  go_enter Tryd.func3, Tryd.ntmps3
  go_upto_region 1 with (fail)
  obtain ⟨s0, hs0⟩ : ∃ s0, s0 = w.heap.size := ⟨_, rfl⟩
  obtain ⟨W, hW⟩ : ∃ W, W = (w.alloc (.cells #[.slice p C.meters.length c, .slice q C.extra.length d, .int .i64 C.frm, .int .i64 C.tto] 25)).alloc (.cells #[.int .i64 t, .int .i64 f] 27) := ⟨_, rfl⟩
  have m0 : W.heap[s0]? = some (.cells #[.slice p C.meters.length c, .slice q C.extra.length d, .int .i64 C.frm, .int .i64 C.tto] 25) := by rw [hs0, hW, Below.heap_alloc _ _ _ (by rw [size_alloc]; omega)]; exact heap_new _ _
  have m1 : W.heap[s0 + 1]? = some (.cells #[.int .i64 t, .int .i64 f] 27) := by rw [hs0, hW]; exact heap_new2 _ _ _
  have hE : Ext w W := by rw [hW]; exact Ext.alloc (Ext.alloc (Ext.refl _) _) _
  rw [← hs0, ← hW]
  obtain ⟨s1, hs1⟩ : ∃ s1, s1 = s0 + 1 := ⟨_, rfl⟩
  rw [← hs1] at m1 ⊢
  have a0 := ExtW.cell (v := .slice p C.meters.length c) (cell_of_heap m0 0)
  have a1 := ExtW.cell (v := .slice q C.extra.length d) (cell_of_heap m0 1)
  have a2 := ExtW.cell (v := .int .i64 C.frm) (cell_of_heap m0 2)
  have a3 := ExtW.cell (v := .int .i64 C.tto) (cell_of_heap m0 3)
  have b0 := ExtW.cell (v := .int .i64 t) (cell_of_heap m1 0)
  have b1 := ExtW.cell (v := .int .i64 f) (cell_of_heap m1 1)
  have HM0 := Lib.hid m0
  have HM1 := Lib.hid m1
  have HE := Lib.hid hE
  have HS0 := Lib.hid hs0
  have HS1 := Lib.hid hs1
  have HVW := Lib.hid (fun y (h : Ext W y) => HV.out.ext (HE.out.trans h))
  have HTW := Lib.hid (HT.out.ext HE.out)
  have HWK := Lib.hid (fun x : ExtW W => ExtW.callX (x := x) (works06 x.w (HTW.out.ext x.h)))
  have HRD := Lib.hid (fun x : ExtW W => ExtW.callX (x := x) (ready06 C _ x.w (HVW.out _ x.h)))
  obtain ⟨y0, hy0⟩ := ExtW.of (Ext.refl W)
  clear hW m0 m1 hE hs0 hs1
  conv => arg 5; rw [hy0]
  clear hy0
  obtain ⟨b, hb⟩ : ∃ b, readyC C = b := ⟨_, rfl⟩
  rw [hb] at HRD
  cases b
  case false =>
    clear hb
    go_wp2_with (first
    | (go_at_call 6; refine (HRD.out _).mono ?_; rintro e w2 ⟨rfl, xr, rfl, -⟩)
    | (go_at_call 7; refine (HIT.out _).mono ?_; rintro e w2 ⟨rfl, xi, rfl, -⟩)
    | (go_at_call 8; refine (HIF.out _).mono ?_; rintro e w2 ⟨rfl, xf, rfl, -⟩)
    | (go_at_call 9; refine (HWK.out _).mono ?_; rintro e w2 ⟨rfl, xw, rfl, -⟩))
    go_ret
    exact RetE.fin (HE.out.trans xw.h) rfl
  obtain ⟨hfar, hC⟩ := readyC_iff.1 hb
  have HSM := Lib.hid (farC_sm hfar)
  have HC := Lib.hid hC
  have hn6 := hC.nm
  clear hb hfar hC
  have HIT := Lib.hid (fun x : ExtW W => ExtW.callX (x := x) (rIsTitle06 C t _ x.w (HVW.out _ x.h) (by omega)))
  have HIF := Lib.hid (fun x : ExtW W => ExtW.callX (x := x) (rIsRank06 C f _ x.w (HVW.out _ x.h) (by omega)))
  obtain ⟨bt, hbt⟩ : ∃ b, isTB C t = b := ⟨_, rfl⟩
  obtain ⟨bf, hbf⟩ : ∃ b, isFB C f = b := ⟨_, rfl⟩
  rw [hbt] at HIT
  rw [hbf] at HIF
  have HBT := Lib.hid hbt
  have HBF := Lib.hid hbf
  clear hbt hbf
  cases bt
  case false =>
    go_wp2_with (first
    | (go_at_call 6; refine (HRD.out _).mono ?_; rintro e w2 ⟨rfl, xr, rfl, -⟩)
    | (go_at_call 7; refine (HIT.out _).mono ?_; rintro e w2 ⟨rfl, xi, rfl, -⟩)
    | (go_at_call 8; refine (HIF.out _).mono ?_; rintro e w2 ⟨rfl, xf, rfl, -⟩)
    | (go_at_call 9; refine (HWK.out _).mono ?_; rintro e w2 ⟨rfl, xw, rfl, -⟩))
    go_ret
    exact RetE.fin (HE.out.trans xw.h) rfl
  cases bf
  case false =>
    go_wp2_with (first
    | (go_at_call 6; refine (HRD.out _).mono ?_; rintro e w2 ⟨rfl, xr, rfl, -⟩)
    | (go_at_call 7; refine (HIT.out _).mono ?_; rintro e w2 ⟨rfl, xi, rfl, -⟩)
    | (go_at_call 8; refine (HIF.out _).mono ?_; rintro e w2 ⟨rfl, xf, rfl, -⟩)
    | (go_at_call 9; refine (HWK.out _).mono ?_; rintro e w2 ⟨rfl, xw, rfl, -⟩))
    go_ret
    exact RetE.fin (HE.out.trans xw.h) rfl
  obtain ⟨z, hz⟩ : ∃ z, z = errC C true := ⟨_, rfl⟩
  have het : errT C t = z := by unfold errT; rw [HBT.out]; exact hz.symm
  have hef : errF C f = z := by unfold errF; rw [HBF.out]; exact hz.symm
  obtain ⟨lo, hlo⟩ : ∃ lo, lo = rankLoA C t := ⟨_, rfl⟩
  obtain ⟨hi, hhi⟩ : ∃ hi, hi = rankHiA C t := ⟨_, rfl⟩
  have HRK := Lib.hid (fun x : ExtW W => ExtW.callX (v := .tuple #[.agg #[.int .i64 lo, .int .i64 hi], .int .i64 z]) (x := x) (by
    have h := Rank06 C t _ x.w (HVW.out x.w x.h) HSM.out (HTW.out.ext x.h)
    rw [← hlo, ← hhi, het] at h
    exact h))
  have HZ := Lib.hid hz
  have HET := Lib.hid het
  have HEF := Lib.hid hef
  have HLO := Lib.hid hlo
  have HHI := Lib.hid hhi
  clear hz het hef hlo hhi
  go_upto_region 4 with (first
    | (go_at_call 6; refine (HRD.out _).mono ?_; rintro e w2 ⟨rfl, xr, rfl, -⟩)
    | (go_at_call 7; refine (HIT.out _).mono ?_; rintro e w2 ⟨rfl, xi, rfl, -⟩)
    | (go_at_call 8; refine (HIF.out _).mono ?_; rintro e w2 ⟨rfl, xf, rfl, -⟩)
    | (go_at_call 10; refine (HRK.out _).mono ?_; rintro e w2 ⟨rfl, x2, rfl, -⟩))
  obtain ⟨s3, hs3⟩ : ∃ s3, s3 = x2.w.heap.size := ⟨_, rfl⟩
  obtain ⟨W3, hW3⟩ : ∃ W3, W3 = x2.w.alloc (.cells #[.int .i64 lo, .int .i64 hi] 32) := ⟨_, rfl⟩
  have hE3 : Ext W W3 := by rw [hW3]; exact x2.h.alloc _
  have m0 := heap_ext3 HM0.out hE3
  have m1 := heap_ext3 HM1.out hE3
  have m3 : W3.heap[s3]? = some (.cells #[.int .i64 lo, .int .i64 hi] 32) := by rw [hW3, hs3]; exact heap_new _ _
  rw [← hs3, ← hW3]
  clear hW3 hs3 a0 a1 a2 a3 b0 b1 HRK HRD HIT HIF HWK
  have a0 := ExtW.cell (v := .slice p C.meters.length c) (cell_of_heap m0 0)
  have a1 := ExtW.cell (v := .slice q C.extra.length d) (cell_of_heap m0 1)
  have a2 := ExtW.cell (v := .int .i64 C.frm) (cell_of_heap m0 2)
  have a3 := ExtW.cell (v := .int .i64 C.tto) (cell_of_heap m0 3)
  have b0 := ExtW.cell (v := .int .i64 t) (cell_of_heap m1 0)
  have b1 := ExtW.cell (v := .int .i64 f) (cell_of_heap m1 1)
  have HM0 := Lib.hid m0
  have HM1 := Lib.hid m1
  have HM3 := Lib.hid m3
  have HE3 := Lib.hid hE3
  have HEW := Lib.hid (HE.out.trans hE3)
  have HWK := Lib.hid (fun x : ExtW W3 => ExtW.callX (x := x) (works06 x.w (HTW.out.ext (HE3.out.trans x.h))))
  obtain ⟨y3, hy3⟩ := ExtW.of (Ext.refl W3)
  clear m0 m1 m3 hE3
  conv => arg 5; rw [hy3]
  clear hy3
  by_cases hz : z = 0
  case neg =>
    have hz3 : z = 3 := by have := errC_or HC.out; rw [← HZ.out] at this; omega
    subst hz3
    clear hz
    have HTP := Lib.hid (fun x : ExtW W3 => ExtW.callL (l := []) (n := 3) (x := x) (by
      have h := Top06 C f _ x.w (HVW.out x.w (HE3.out.trans x.h)) HSM.out (HTW.out.ext (HE3.out.trans x.h)) HWF.out
      rw [HEF.out, show topA C f = [] from by unfold topA; rw [HEF.out]; rfl] at h
      exact h))
    have HMY := Lib.hid (fun x : ExtW W3 => ExtW.callL (l := []) (n := 3) (x := x) (by
      have h := May06 C f _ x.w (HVW.out x.w (HE3.out.trans x.h)) HSM.out (HTW.out.ext (HE3.out.trans x.h)) HWF.out
      rw [HEF.out, show mayA C f = [] from by unfold mayA; rw [HEF.out]; rfl] at h
      exact h))
    have HKN := Lib.hid (fun x : ExtW W3 => ExtW.callX (v := .bool true) (x := x) (isKnown06 3 x.w))
    go_wp2_with (first
      | (go_at_call 11; refine (HTP.out _).mono ?_; rintro e w2 ⟨pk, ck, rfl, x4, rfl, -⟩)
      | (go_at_call 12; refine (HMY.out _).mono ?_; rintro e w2 ⟨pm, cm, rfl, x5, rfl, -⟩)
      | (go_at_call 13; refine (HKN.out _).mono ?_; rintro e w2 ⟨rfl, x6, rfl, -⟩)
      | (go_at_call 9; refine (HWK.out _).mono ?_; rintro e w2 ⟨rfl, xw, rfl, -⟩))
    go_ret
    exact RetE.fin (HEW.out.trans xw.h) rfl
  subst hz
  obtain ⟨T, hTT⟩ : ∃ T, T = tabC C := ⟨_, rfl⟩
  obtain ⟨hCv, -, hso⟩ := errC_0 HZ.out.symm
  have hG := tabC_ok hCv hso
  have htl := tabC_len C
  rw [← hTT] at hG htl
  have HG := Lib.hid hG
  have HTL := Lib.hid htl
  obtain ⟨ht0, ht1⟩ := isTB_iff.1 HBT.out
  obtain ⟨hf1, hf2⟩ := isFB_iff.1 HBF.out
  obtain ⟨tn, htn⟩ : ∃ tn : Nat, t = tn := ⟨t.toNat, by omega⟩
  obtain ⟨fn, hfn⟩ : ∃ fn : Nat, f = fn := ⟨f.toNat, by omega⟩
  have htT : tn < T.length := by omega
  have hfT : fn ≤ T.length := by omega
  have hlo : lo = (rkLo T tn : Nat) := by rw [HLO.out]; unfold rankLoA; rw [HET.out, okN_0 rfl, ← hTT, htn]; rfl
  have hhi : hi = (rkHi T tn : Nat) := by rw [HHI.out]; unfold rankHiA; rw [HET.out, okN_0 rfl, ← hTT, htn]; rfl
  have htop : topA C f = topL T f := by unfold topA; rw [HEF.out, okL_0 rfl, ← hTT]
  have hmay : mayA C f = mayL T f := by unfold mayA; rw [HEF.out, okL_0 rfl, ← hTT]
  have hrk := rk_le hG.ok htT
  have hkm := top_may hG.ok f
  have hkl : (topL T f).length ≤ (mayL T f).length := sub_len hkm
  have hm6 : (mayL T f).length ≤ 6 := Nat.le_trans pick_max hG.len
  have hkf : ((topL T f).length : Int) ≤ f := by have := top_few hG.ok hfT; rw [← hfn] at this; omega
  have hmf : f ≤ ((mayL T f).length : Int) := by have := may_many hG.ok hfT; rw [← hfn] at this; omega
  have hik : inL (topL T f) t = decide (hi ≤ f) := by rw [htn, show topL T f = pickTo (topF T f) T.length from rfl, inL_pick htT, hhi]; rfl
  have him : inL (mayL T f) t = decide (lo ≤ f) := by rw [htn, show mayL T f = pickTo (mayF T f) T.length from rfl, inL_pick htT, hlo]; rfl
  have HKM := Lib.hid hkm
  have HTP := Lib.hid (fun x : ExtW W3 => ExtW.callL (l := topL T f) (n := 0) (x := x) (by
    have h := Top06 C f _ x.w (HVW.out x.w (HE3.out.trans x.h)) HSM.out (HTW.out.ext (HE3.out.trans x.h)) HWF.out
    rw [HEF.out, htop] at h
    exact h))
  have HMY := Lib.hid (fun x : ExtW W3 => ExtW.callL (l := mayL T f) (n := 0) (x := x) (by
    have h := May06 C f _ x.w (HVW.out x.w (HE3.out.trans x.h)) HSM.out (HTW.out.ext (HE3.out.trans x.h)) HWF.out
    rw [HEF.out, hmay] at h
    exact h))
  have HKN := Lib.hid (fun x : ExtW W3 => ExtW.callX (v := .bool true) (x := x) (isKnown06 0 x.w))
  have HIKM := Lib.hid (And.intro hik him)
  have HTN := Lib.hid (And.intro htn hfn)
  have HLH := Lib.hid (And.intro hlo hhi)
  have HTT := Lib.hid hTT
  clear hkm hik him htop hmay hlo hhi hrk hTT hG hCv hso htl htn hfn htT hfT
  go_upto_region 10 with (first
    | (go_at_call 11; refine (HTP.out _).mono ?_; rintro e w2 ⟨pk, ck, rfl, x4, rfl, -, hk4, -⟩)
    | (go_at_call 12; refine (HMY.out _).mono ?_; rintro e w2 ⟨pm, cm, rfl, x5, rfl, hE5, hm5, -⟩)
    | (go_at_call 13; refine (HKN.out _).mono ?_; rintro e w2 ⟨rfl, x6, rfl, hE6⟩))
  obtain ⟨W5, hW5⟩ : ∃ W5, W5 = x6.w := ⟨_, rfl⟩
  have HK5 := Lib.hid (show IntsAt W5 pk (topL T f) from by rw [hW5]; exact (hk4.ext hE5).ext hE6)
  have HM5 := Lib.hid (show IntsAt W5 pm (mayL T f) from by rw [hW5]; exact hm5.ext hE6)
  have h35 : Ext W3 W5 := by rw [hW5]; exact x6.h
  rw [← hW5]
  have HKC := Lib.hid (fun y (h : Ext W5 y) => (⟨(h35.trans h).cell (cell_of_heap HM1.out 0), (h35.trans h).cell (cell_of_heap HM1.out 1), (h35.trans h).cell (cell_of_heap HM3.out 0), (h35.trans h).cell (cell_of_heap HM3.out 1)⟩ :
    y.cell? ⟨s1, 0, none⟩ = some (.int .i64 t) ∧ y.cell? ⟨s1, 1, none⟩ = some (.int .i64 f) ∧ y.cell? ⟨s3, 0, none⟩ = some (.int .i64 lo) ∧ y.cell? ⟨s3, 1, none⟩ = some (.int .i64 hi)))
  have HSB := Lib.hid (fun y (h : Ext W5 y) => subset06 pk pm (topL T f) (mayL T f) ck cm y (HK5.out.ext h) (HM5.out.ext h) hkl hm6 HKM.out)
  have HIK := Lib.hid (fun y (h : Ext W5 y) => (HIKM.out.1 ▸ In02 pk (topL T f) ck t y (by omega) (HK5.out.ext h) : Calls Tryd.prog 15 #[.slice pk (topL T f).length ck, .int .i64 t] y (RetE (.bool (decide (hi ≤ f))) y)))
  have HIM := Lib.hid (fun y (h : Ext W5 y) => (HIKM.out.2 ▸ In02 pm (mayL T f) cm t y (by omega) (HM5.out.ext h) : Calls Tryd.prog 15 #[.slice pm (mayL T f).length cm, .int .i64 t] y (RetE (.bool (decide (lo ≤ f))) y)))
  have H35 := Lib.hid h35
  have HKF := Lib.hid (And.intro hkf hmf)
  have HKL := Lib.hid (And.intro hkl hm6)
  have g1 : ¬f < ((topL T f).length : Int) := by omega
  have g2 : ¬((mayL T f).length : Int) < f := by omega
  clear hW5 h35 hk4 hm5 hE5 hE6 hkf hmf hkl hm6 a0 a1 a2 a3 b0 b1 HTP HMY HKN
  refine wp_region_facts 41 [[], [], [0, 1], [2], [3, 2], [4], [5, 4], [4], [7, 4], [6, 8, 4], [4, 9], [10, 4], [11], [12, 11], [11], [14, 11], [13, 15, 11], [11, 16], [17, 11], [18], [18], [20, 18], [19, 21, 18], [18], [23, 18], [18], [25, 18], [24, 26, 18], [22, 27, 18], [18, 28], [29, 18], [30], [30], [32, 30], [31, 33, 30], [30], [35, 30], [30], [37, 30], [36, 38, 30], [34, 39, 30]] [30, 40] Ext (FL [Is (.slice pk (topL T f).length ck), Is (.slice pm (mayL T f).length cm), Is (.bool true), Is (.bool false), Is (.bool false), Is (.slice pk (topL T f).length ck), Is (.int .i64 ((topL T f).length : Int)), Is (.pointer (some ⟨s1, 1, none⟩)), Is (.int .i64 f), Is (.bool false), Is (.bool false), Is (.bool false), Is (.slice pm (mayL T f).length cm), Is (.int .i64 ((mayL T f).length : Int)), Is (.pointer (some ⟨s1, 1, none⟩)), Is (.int .i64 f), Is (.bool false), Is (.bool false), Is (.bool false), Is (.slice pk (topL T f).length ck), Is (.pointer (some ⟨s1, 0, none⟩)), Is (.int .i64 t), Is (.bool (decide (hi ≤ f))), Is (.pointer (some ⟨s3, 1, none⟩)), Is (.int .i64 hi), Is (.pointer (some ⟨s1, 1, none⟩)), Is (.int .i64 f), Is (.bool (decide (hi ≤ f))), Is (.bool false), Is (.bool false), Is (.bool false), Is (.slice pm (mayL T f).length cm), Is (.pointer (some ⟨s1, 0, none⟩)), Is (.int .i64 t), Is (.bool (decide (lo ≤ f))), Is (.pointer (some ⟨s3, 0, none⟩)), Is (.int .i64 lo), Is (.pointer (some ⟨s1, 1, none⟩)), Is (.int .i64 f), Is (.bool (decide (lo ≤ f))), Is (.bool false)]) (by kernel_rfl) (by kernel_rfl) Ext.refl (fun _ _ _ => Ext.trans) (fun _ _ => Ext.size) (FL.mono ⟨Is.mono, Is.mono, Is.mono, Is.mono, Is.mono, Is.mono, Is.mono, Is.mono, Is.mono, Is.mono, Is.mono, Is.mono, Is.mono, Is.mono, Is.mono, Is.mono, Is.mono, Is.mono, Is.mono, Is.mono, Is.mono, Is.mono, Is.mono, Is.mono, Is.mono, Is.mono, Is.mono, Is.mono, Is.mono, Is.mono, Is.mono, Is.mono, Is.mono, Is.mono, Is.mono, Is.mono, Is.mono, Is.mono, Is.mono, Is.mono, Is.mono, trivial⟩) ⟨?_, ?_, ?_, ?_, ?_, ?_, ?_, ?_, ?_, ?_, ?_, ?_, ?_, ?_, ?_, ?_, ?_, ?_, ?_, ?_, ?_, ?_, ?_, ?_, ?_, ?_, ?_, ?_, ?_, ?_, ?_, ?_, ?_, ?_, ?_, ?_, ?_, ?_, ?_, ?_, ?_, trivial⟩ ?_
  · refine opF_step ?_
    intro ys l0 h0 w' hr hf K hK
    clear hf
    simp only [fill, Act.put, dstO, List.take_succ_cons, List.take_zero, List.setIfInBounds_toArray, List.set_cons_zero, List.set_cons_succ, List.getElem?_cons_zero, Nat.zero_add, Nat.reduceAdd] at hK ⊢
    refine OpB.mk' ?_
    go_simp
    exact hK.out _ _ rfl (Ext.refl _)
  · refine opF_step ?_
    intro ys l0 h0 w' hr hf K hK
    clear hf
    simp only [fill, Act.put, dstO, List.take_succ_cons, List.take_zero, List.setIfInBounds_toArray, List.set_cons_zero, List.set_cons_succ, List.getElem?_cons_zero, List.getElem?_cons_succ, Nat.zero_add, Nat.reduceAdd] at hK ⊢
    refine OpB.mk' ?_
    go_simp
    exact hK.out _ _ rfl (Ext.refl _)
  · refine opF_step ?_
    intro ys l0 h0 w' hr hf K hK
    obtain ⟨f0, f1, -⟩ := hf
    have e0 : ys 0 = _ := f0
    have e1 : ys 1 = _ := f1
    simp only [fill, Act.put, dstO, List.take_succ_cons, List.take_zero, List.setIfInBounds_toArray, List.set_cons_zero, List.set_cons_succ, List.getElem?_cons_zero, List.getElem?_cons_succ, Nat.zero_add, Nat.reduceAdd] at hK ⊢
    simp only [e0, e1] at hK ⊢
    clear e0 e1 f0 f1
    refine OpB.mk' ?_
    go_simp
    refine (HSB.out w' ((Ext.refl W5).drew.trans hr)).mono ?_
    rintro e w2 ⟨rfl, hE2⟩
    exact hK.out _ _ rfl hE2
  · refine opF_step ?_
    intro ys l0 h0 w' hr hf K hK
    obtain ⟨f0, -⟩ := hf
    have e0 : ys 2 = _ := f0
    simp only [fill, Act.put, dstO, List.take_succ_cons, List.take_zero, List.setIfInBounds_toArray, List.set_cons_zero, List.set_cons_succ, List.getElem?_cons_zero, List.getElem?_cons_succ, Nat.zero_add, Nat.reduceAdd] at hK ⊢
    simp only [e0] at hK ⊢
    clear e0 f0
    refine OpB.mk' ?_
    go_simp
    exact hK.out _ _ rfl (Ext.refl _)
  · refine opF_step ?_
    intro ys l0 h0 w' hr hf K hK
    obtain ⟨f0, f1, -⟩ := hf
    have e0 : ys 3 = _ := f0
    have e1 : ys 2 = _ := f1
    simp only [fill, Act.put, dstO, List.take_succ_cons, List.take_zero, List.setIfInBounds_toArray, List.set_cons_zero, List.set_cons_succ, List.getElem?_cons_zero, List.getElem?_cons_succ, Nat.zero_add, Nat.reduceAdd] at hK ⊢
    simp only [e0, e1] at hK ⊢
    clear e0 e1 f0 f1
    refine OpB.mk' ?_
    go_simp
    exact hK.out _ _ rfl (Ext.refl _)
  · refine opF_step ?_
    intro ys l0 h0 w' hr hf K hK
    obtain ⟨f0, -⟩ := hf
    have e0 : ys 4 = _ := f0
    simp only [fill, Act.put, dstO, List.take_succ_cons, List.take_zero, List.setIfInBounds_toArray, List.set_cons_zero, List.set_cons_succ, List.getElem?_cons_zero, List.getElem?_cons_succ, Nat.zero_add, Nat.reduceAdd] at hK ⊢
    simp only [e0] at hK ⊢
    clear e0 f0
    refine OpB.mk' ?_
    go_simp
    exact hK.out _ _ rfl (Ext.refl _)
  · refine opF_step ?_
    intro ys l0 h0 w' hr hf K hK
    obtain ⟨f0, f1, -⟩ := hf
    have e0 : ys 5 = _ := f0
    have e1 : ys 4 = _ := f1
    simp only [fill, Act.put, dstO, List.take_succ_cons, List.take_zero, List.setIfInBounds_toArray, List.set_cons_zero, List.set_cons_succ, List.getElem?_cons_zero, List.getElem?_cons_succ, Nat.zero_add, Nat.reduceAdd] at hK ⊢
    simp only [e0, e1] at hK ⊢
    clear e0 e1 f0 f1
    refine OpB.mk' ?_
    go_simp
    exact hK.out _ _ rfl (Ext.refl _)
  · refine opF_step ?_
    intro ys l0 h0 w' hr hf K hK
    obtain ⟨f0, -⟩ := hf
    have e0 : ys 4 = _ := f0
    simp only [fill, Act.put, dstO, List.take_succ_cons, List.take_zero, List.setIfInBounds_toArray, List.set_cons_zero, List.set_cons_succ, List.getElem?_cons_zero, List.getElem?_cons_succ, Nat.zero_add, Nat.reduceAdd] at hK ⊢
    simp only [e0] at hK ⊢
    clear e0 f0
    refine OpB.mk' ?_
    go_simp
    exact hK.out _ _ rfl (Ext.refl _)
  · refine opF_step ?_
    intro ys l0 h0 w' hr hf K hK
    obtain ⟨f0, f1, -⟩ := hf
    have e0 : ys 7 = _ := f0
    have e1 : ys 4 = _ := f1
    obtain ⟨j0, j1, j2, j3⟩ := HKC.out w' ((Ext.refl W5).drew.trans hr)
    simp only [fill, Act.put, dstO, List.take_succ_cons, List.take_zero, List.setIfInBounds_toArray, List.set_cons_zero, List.set_cons_succ, List.getElem?_cons_zero, List.getElem?_cons_succ, Nat.zero_add, Nat.reduceAdd] at hK ⊢
    simp only [e0, e1] at hK ⊢
    clear e0 e1 f0 f1
    refine OpB.mk' ?_
    go_simp
    exact hK.out _ _ rfl (Ext.refl _)
  · refine opF_step ?_
    intro ys l0 h0 w' hr hf K hK
    obtain ⟨f0, f1, f2, -⟩ := hf
    have e0 : ys 6 = _ := f0
    have e1 : ys 8 = _ := f1
    have e2 : ys 4 = _ := f2
    simp only [fill, Act.put, dstO, List.take_succ_cons, List.take_zero, List.setIfInBounds_toArray, List.set_cons_zero, List.set_cons_succ, List.getElem?_cons_zero, List.getElem?_cons_succ, Nat.zero_add, Nat.reduceAdd] at hK ⊢
    simp only [e0, e1, e2] at hK ⊢
    clear e0 e1 e2 f0 f1 f2
    refine OpB.mk' ?_
    go_simp
    exact hK.out _ _ rfl (Ext.refl _)
  · refine opF_step ?_
    intro ys l0 h0 w' hr hf K hK
    obtain ⟨f0, f1, -⟩ := hf
    have e0 : ys 4 = _ := f0
    have e1 : ys 9 = _ := f1
    simp only [fill, Act.put, dstO, List.take_succ_cons, List.take_zero, List.setIfInBounds_toArray, List.set_cons_zero, List.set_cons_succ, List.getElem?_cons_zero, List.getElem?_cons_succ, Nat.zero_add, Nat.reduceAdd] at hK ⊢
    simp only [e0, e1] at hK ⊢
    clear e0 e1 f0 f1
    refine OpB.mk' ?_
    go_simp
    exact hK.out _ _ rfl (Ext.refl _)
  · refine opF_step ?_
    intro ys l0 h0 w' hr hf K hK
    obtain ⟨f0, f1, -⟩ := hf
    have e0 : ys 10 = _ := f0
    have e1 : ys 4 = _ := f1
    simp only [fill, Act.put, dstO, List.take_succ_cons, List.take_zero, List.setIfInBounds_toArray, List.set_cons_zero, List.set_cons_succ, List.getElem?_cons_zero, List.getElem?_cons_succ, Nat.zero_add, Nat.reduceAdd] at hK ⊢
    simp only [e0, e1] at hK ⊢
    clear e0 e1 f0 f1
    refine OpB.mk' ?_
    go_simp
    exact hK.out _ _ rfl (Ext.refl _)
  · refine opF_step ?_
    intro ys l0 h0 w' hr hf K hK
    obtain ⟨f0, -⟩ := hf
    have e0 : ys 11 = _ := f0
    simp only [fill, Act.put, dstO, List.take_succ_cons, List.take_zero, List.setIfInBounds_toArray, List.set_cons_zero, List.set_cons_succ, List.getElem?_cons_zero, List.getElem?_cons_succ, Nat.zero_add, Nat.reduceAdd] at hK ⊢
    simp only [e0] at hK ⊢
    clear e0 f0
    refine OpB.mk' ?_
    go_simp
    exact hK.out _ _ rfl (Ext.refl _)
  · refine opF_step ?_
    intro ys l0 h0 w' hr hf K hK
    obtain ⟨f0, f1, -⟩ := hf
    have e0 : ys 12 = _ := f0
    have e1 : ys 11 = _ := f1
    simp only [fill, Act.put, dstO, List.take_succ_cons, List.take_zero, List.setIfInBounds_toArray, List.set_cons_zero, List.set_cons_succ, List.getElem?_cons_zero, List.getElem?_cons_succ, Nat.zero_add, Nat.reduceAdd] at hK ⊢
    simp only [e0, e1] at hK ⊢
    clear e0 e1 f0 f1
    refine OpB.mk' ?_
    go_simp
    exact hK.out _ _ rfl (Ext.refl _)
  · refine opF_step ?_
    intro ys l0 h0 w' hr hf K hK
    obtain ⟨f0, -⟩ := hf
    have e0 : ys 11 = _ := f0
    simp only [fill, Act.put, dstO, List.take_succ_cons, List.take_zero, List.setIfInBounds_toArray, List.set_cons_zero, List.set_cons_succ, List.getElem?_cons_zero, List.getElem?_cons_succ, Nat.zero_add, Nat.reduceAdd] at hK ⊢
    simp only [e0] at hK ⊢
    clear e0 f0
    refine OpB.mk' ?_
    go_simp
    exact hK.out _ _ rfl (Ext.refl _)
  · refine opF_step ?_
    intro ys l0 h0 w' hr hf K hK
    obtain ⟨f0, f1, -⟩ := hf
    have e0 : ys 14 = _ := f0
    have e1 : ys 11 = _ := f1
    obtain ⟨j0, j1, j2, j3⟩ := HKC.out w' ((Ext.refl W5).drew.trans hr)
    simp only [fill, Act.put, dstO, List.take_succ_cons, List.take_zero, List.setIfInBounds_toArray, List.set_cons_zero, List.set_cons_succ, List.getElem?_cons_zero, List.getElem?_cons_succ, Nat.zero_add, Nat.reduceAdd] at hK ⊢
    simp only [e0, e1] at hK ⊢
    clear e0 e1 f0 f1
    refine OpB.mk' ?_
    go_simp
    exact hK.out _ _ rfl (Ext.refl _)
  · refine opF_step ?_
    intro ys l0 h0 w' hr hf K hK
    obtain ⟨f0, f1, f2, -⟩ := hf
    have e0 : ys 13 = _ := f0
    have e1 : ys 15 = _ := f1
    have e2 : ys 11 = _ := f2
    simp only [fill, Act.put, dstO, List.take_succ_cons, List.take_zero, List.setIfInBounds_toArray, List.set_cons_zero, List.set_cons_succ, List.getElem?_cons_zero, List.getElem?_cons_succ, Nat.zero_add, Nat.reduceAdd] at hK ⊢
    simp only [e0, e1, e2] at hK ⊢
    clear e0 e1 e2 f0 f1 f2
    refine OpB.mk' ?_
    go_simp
    exact hK.out _ _ rfl (Ext.refl _)
  · refine opF_step ?_
    intro ys l0 h0 w' hr hf K hK
    obtain ⟨f0, f1, -⟩ := hf
    have e0 : ys 11 = _ := f0
    have e1 : ys 16 = _ := f1
    simp only [fill, Act.put, dstO, List.take_succ_cons, List.take_zero, List.setIfInBounds_toArray, List.set_cons_zero, List.set_cons_succ, List.getElem?_cons_zero, List.getElem?_cons_succ, Nat.zero_add, Nat.reduceAdd] at hK ⊢
    simp only [e0, e1] at hK ⊢
    clear e0 e1 f0 f1
    refine OpB.mk' ?_
    go_simp
    exact hK.out _ _ rfl (Ext.refl _)
  · refine opF_step ?_
    intro ys l0 h0 w' hr hf K hK
    obtain ⟨f0, f1, -⟩ := hf
    have e0 : ys 17 = _ := f0
    have e1 : ys 11 = _ := f1
    simp only [fill, Act.put, dstO, List.take_succ_cons, List.take_zero, List.setIfInBounds_toArray, List.set_cons_zero, List.set_cons_succ, List.getElem?_cons_zero, List.getElem?_cons_succ, Nat.zero_add, Nat.reduceAdd] at hK ⊢
    simp only [e0, e1] at hK ⊢
    clear e0 e1 f0 f1
    refine OpB.mk' ?_
    go_simp
    exact hK.out _ _ rfl (Ext.refl _)
  · refine opF_step ?_
    intro ys l0 h0 w' hr hf K hK
    obtain ⟨f0, -⟩ := hf
    have e0 : ys 18 = _ := f0
    simp only [fill, Act.put, dstO, List.take_succ_cons, List.take_zero, List.setIfInBounds_toArray, List.set_cons_zero, List.set_cons_succ, List.getElem?_cons_zero, List.getElem?_cons_succ, Nat.zero_add, Nat.reduceAdd] at hK ⊢
    simp only [e0] at hK ⊢
    clear e0 f0
    refine OpB.mk' ?_
    go_simp
    exact hK.out _ _ rfl (Ext.refl _)
  · refine opF_step ?_
    intro ys l0 h0 w' hr hf K hK
    obtain ⟨f0, -⟩ := hf
    have e0 : ys 18 = _ := f0
    simp only [fill, Act.put, dstO, List.take_succ_cons, List.take_zero, List.setIfInBounds_toArray, List.set_cons_zero, List.set_cons_succ, List.getElem?_cons_zero, List.getElem?_cons_succ, Nat.zero_add, Nat.reduceAdd] at hK ⊢
    simp only [e0] at hK ⊢
    clear e0 f0
    refine OpB.mk' ?_
    go_simp
    exact hK.out _ _ rfl (Ext.refl _)
  · refine opF_step ?_
    intro ys l0 h0 w' hr hf K hK
    obtain ⟨f0, f1, -⟩ := hf
    have e0 : ys 20 = _ := f0
    have e1 : ys 18 = _ := f1
    obtain ⟨j0, j1, j2, j3⟩ := HKC.out w' ((Ext.refl W5).drew.trans hr)
    simp only [fill, Act.put, dstO, List.take_succ_cons, List.take_zero, List.setIfInBounds_toArray, List.set_cons_zero, List.set_cons_succ, List.getElem?_cons_zero, List.getElem?_cons_succ, Nat.zero_add, Nat.reduceAdd] at hK ⊢
    simp only [e0, e1] at hK ⊢
    clear e0 e1 f0 f1
    refine OpB.mk' ?_
    go_simp
    exact hK.out _ _ rfl (Ext.refl _)
  · refine opF_step ?_
    intro ys l0 h0 w' hr hf K hK
    obtain ⟨f0, f1, f2, -⟩ := hf
    have e0 : ys 19 = _ := f0
    have e1 : ys 21 = _ := f1
    have e2 : ys 18 = _ := f2
    simp only [fill, Act.put, dstO, List.take_succ_cons, List.take_zero, List.setIfInBounds_toArray, List.set_cons_zero, List.set_cons_succ, List.getElem?_cons_zero, List.getElem?_cons_succ, Nat.zero_add, Nat.reduceAdd] at hK ⊢
    simp only [e0, e1, e2] at hK ⊢
    clear e0 e1 e2 f0 f1 f2
    refine OpB.mk' ?_
    go_simp
    refine (HIK.out w' ((Ext.refl W5).drew.trans hr)).mono ?_
    rintro e w2 ⟨rfl, hE2⟩
    exact hK.out _ _ rfl hE2
  · refine opF_step ?_
    intro ys l0 h0 w' hr hf K hK
    obtain ⟨f0, -⟩ := hf
    have e0 : ys 18 = _ := f0
    simp only [fill, Act.put, dstO, List.take_succ_cons, List.take_zero, List.setIfInBounds_toArray, List.set_cons_zero, List.set_cons_succ, List.getElem?_cons_zero, List.getElem?_cons_succ, Nat.zero_add, Nat.reduceAdd] at hK ⊢
    simp only [e0] at hK ⊢
    clear e0 f0
    refine OpB.mk' ?_
    go_simp
    exact hK.out _ _ rfl (Ext.refl _)
  · refine opF_step ?_
    intro ys l0 h0 w' hr hf K hK
    obtain ⟨f0, f1, -⟩ := hf
    have e0 : ys 23 = _ := f0
    have e1 : ys 18 = _ := f1
    obtain ⟨j0, j1, j2, j3⟩ := HKC.out w' ((Ext.refl W5).drew.trans hr)
    simp only [fill, Act.put, dstO, List.take_succ_cons, List.take_zero, List.setIfInBounds_toArray, List.set_cons_zero, List.set_cons_succ, List.getElem?_cons_zero, List.getElem?_cons_succ, Nat.zero_add, Nat.reduceAdd] at hK ⊢
    simp only [e0, e1] at hK ⊢
    clear e0 e1 f0 f1
    refine OpB.mk' ?_
    go_simp
    exact hK.out _ _ rfl (Ext.refl _)
  · refine opF_step ?_
    intro ys l0 h0 w' hr hf K hK
    obtain ⟨f0, -⟩ := hf
    have e0 : ys 18 = _ := f0
    simp only [fill, Act.put, dstO, List.take_succ_cons, List.take_zero, List.setIfInBounds_toArray, List.set_cons_zero, List.set_cons_succ, List.getElem?_cons_zero, List.getElem?_cons_succ, Nat.zero_add, Nat.reduceAdd] at hK ⊢
    simp only [e0] at hK ⊢
    clear e0 f0
    refine OpB.mk' ?_
    go_simp
    exact hK.out _ _ rfl (Ext.refl _)
  · refine opF_step ?_
    intro ys l0 h0 w' hr hf K hK
    obtain ⟨f0, f1, -⟩ := hf
    have e0 : ys 25 = _ := f0
    have e1 : ys 18 = _ := f1
    obtain ⟨j0, j1, j2, j3⟩ := HKC.out w' ((Ext.refl W5).drew.trans hr)
    simp only [fill, Act.put, dstO, List.take_succ_cons, List.take_zero, List.setIfInBounds_toArray, List.set_cons_zero, List.set_cons_succ, List.getElem?_cons_zero, List.getElem?_cons_succ, Nat.zero_add, Nat.reduceAdd] at hK ⊢
    simp only [e0, e1] at hK ⊢
    clear e0 e1 f0 f1
    refine OpB.mk' ?_
    go_simp
    exact hK.out _ _ rfl (Ext.refl _)
  · refine opF_step ?_
    intro ys l0 h0 w' hr hf K hK
    obtain ⟨f0, f1, f2, -⟩ := hf
    have e0 : ys 24 = _ := f0
    have e1 : ys 26 = _ := f1
    have e2 : ys 18 = _ := f2
    simp only [fill, Act.put, dstO, List.take_succ_cons, List.take_zero, List.setIfInBounds_toArray, List.set_cons_zero, List.set_cons_succ, List.getElem?_cons_zero, List.getElem?_cons_succ, Nat.zero_add, Nat.reduceAdd] at hK ⊢
    simp only [e0, e1, e2] at hK ⊢
    clear e0 e1 e2 f0 f1 f2
    refine OpB.mk' ?_
    go_simp
    exact hK.out _ _ rfl (Ext.refl _)
  · refine opF_step ?_
    intro ys l0 h0 w' hr hf K hK
    obtain ⟨f0, f1, f2, -⟩ := hf
    have e0 : ys 22 = _ := f0
    have e1 : ys 27 = _ := f1
    have e2 : ys 18 = _ := f2
    simp only [fill, Act.put, dstO, List.take_succ_cons, List.take_zero, List.setIfInBounds_toArray, List.set_cons_zero, List.set_cons_succ, List.getElem?_cons_zero, List.getElem?_cons_succ, Nat.zero_add, Nat.reduceAdd] at hK ⊢
    simp only [e0, e1, e2] at hK ⊢
    clear e0 e1 e2 f0 f1 f2
    refine OpB.mk' ?_
    go_simp
    exact hK.out _ _ rfl (Ext.refl _)
  · refine opF_step ?_
    intro ys l0 h0 w' hr hf K hK
    obtain ⟨f0, f1, -⟩ := hf
    have e0 : ys 18 = _ := f0
    have e1 : ys 28 = _ := f1
    simp only [fill, Act.put, dstO, List.take_succ_cons, List.take_zero, List.setIfInBounds_toArray, List.set_cons_zero, List.set_cons_succ, List.getElem?_cons_zero, List.getElem?_cons_succ, Nat.zero_add, Nat.reduceAdd] at hK ⊢
    simp only [e0, e1] at hK ⊢
    clear e0 e1 f0 f1
    refine OpB.mk' ?_
    go_simp
    exact hK.out _ _ rfl (Ext.refl _)
  · refine opF_step ?_
    intro ys l0 h0 w' hr hf K hK
    obtain ⟨f0, f1, -⟩ := hf
    have e0 : ys 29 = _ := f0
    have e1 : ys 18 = _ := f1
    simp only [fill, Act.put, dstO, List.take_succ_cons, List.take_zero, List.setIfInBounds_toArray, List.set_cons_zero, List.set_cons_succ, List.getElem?_cons_zero, List.getElem?_cons_succ, Nat.zero_add, Nat.reduceAdd] at hK ⊢
    simp only [e0, e1] at hK ⊢
    clear e0 e1 f0 f1
    refine OpB.mk' ?_
    go_simp
    exact hK.out _ _ rfl (Ext.refl _)
  · refine opF_step ?_
    intro ys l0 h0 w' hr hf K hK
    obtain ⟨f0, -⟩ := hf
    have e0 : ys 30 = _ := f0
    simp only [fill, Act.put, dstO, List.take_succ_cons, List.take_zero, List.setIfInBounds_toArray, List.set_cons_zero, List.set_cons_succ, List.getElem?_cons_zero, List.getElem?_cons_succ, Nat.zero_add, Nat.reduceAdd] at hK ⊢
    simp only [e0] at hK ⊢
    clear e0 f0
    refine OpB.mk' ?_
    go_simp
    exact hK.out _ _ rfl (Ext.refl _)
  · refine opF_step ?_
    intro ys l0 h0 w' hr hf K hK
    obtain ⟨f0, -⟩ := hf
    have e0 : ys 30 = _ := f0
    simp only [fill, Act.put, dstO, List.take_succ_cons, List.take_zero, List.setIfInBounds_toArray, List.set_cons_zero, List.set_cons_succ, List.getElem?_cons_zero, List.getElem?_cons_succ, Nat.zero_add, Nat.reduceAdd] at hK ⊢
    simp only [e0] at hK ⊢
    clear e0 f0
    refine OpB.mk' ?_
    go_simp
    exact hK.out _ _ rfl (Ext.refl _)
  · refine opF_step ?_
    intro ys l0 h0 w' hr hf K hK
    obtain ⟨f0, f1, -⟩ := hf
    have e0 : ys 32 = _ := f0
    have e1 : ys 30 = _ := f1
    obtain ⟨j0, j1, j2, j3⟩ := HKC.out w' ((Ext.refl W5).drew.trans hr)
    simp only [fill, Act.put, dstO, List.take_succ_cons, List.take_zero, List.setIfInBounds_toArray, List.set_cons_zero, List.set_cons_succ, List.getElem?_cons_zero, List.getElem?_cons_succ, Nat.zero_add, Nat.reduceAdd] at hK ⊢
    simp only [e0, e1] at hK ⊢
    clear e0 e1 f0 f1
    refine OpB.mk' ?_
    go_simp
    exact hK.out _ _ rfl (Ext.refl _)
  · refine opF_step ?_
    intro ys l0 h0 w' hr hf K hK
    obtain ⟨f0, f1, f2, -⟩ := hf
    have e0 : ys 31 = _ := f0
    have e1 : ys 33 = _ := f1
    have e2 : ys 30 = _ := f2
    simp only [fill, Act.put, dstO, List.take_succ_cons, List.take_zero, List.setIfInBounds_toArray, List.set_cons_zero, List.set_cons_succ, List.getElem?_cons_zero, List.getElem?_cons_succ, Nat.zero_add, Nat.reduceAdd] at hK ⊢
    simp only [e0, e1, e2] at hK ⊢
    clear e0 e1 e2 f0 f1 f2
    refine OpB.mk' ?_
    go_simp
    refine (HIM.out w' ((Ext.refl W5).drew.trans hr)).mono ?_
    rintro e w2 ⟨rfl, hE2⟩
    exact hK.out _ _ rfl hE2
  · refine opF_step ?_
    intro ys l0 h0 w' hr hf K hK
    obtain ⟨f0, -⟩ := hf
    have e0 : ys 30 = _ := f0
    simp only [fill, Act.put, dstO, List.take_succ_cons, List.take_zero, List.setIfInBounds_toArray, List.set_cons_zero, List.set_cons_succ, List.getElem?_cons_zero, List.getElem?_cons_succ, Nat.zero_add, Nat.reduceAdd] at hK ⊢
    simp only [e0] at hK ⊢
    clear e0 f0
    refine OpB.mk' ?_
    go_simp
    exact hK.out _ _ rfl (Ext.refl _)
  · refine opF_step ?_
    intro ys l0 h0 w' hr hf K hK
    obtain ⟨f0, f1, -⟩ := hf
    have e0 : ys 35 = _ := f0
    have e1 : ys 30 = _ := f1
    obtain ⟨j0, j1, j2, j3⟩ := HKC.out w' ((Ext.refl W5).drew.trans hr)
    simp only [fill, Act.put, dstO, List.take_succ_cons, List.take_zero, List.setIfInBounds_toArray, List.set_cons_zero, List.set_cons_succ, List.getElem?_cons_zero, List.getElem?_cons_succ, Nat.zero_add, Nat.reduceAdd] at hK ⊢
    simp only [e0, e1] at hK ⊢
    clear e0 e1 f0 f1
    refine OpB.mk' ?_
    go_simp
    exact hK.out _ _ rfl (Ext.refl _)
  · refine opF_step ?_
    intro ys l0 h0 w' hr hf K hK
    obtain ⟨f0, -⟩ := hf
    have e0 : ys 30 = _ := f0
    simp only [fill, Act.put, dstO, List.take_succ_cons, List.take_zero, List.setIfInBounds_toArray, List.set_cons_zero, List.set_cons_succ, List.getElem?_cons_zero, List.getElem?_cons_succ, Nat.zero_add, Nat.reduceAdd] at hK ⊢
    simp only [e0] at hK ⊢
    clear e0 f0
    refine OpB.mk' ?_
    go_simp
    exact hK.out _ _ rfl (Ext.refl _)
  · refine opF_step ?_
    intro ys l0 h0 w' hr hf K hK
    obtain ⟨f0, f1, -⟩ := hf
    have e0 : ys 37 = _ := f0
    have e1 : ys 30 = _ := f1
    obtain ⟨j0, j1, j2, j3⟩ := HKC.out w' ((Ext.refl W5).drew.trans hr)
    simp only [fill, Act.put, dstO, List.take_succ_cons, List.take_zero, List.setIfInBounds_toArray, List.set_cons_zero, List.set_cons_succ, List.getElem?_cons_zero, List.getElem?_cons_succ, Nat.zero_add, Nat.reduceAdd] at hK ⊢
    simp only [e0, e1] at hK ⊢
    clear e0 e1 f0 f1
    refine OpB.mk' ?_
    go_simp
    exact hK.out _ _ rfl (Ext.refl _)
  · refine opF_step ?_
    intro ys l0 h0 w' hr hf K hK
    obtain ⟨f0, f1, f2, -⟩ := hf
    have e0 : ys 36 = _ := f0
    have e1 : ys 38 = _ := f1
    have e2 : ys 30 = _ := f2
    simp only [fill, Act.put, dstO, List.take_succ_cons, List.take_zero, List.setIfInBounds_toArray, List.set_cons_zero, List.set_cons_succ, List.getElem?_cons_zero, List.getElem?_cons_succ, Nat.zero_add, Nat.reduceAdd] at hK ⊢
    simp only [e0, e1, e2] at hK ⊢
    clear e0 e1 e2 f0 f1 f2
    refine OpB.mk' ?_
    go_simp
    exact hK.out _ _ rfl (Ext.refl _)
  · refine opF_step ?_
    intro ys l0 h0 w' hr hf K hK
    obtain ⟨f0, f1, f2, -⟩ := hf
    have e0 : ys 34 = _ := f0
    have e1 : ys 39 = _ := f1
    have e2 : ys 30 = _ := f2
    simp only [fill, Act.put, dstO, List.take_succ_cons, List.take_zero, List.setIfInBounds_toArray, List.set_cons_zero, List.set_cons_succ, List.getElem?_cons_zero, List.getElem?_cons_succ, Nat.zero_add, Nat.reduceAdd] at hK ⊢
    simp only [e0, e1, e2] at hK ⊢
    clear e0 e1 e2 f0 f1 f2
    refine OpB.mk' ?_
    go_simp
    exact hK.out _ _ rfl (Ext.refl _)
  intro ys l0 h0 w2 hr hf hsp
  obtain ⟨f30, f40, -⟩ := hf
  have e30 : ys 30 = _ := f30
  have e40 : ys 40 = _ := f40
  simp only [fill, Act.put, List.take_succ_cons, List.take_zero, List.setIfInBounds_toArray, List.set_cons_zero, List.set_cons_succ, Nat.zero_add, Nat.reduceAdd, List.drop_succ_cons, List.drop_zero]
  rw [e30, e40]
  clear e30 f30 e40 f40
  clear hsp
  have hE52 : Ext W5 w2 := (Ext.refl W5).drew.trans hr
  have hx : Ext W3 w2 := H35.out.trans hE52
  have HX := Lib.hid hx
  have HK6 := Lib.hid (HK5.out.ext hE52)
  have HM6 := Lib.hid (HM5.out.ext hE52)
  have m0 := heap_ext3 HM0.out hx
  have m1 := heap_ext3 HM1.out hx
  have a0 := ExtW.cell (v := .slice p C.meters.length c) (cell_of_heap m0 0)
  have a1 := ExtW.cell (v := .slice q C.extra.length d) (cell_of_heap m0 1)
  have a2 := ExtW.cell (v := .int .i64 C.frm) (cell_of_heap m0 2)
  have a3 := ExtW.cell (v := .int .i64 C.tto) (cell_of_heap m0 3)
  have b0 := ExtW.cell (v := .int .i64 t) (cell_of_heap m1 0)
  have b1 := ExtW.cell (v := .int .i64 f) (cell_of_heap m1 1)
  clear hr hE52 hx m0 m1 g1 g2 HSB HIK HIM HKC HWK
  have HWK := Lib.hid (fun x : ExtW w2 => ExtW.callX (x := x) (works06 x.w (HTW.out.ext (HE3.out.trans (HX.out.trans x.h)))))
  go_upto_region 12 with (fail)
  obtain ⟨y5, hy5⟩ := ExtW.of (Ext.refl w2)
  conv => arg 5; rw [hy5]
  clear hy5
  by_cases hfl : f = (C.meters.length : Int)
  · have hl : ((topL T f).length : Int) = f := by
      have h := top_all HG.out.ok
      rw [HTL.out, ← hfl] at h
      omega
    subst hfl
    go_wp2_with (first
      | (go_at_call 9; refine (HWK.out _).mono ?_; rintro e w2 ⟨rfl, xw, rfl, -⟩))
    go_ret
    exact RetE.fin (HEW.out.trans (HX.out.trans xw.h)) rfl
  have hfn : f + 1 ≤ (C.meters.length : Int) := by omega
  have hw : IntKind.i64.wrap (f + 1) = f + 1 := IntWalk.i64_in _ (by omega)
  have hef : errF C (f + 1) = 0 := by unfold errF; rw [show isFB C (f + 1) = true from isFB_iff.2 ⟨by omega, hfn⟩]; exact HZ.out.symm
  have htop : topA C (f + 1) = topL T (f + 1) := by unfold topA; rw [hef, okL_0 rfl, ← HTT.out]
  have hmay : mayA C (f + 1) = mayL T (f + 1) := by unfold mayA; rw [hef, okL_0 rfl, ← HTT.out]
  have hwf := wf_small (n := f + 1) (by omega) (by omega)
  have HTP := Lib.hid (fun x : ExtW w2 => ExtW.callL (l := topL T (f + 1)) (n := 0) (x := x) (by
    have h := Top06 C (f + 1) _ x.w (HVW.out x.w (HE3.out.trans (HX.out.trans x.h))) HSM.out (HTW.out.ext (HE3.out.trans (HX.out.trans x.h))) hwf
    rw [hef, htop] at h
    exact h))
  have HMY := Lib.hid (fun x : ExtW w2 => ExtW.callL (l := mayL T (f + 1)) (n := 0) (x := x) (by
    have h := May06 C (f + 1) _ x.w (HVW.out x.w (HE3.out.trans (HX.out.trans x.h))) HSM.out (HTW.out.ext (HE3.out.trans (HX.out.trans x.h))) hwf
    rw [hef, hmay] at h
    exact h))
  have hks : ∀ x ∈ topL T f, x ∈ topL T (f + 1) := top_more (by omega)
  have hms : ∀ x ∈ mayL T f, x ∈ mayL T (f + 1) := may_more (by omega)
  have HSK := Lib.hid (fun (x : ExtW w2) a b (h : IntsAt x.w a (topL T (f + 1))) => ExtW.callX (v := .bool true) (x := x) (subset06 pk a (topL T f) (topL T (f + 1)) ck b x.w (HK6.out.ext x.h) h (sub_len hks) (Nat.le_trans pick_max HG.out.len) hks))
  have HSM2 := Lib.hid (fun (x : ExtW w2) a b (h : IntsAt x.w a (mayL T (f + 1))) => ExtW.callX (v := .bool true) (x := x) (subset06 pm a (mayL T f) (mayL T (f + 1)) cm b x.w (HM6.out.ext x.h) h (sub_len hms) (Nat.le_trans pick_max HG.out.len) hms))
  clear hef htop hmay hwf hks hms
  go_wp2_with (first
    | (go_at_call 11; refine (HTP.out _).mono ?_; rintro e w3 ⟨pk', ck', rfl, x4, rfl, -, hk4, -⟩)
    | (go_at_call 12; refine (HMY.out _).mono ?_; rintro e w3 ⟨pm', cm', rfl, x5, rfl, hE5, hm5, -⟩; have HK7 := Lib.hid (hk4.ext hE5); have HM7 := Lib.hid hm5; clear hk4 hE5 hm5)
    | (go_at_call 14; refine (HSM2.out _ _ _ HM8.out).mono ?_; rintro e w3 ⟨rfl, x8, rfl, -⟩)
    | (go_at_call 14; refine (HSK.out _ _ _ HK7.out).mono ?_; rintro e w3 ⟨rfl, x7, rfl, hE7⟩; have HM8 := Lib.hid (HM7.out.ext hE7); clear hE7)
    | (go_at_call 9; refine (HWK.out _).mono ?_; rintro e w3 ⟨rfl, xw, rfl, -⟩))
  go_ret
  exact RetE.fin (HEW.out.trans (HX.out.trans xw.h)) rfl
end Go.Proofs.YtaoamnhchidjfaaDoor
