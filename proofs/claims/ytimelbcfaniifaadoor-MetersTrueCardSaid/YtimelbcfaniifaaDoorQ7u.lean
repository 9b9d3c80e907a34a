/- The walk of MetersTrue. -/
import Derived.Test.YtimelbcfaniifaaDoorQ7t
namespace Go.Proofs.YtimelbcfaniifaaDoor
open Go.RowKit

theorem mem_pickTo {f : Nat → Bool} {k : Nat} {x : Int} : x ∈ pickTo f k ↔ ∃ i : Nat, i < k ∧ f i = true ∧ x = i := by
  unfold pickTo
  rw [List.mem_map]
  constructor
  · rintro ⟨i, hi, rfl⟩
    obtain ⟨h1, h2⟩ := List.mem_filter.1 hi
    exact ⟨i, List.mem_range.1 h1, h2, rfl⟩
  · rintro ⟨i, h1, h2, rfl⟩
    exact ⟨i, List.mem_filter.2 ⟨List.mem_range.2 h1, h2⟩, rfl⟩
section
variable {M : Mt} {D : Nat → Int}
theorem tru_strange (hM : ValidM M) (hD : Tru M D) {i : Nat} (hi : i < M.reads.length) (hr : D M.reads[i].1.toNat % 100 = M.reads[i].2) : inL (strangeA M) i = false := by
  refine Bool.eq_false_iff.2 fun e => ?_
  have h := (inL_iff _ _).1 e
  unfold strangeA at h
  rw [(askV_iff hM).2 ⟨D, hD⟩, okL_0 rfl] at h
  obtain ⟨j, h1, h2, h3⟩ := mem_pickTo.1 h
  obtain rfl : i = j := by omega
  unfold strangeF at h2
  have hm : M.reads[i] ∈ M.reads := List.getElem_mem hi
  rw [getD_at hi, can_eq hM hm, (can_iff hM hm (right := true)).2 ⟨D, hD, decide_eq_true hr⟩] at h2
  cases h2
theorem tru_sure (hM : ValidM M) (hD : Tru M D) {i : Nat} (hi : i < M.reads.length) (hr : ¬D M.reads[i].1.toNat % 100 = M.reads[i].2) : inL (sureA M) i = false := by
  refine Bool.eq_false_iff.2 fun e => ?_
  have h := (inL_iff _ _).1 e
  unfold sureA at h
  rw [(askV_iff hM).2 ⟨D, hD⟩, okL_0 rfl] at h
  obtain ⟨j, h1, h2, h3⟩ := mem_pickTo.1 h
  obtain rfl : i = j := by omega
  unfold sureF at h2
  have hm : M.reads[i] ∈ M.reads := List.getElem_mem hi
  rw [getD_at hi, can_eq hM hm, (can_iff hM hm (right := false)).2 ⟨D, hD, decide_eq_false hr⟩] at h2
  cases h2
end

set_option maxRecDepth 20000 in
set_option maxHeartbeats 16000000 in
theorem MetersTrue04 (v : Value) (M : Mt) (st : Int) (pp : Option Addr) (pc : Nat) (pl : List Int) (x0 x1 x2 x3 : Int) (w : World) (hv : MtV w v M) (hP : IntsAt w pp pl) (hT : TabW w) :
    Calls Tryd.prog 12 #[v, .agg #[.int .i64 st, .slice pp pl.length pc], .agg #[.int .i64 x0, .int .i64 x1, .int .i64 x2, .int .i64 x3]] w (RetE (.bool true) w) := by
  have HV := Lib.hid hv
  have HT := Lib.hid hT
  have HTV := Lib.hid (show ∀ y, Ext w y → TrV y (.agg #[.int .i64 st, .slice pp pl.length pc]) st pl from fun y h => ⟨pp, pc, rfl, hP.ext h⟩)
  have HPL := Lib.hid hP
  obtain ⟨p, c, qq, d, rfl, hp, hq⟩ := hv
  have HQ := Lib.hid hq
  clear hp hq hT hP
  go_enter Tryd.func12, Tryd.ntmps12
  go_upto_region 1 with (fail)
  obtain ⟨s0, hs0⟩ : ∃ s0, s0 = w.heap.size := ⟨_, rfl⟩
  obtain ⟨W, hW⟩ : ∃ W, W = ((w.alloc (.cells #[.slice p M.weeks.length c, .slice qq M.reads.length d, .int .i64 M.wrong] 25)).alloc (.cells #[.int .i64 st, .slice pp pl.length pc] 58)).alloc (.cells #[.int .i64 x0, .int .i64 x1, .int .i64 x2, .int .i64 x3] 27) := ⟨_, rfl⟩
  have m0 : W.heap[s0]? = some (.cells #[.slice p M.weeks.length c, .slice qq M.reads.length d, .int .i64 M.wrong] 25) := by rw [hs0]; exact heap_at0 (by rw [hW]; exact (by repeat (first | exact Ext.refl _ | assumption | refine Ext.drewN ?_ _ | refine Ext.drew ?_ | refine Ext.alloc ?_ _)))
  have m1 : W.heap[s0 + 1]? = some (.cells #[.int .i64 st, .slice pp pl.length pc] 58) := by rw [hs0, hW, Below.heap_alloc _ _ _ (by simp only [size_alloc]; omega)]; exact heap_new2 _ _ _
  have m2 : W.heap[s0 + 2]? = some (.cells #[.int .i64 x0, .int .i64 x1, .int .i64 x2, .int .i64 x3] 27) := by rw [hs0, hW]; exact heap_new3 _ _ _ _
  have hE : Ext w W := by rw [hW]; exact (by repeat (first | exact Ext.refl _ | assumption | refine Ext.drewN ?_ _ | refine Ext.drew ?_ | refine Ext.alloc ?_ _))
  rw [← hs0, ← hW]
  have a0 := ExtW.cell (v := .slice p M.weeks.length c) (cell_of_heap m0 0)
  have a1 := ExtW.cell (v := .slice qq M.reads.length d) (cell_of_heap m0 1)
  have a2 := ExtW.cell (v := .int .i64 M.wrong) (cell_of_heap m0 2)
  have k0 := ExtW.cell (v := .int .i64 x0) (cell_of_heap m2 0)
  have k1 := ExtW.cell (v := .int .i64 x1) (cell_of_heap m2 1)
  have k2 := ExtW.cell (v := .int .i64 x2) (cell_of_heap m2 2)
  have k3 := ExtW.cell (v := .int .i64 x3) (cell_of_heap m2 3)
  have HM0 := Lib.hid m0
  have HM1 := Lib.hid m1
  have HM2 := Lib.hid m2
  have HE := Lib.hid hE
  have HS0 := Lib.hid hs0
  have HWK := Lib.hid (fun x : ExtW W => ExtW.callX (x := x) (works04 x.w (HT.out.ext (HE.out.trans x.h))))
  have HRD := Lib.hid (fun x : ExtW W => ExtW.callX (x := x) (ready04 M _ x.w (HV.out.ext (HE.out.trans x.h))))
  have HAR := Lib.hid (fun x : ExtW W => ExtW.callX (x := x) (AreWeeks04 M x1 x2 _ x.w (HV.out.ext (HE.out.trans x.h))))
  have HIA := Lib.hid (fun x : ExtW W => ExtW.callX (x := x) (IsAfter04 M x3 _ x.w (HV.out.ext (HE.out.trans x.h))))
  have t0 := ExtW.cell (v := .int .i64 st) (cell_of_heap m1 0)
  have t1 := ExtW.cell (v := .slice pp pl.length pc) (cell_of_heap m1 1)
  obtain ⟨y0, hy0⟩ := ExtW.of (Ext.refl W)
  clear hW m0 m1 m2 hE hs0
  conv => arg 5; rw [hy0]
  clear hy0
  obtain ⟨b, hb⟩ : ∃ b, readyB M = b := ⟨_, rfl⟩
  rw [hb] at HRD
  obtain ⟨ba, hba⟩ : ∃ b, areB x1 x2 M.weeks.length = b := ⟨_, rfl⟩
  obtain ⟨bi, hbi⟩ : ∃ b, winB x3 0 M.weeks.length = b := ⟨_, rfl⟩
  rw [hba] at HAR
  rw [hbi] at HIA
  have HBI := Lib.hid hbi
  have HBA := Lib.hid hba
  clear hba hbi
  cases b
  case false =>
    clear hb
    go_wp2_with (first | (go_at_call 14; refine (HRD.out _).mono ?_; rintro e w2 ⟨rfl, xr, rfl, -⟩) | (go_at_call 16; refine (HWK.out _).mono ?_; rintro e w2 ⟨rfl, xw, rfl, -⟩))
    go_ret
    exact RetE.fin (HE.out.trans xw.h) rfl
  obtain ⟨hfar, hM⟩ := readyB_iff.1 hb
  have HVM := Lib.hid hM
  have hn5 := hM.nw
  have hn7 := hM.nr
  clear hb hfar hM
  by_cases h40 : 40 < pl.length
  · have h40' : 40 < (pl.length : Int) := by omega
    go_wp2_with (first | (go_at_call 14; refine (HRD.out _).mono ?_; rintro e w2 ⟨rfl, xr, rfl, -⟩) | (go_at_call 16; refine (HWK.out _).mono ?_; rintro e w2 ⟨rfl, xw, rfl, -⟩))
    go_ret
    exact RetE.fin (HE.out.trans xw.h) rfl
  have h40' : ¬40 < (pl.length : Int) := by omega
  have HIT := Lib.hid (fun x : ExtW W => ExtW.callX (x := x) (rIsTruth04 M HVM.out st pl (by omega) _ _ x.w (HV.out.ext (HE.out.trans x.h)) (HTV.out x.w (HE.out.trans x.h))))
  obtain ⟨bt, hbt⟩ : ∃ b, bP (truP M st pl) = b := ⟨_, rfl⟩
  rw [hbt] at HIT
  have HBT := Lib.hid hbt
  clear hbt
  cases bt
  case false =>
    go_wp2_with (first | (go_at_call 14; refine (HRD.out _).mono ?_; rintro e w2 ⟨rfl, xr, rfl, -⟩) | (go_at_call 15; refine (HAR.out _).mono ?_; rintro e w2 ⟨rfl, xa, rfl, -⟩) | (go_at_call 27; refine (HIA.out _).mono ?_; rintro e w2 ⟨rfl, xi, rfl, -⟩) | (go_at_call 46; refine (HIT.out _).mono ?_; rintro e w2 ⟨rfl, xt, rfl, -⟩) | (go_at_call 16; refine (HWK.out _).mono ?_; rintro e w2 ⟨rfl, xw, rfl, -⟩))
    go_ret
    exact RetE.fin (HE.out.trans xw.h) rfl
  cases ba
  case false =>
    go_wp2_with (first | (go_at_call 14; refine (HRD.out _).mono ?_; rintro e w2 ⟨rfl, xr, rfl, -⟩) | (go_at_call 15; refine (HAR.out _).mono ?_; rintro e w2 ⟨rfl, xa, rfl, -⟩) | (go_at_call 27; refine (HIA.out _).mono ?_; rintro e w2 ⟨rfl, xi, rfl, -⟩) | (go_at_call 46; refine (HIT.out _).mono ?_; rintro e w2 ⟨rfl, xt, rfl, -⟩) | (go_at_call 16; refine (HWK.out _).mono ?_; rintro e w2 ⟨rfl, xw, rfl, -⟩))
    go_ret
    exact RetE.fin (HE.out.trans xw.h) rfl
  cases bi
  case false =>
    go_wp2_with (first | (go_at_call 14; refine (HRD.out _).mono ?_; rintro e w2 ⟨rfl, xr, rfl, -⟩) | (go_at_call 15; refine (HAR.out _).mono ?_; rintro e w2 ⟨rfl, xa, rfl, -⟩) | (go_at_call 27; refine (HIA.out _).mono ?_; rintro e w2 ⟨rfl, xi, rfl, -⟩) | (go_at_call 46; refine (HIT.out _).mono ?_; rintro e w2 ⟨rfl, xt, rfl, -⟩) | (go_at_call 16; refine (HWK.out _).mono ?_; rintro e w2 ⟨rfl, xw, rfl, -⟩))
    go_ret
    exact RetE.fin (HE.out.trans xw.h) rfl
  have htr := bP_iff.1 HBT.out
  have hpo := truP_ok HVM.out htr.1 htr.2.1 htr.2.2.1
  have hD := truP_tru htr
  have hka := areB_iff.1 HBA.out
  have hia := winB_iff.1 HBI.out
  obtain ⟨f, rfl⟩ : ∃ f : Nat, x1 = f := ⟨x1.toNat, by omega⟩
  obtain ⟨t, rfl⟩ : ∃ t : Nat, x2 = t := ⟨x2.toNat, by omega⟩
  obtain ⟨a, rfl⟩ : ∃ a : Nat, x3 = a := ⟨x3.toNat, by omega⟩
  have hz : askV M true = 0 := (askV_iff HVM.out).2 ⟨_, hD⟩
  have hisa : isAf a M.weeks.length = true := isAf_iff.2 (by omega)
  have hln := htr.2.1
  have hfew : leastTo M 100 ≤ (Wd M (dOf st pl) : Nat) ∧ 0 ≤ leastTo M 100 := by
    rw [least_eq HVM.out]
    obtain ⟨h1, E, h2, h3⟩ := least_law HVM.out
    exact ⟨h1 _ hD.1, by omega⟩
  have hsm : inL (sumsA M f t) (dOf st pl t - dOf st pl f) = true := (inL_iff _ _).2 ((sumsA_mem HVM.out HBA.out hz).2 ⟨_, hD, by rw [Int.toNat_natCast, Int.toNat_natCast]⟩)
  have hsh : inL (showsA M a) (dOf st pl a % 100) = true := (inL_iff _ _).2 ((showsA_mem HVM.out hisa hz).2 ⟨_, hD, by rw [Int.toNat_natCast]⟩)
  have hrs : roundLo M ≤ dOf st pl pl.length / 100 ∧ dOf st pl pl.length / 100 ≤ roundHi M := (roundA_span HVM.out hz).2.2 _ ⟨dOf st pl, hD, by
    unfold rd
    rw [dOf_zero, hln]
    have := htr.1
    congr 1
    omega⟩
  have HWKS := Lib.hid (fun (i : Nat) (hi : i < pl.length) => (show weekLo M i ≤ pl[i] ∧ pl[i] ≤ weekHi M i from (weekA_span HVM.out (by omega) hz).2.2 _ ⟨dOf st pl, hD, by rw [dOf_succ hi]; omega⟩))
  have HSTR := Lib.hid (fun (i : Nat) (hi : i < M.reads.length) (hr : dOf st pl M.reads[i].1.toNat % 100 = M.reads[i].2) => tru_strange HVM.out hD hi hr)
  have HSUR := Lib.hid (fun (i : Nat) (hi : i < M.reads.length) (hr : ¬dOf st pl M.reads[i].1.toNat % 100 = M.reads[i].2) => tru_sure HVM.out hD hi hr)
  have HF1 := Lib.hid (fun x : ExtW W => ExtW.callX (x := x) (few_valid HVM.out (HV.out.ext (HE.out.trans x.h))))
  have HS1 := Lib.hid (fun x : ExtW W => ExtW.callL (l := sumsA M f t) (n := askV M (areB f t M.weeks.length)) (x := x) (Sums04 M f t _ x.w (HV.out.ext (HE.out.trans x.h)) (by omega) (by omega) (HT.out.ext (HE.out.trans x.h))))
  have HH1 := Lib.hid (fun x : ExtW W => ExtW.callL (l := showsA M a) (n := askV M (isAf a M.weeks.length)) (x := x) (Shows04 M a _ x.w (HV.out.ext (HE.out.trans x.h)) (by omega) (by omega)))
  rw [HBA.out, hz] at HS1
  rw [hisa, hz] at HH1
  have HR1 := Lib.hid (fun y (h : Ext W y) => Rounds04 M _ y (HV.out.ext (HE.out.trans h)) (by omega) (by omega) (HT.out.ext (HE.out.trans h)))
  rw [hz] at HR1
  have l1 := sumsA_len M f t
  have l2 := showsA_len M a
  have l3 := strangeA_len M
  have l4 := sureA_len M
  obtain ⟨A, hA⟩ : ∃ a, a = leastTo M 100 := ⟨_, rfl⟩
  obtain ⟨wn, hwn⟩ : ∃ a, a = Wd M (dOf st pl) := ⟨_, rfl⟩
  obtain ⟨s1, hs1⟩ : ∃ l, l = sumsA M f t := ⟨_, rfl⟩
  obtain ⟨s2, hs2⟩ : ∃ l, l = showsA M a := ⟨_, rfl⟩
  obtain ⟨s3, hs3⟩ : ∃ l, l = strangeA M := ⟨_, rfl⟩
  obtain ⟨s4, hs4⟩ : ∃ l, l = sureA M := ⟨_, rfl⟩
  obtain ⟨rlo, hrlo⟩ : ∃ r, r = roundLo M := ⟨_, rfl⟩
  obtain ⟨rhi, hrhi⟩ : ∃ r, r = roundHi M := ⟨_, rfl⟩
  have HWR := Lib.hid (fun y (h : Ext w y) => rWrongs04 M HVM.out st pl hpo hln _ _ y (HV.out.ext h) (HTV.out y h))
  have HSM := Lib.hid (fun y (h : Ext w y) => rSum04 st pl hpo f t (by omega) (by omega) _ y (HTV.out y h))
  have HSH := Lib.hid (fun y (h : Ext w y) => rShown04 st pl hpo a (by omega) _ y (HTV.out y h))
  have HRO := Lib.hid (fun y (h : Ext w y) => rRoundsOf04 st pl hpo _ y (HTV.out y h))
  have HIR := Lib.hid (fun y (h : Ext w y) (i : Nat) (z : Int) (hi : i ≤ pl.length) => rIsRight04 st pl hpo i z hi _ y (HTV.out y h))
  have HG1 := Lib.hid (fun x : ExtW W => ExtW.callL (l := strangeA M) (n := askV M true) (x := x) (Strange04 M _ x.w (HV.out.ext (HE.out.trans x.h)) (by omega) (by omega)))
  have HG2 := Lib.hid (fun x : ExtW W => ExtW.callL (l := sureA M) (n := askV M true) (x := x) (Sure04 M _ x.w (HV.out.ext (HE.out.trans x.h)) (by omega) (by omega)))
  rw [hz, ← hs3] at HG1
  rw [hz, ← hs4] at HG2
  rw [← hA] at HF1 hfew
  rw [← hwn] at hfew HWR
  rw [← hs1] at HS1 hsm l1
  rw [← hs2] at HH1 hsh l2
  rw [← hs3] at HSTR l3
  rw [← hs4] at HSUR l4
  rw [← hrlo, ← hrhi] at HR1 hrs
  obtain ⟨vs, hvs⟩ : ∃ x, x = dOf st pl t - dOf st pl f := ⟨_, rfl⟩
  obtain ⟨va, hva⟩ : ∃ x, x = dOf st pl a % 100 := ⟨_, rfl⟩
  obtain ⟨vr, hvr⟩ : ∃ x, x = dOf st pl pl.length / 100 := ⟨_, rfl⟩
  rw [← hvs] at hsm HSM
  rw [← hva] at hsh HSH
  rw [← hvr] at hrs HRO
  have HSMI := Lib.hid hsm
  have HSHI := Lib.hid hsh
  have HLN := Lib.hid hln
  have HRS := Lib.hid hrs
  have HZ := Lib.hid hz
  have HS3 := Lib.hid hs3
  have HS4 := Lib.hid hs4
  have hA0 : ¬A < 0 := by omega
  have hA1 : ¬(wn : Int) < A := by omega
  clear htr hpo hD hka hia hz hisa hln hfew hsm hsh hrs hA hwn hs1 hs2 hs3 hs4 hrlo hrhi hvs hva hvr
  go_upto_region 4 with (first | (go_at_call 14; refine (HRD.out _).mono ?_; rintro e w2 ⟨rfl, xr, rfl, -⟩) | (go_at_call 15; refine (HAR.out _).mono ?_; rintro e w2 ⟨rfl, xa, rfl, -⟩) | (go_at_call 27; refine (HIA.out _).mono ?_; rintro e w2 ⟨rfl, xi, rfl, -⟩) | (go_at_call 46; refine (HIT.out _).mono ?_; rintro e w2 ⟨rfl, xt, rfl, -⟩) | (go_at_call 28; refine (HF1.out _).mono ?_; rintro e w2 ⟨rfl, y1, rfl, -⟩))
  go_upto_region 5 with (go_at_call 17; refine (HS1.out _).mono ?_; rintro e w2 ⟨p1, cp1, rfl, y3, rfl, -, hI1, -⟩)
  have HI1 := Lib.hid hI1
  clear hI1
  go_upto_region 6 with (go_at_call 29; refine (HH1.out _).mono ?_; rintro e w2 ⟨p2, cp2, rfl, y4, rfl, hA4, hI2, -⟩)
  have HI1 := Lib.hid (HI1.out.ext hA4)
  have HI2 := Lib.hid hI2
  clear hA4 hI2
  have HRA := Lib.hid (HR1.out y4.w y4.h)
  go_upto_region 7 with (go_at_call 30; refine HRA.out.mono ?_; rintro e w2 ⟨rfl, hE8⟩)
  obtain ⟨s13, hs13⟩ : ∃ s13, s13 = w2.heap.size := ⟨_, rfl⟩
  obtain ⟨WG, hWG⟩ : ∃ WG, WG = w2.alloc (.cells #[.int .i64 rlo, .int .i64 rhi] 39) := ⟨_, rfl⟩
  have hE6 : Ext y4.w WG := by rw [hWG]; exact hE8.alloc _
  have hEG : Ext W WG := y4.h.trans hE6
  have m13 : WG.heap[s13]? = some (.cells #[.int .i64 rlo, .int .i64 rhi] 39) := by rw [hWG, hs13]; exact heap_new _ _
  rw [← hs13, ← hWG]
  have HEG := Lib.hid (HE.out.trans hEG)
  have q0 := heap_ext3 HM0.out hEG
  have q1 := heap_ext3 HM1.out hEG
  have q2 := heap_ext3 HM2.out hEG
  have a0 := ExtW.cell (v := .slice p M.weeks.length c) (cell_of_heap q0 0)
  have a1 := ExtW.cell (v := .slice qq M.reads.length d) (cell_of_heap q0 1)
  have a2 := ExtW.cell (v := .int .i64 M.wrong) (cell_of_heap q0 2)
  have t0 := ExtW.cell (v := .int .i64 st) (cell_of_heap q1 0)
  have t1 := ExtW.cell (v := .slice pp pl.length pc) (cell_of_heap q1 1)
  have k0 := ExtW.cell (v := .int .i64 x0) (cell_of_heap q2 0)
  have k1 := ExtW.cell (v := .int .i64 (f : Int)) (cell_of_heap q2 1)
  have k2 := ExtW.cell (v := .int .i64 (t : Int)) (cell_of_heap q2 2)
  have k3 := ExtW.cell (v := .int .i64 (a : Int)) (cell_of_heap q2 3)
  have d0 := ExtW.cell (v := .int .i64 rlo) (cell_of_heap m13 0)
  have d1 := ExtW.cell (v := .int .i64 rhi) (cell_of_heap m13 1)
  have HI1 := Lib.hid (HI1.out.ext hE6)
  have HI2 := Lib.hid (HI2.out.ext hE6)
  have HWR2 := Lib.hid (fun x : ExtW WG => ExtW.call (x := x) (HWR.out x.w (HEG.out.trans x.h)))
  have HSM2 := Lib.hid (fun x : ExtW WG => ExtW.call (x := x) (HSM.out x.w (HEG.out.trans x.h)))
  have HSH2 := Lib.hid (fun x : ExtW WG => ExtW.call (x := x) (HSH.out x.w (HEG.out.trans x.h)))
  have HRO2 := Lib.hid (fun x : ExtW WG => ExtW.call (x := x) (HRO.out x.w (HEG.out.trans x.h)))
  have HN1 := Lib.hid (fun x : ExtW WG => ExtW.call (x := x) (v := .bool true) (by have h := in04 p1 s1 cp1 vs x.w (by omega) (HI1.out.ext x.h); rwa [HSMI.out] at h))
  have HN2 := Lib.hid (fun x : ExtW WG => ExtW.call (x := x) (v := .bool true) (by have h := in04 p2 s2 cp2 va x.w (by omega) (HI2.out.ext x.h); rwa [HSHI.out] at h))
  have HHD := Lib.hid (fun x : ExtW WG => ExtW.call (x := x) (holds04 rlo rhi vr x.w HRS.out))
  have g1 : ¬2000 < (s1.length : Int) := by omega
  have g2 : ¬100 < (s2.length : Int) := by omega
  have g1' : decide (2000 < (s1.length : Int)) = false := decide_eq_false g1
  have g2' : decide (100 < (s2.length : Int)) = false := decide_eq_false g2
  have hA0' : decide (A < 0) = false := decide_eq_false (by omega)
  have hA1' : decide ((wn : Int) < A) = false := decide_eq_false (by omega)
  have HQ0 := Lib.hid q0
  have HQ1 := Lib.hid q1
  have HTG := Lib.hid (fun y (h : Ext WG y) => HT.out.ext (HEG.out.trans h))
  have HG1' := Lib.hid (fun x : ExtW WG => Strange04 M _ x.w (HV.out.ext (HEG.out.trans x.h)) (by omega) (by omega))
  have HG2' := Lib.hid (fun x : ExtW WG => Sure04 M _ x.w (HV.out.ext (HEG.out.trans x.h)) (by omega) (by omega))
  obtain ⟨z0, hz0⟩ := ExtW.of (Ext.refl WG)
  clear hE8 hs13 hWG hE6 hEG m13 q0 q1 q2 HRA HF1 HS1 HH1 HR1
  conv => arg 5; rw [hz0]
  clear hz0
  refine wp_region_extW (by kernel_rfl) (by kernel_rfl) ?_
  repeat (go_big_quiet_step (first
    | (go_at_call 47; exact HWR2.out _)
    | (go_at_call 48; exact HSM2.out _)
    | (go_at_call 49; exact HSH2.out _)
    | (go_at_call 51; exact HRO2.out _)
    | (go_at_call 50; exact HHD.out _)
    | (go_at_call 20; first | (with_reducible exact HN1.out _) | (with_reducible exact HN2.out _))))
  refine wpQuiet_nil ?_
  rintro _ ⟨z1, rfl⟩
  clear g1 g2 g1' g2' hA0' hA1' hA0 hA1 d0 d1 HWR2 HSM2 HSH2 HRO2 HHD HN1 HN2
  have HWK1 := Lib.hid (fun y (h : Ext WG y) (i : Nat) => Week04 M i _ y (HV.out.ext (HEG.out.trans h)) (by omega) (by omega) (HTG.out y h))
  go_wp2
  go_loopw [15] (fun i wr => ∃ i' : Nat, i' ≤ M.weeks.length ∧ i = .int .i64 i' ∧ ∃ x : ExtW WG, wr = x.w) (fun i _ => M.weeks.length - (intOf i).toNat)
  case atStart => exact ⟨0, Nat.zero_le _, rfl, z1, rfl⟩
  case round =>
    obtain ⟨i, hi', rfl, x, rfl⟩ := hrel
    by_cases hlt : i < M.weeks.length
    · have hlt' : (i : Int) < (M.weeks.length : Int) := by omega
      have hil : i < pl.length := by have := HLN.out; omega
      have hil' : (i : Int) < (pl.length : Int) := by omega
      have hisw : isWkB i M.weeks.length = true := isWkB_iff.2 (by omega)
      have hA := HWK1.out x.w x.h i
      have hbd := HWKS.out i hil
      rw [hisw, HZ.out] at hA
      obtain ⟨lo, hlo⟩ : ∃ r, r = weekLo M i := ⟨_, rfl⟩
      obtain ⟨hi, hhi⟩ : ∃ r, r = weekHi M i := ⟨_, rfl⟩
      rw [← hlo, ← hhi] at hA hbd
      have HWA := Lib.hid hA
      have HHB := Lib.hid hbd
      clear hA hbd hlo hhi hisw
      go_upto_region 13 with (go_at_call 21; refine HWA.out.mono ?_; rintro e w2 ⟨rfl, hE8⟩)
      obtain ⟨s15, hs15⟩ : ∃ s15, s15 = w2.heap.size := ⟨_, rfl⟩
      obtain ⟨WJ, hWJ⟩ : ∃ WJ, WJ = w2.alloc (.cells #[.int .i64 lo, .int .i64 hi] 39) := ⟨_, rfl⟩
      have hEJ : Ext WG WJ := by rw [hWJ]; exact (x.h.trans hE8).alloc _
      have m15 : WJ.heap[s15]? = some (.cells #[.int .i64 lo, .int .i64 hi] 39) := by rw [hWJ, hs15]; exact heap_new _ _
      rw [← hs15, ← hWJ]
      have HEJ := Lib.hid hEJ
      have q1 := heap_ext3 HQ1.out hEJ
      have t0 := ExtW.cell (v := .int .i64 st) (cell_of_heap q1 0)
      have t1 := ExtW.cell (v := .slice pp pl.length pc) (cell_of_heap q1 1)
      have e0 := ExtW.cell (v := .int .i64 lo) (cell_of_heap m15 0)
      have e1 := ExtW.cell (v := .int .i64 hi) (cell_of_heap m15 1)
      obtain ⟨b, o, rfl, hc⟩ := (HPL.out.ext (HEG.out.trans hEJ)).at i hil
      have e2 := ExtW.cell hc
      have HHD := Lib.hid (fun x : ExtW WJ => ExtW.call (x := x) (holds04 lo hi pl[i] x.w HHB.out))
      clear hE8 hs15 hWJ hEJ m15 q1 hc
      obtain ⟨y8, hy8⟩ := ExtW.of (Ext.refl WJ)
      conv => arg 5; rw [hy8]
      clear hy8
      refine wp_region_extW (by kernel_rfl) (by kernel_rfl) ?_
      repeat (go_big_quiet_step ((go_at_call 50; exact HHD.out _)))
      refine wpQuiet_nil ?_
      rintro _ ⟨y9, rfl⟩
      clear HHD e0 e1 e2
      go_wp2
      go_roundw
      case rel => exact ⟨i + 1, by omega, by simp, ⟨_, HEJ.out.trans y9.h⟩, rfl⟩
      case measure => simp [intOf]; omega
    · obtain rfl : i = M.weeks.length := by omega
      clear HWK1
      have HG1 := Lib.hid (fun x : ExtW WG => ExtW.callL (l := strangeA M) (n := askV M true) (x := x) (HG1'.out x))
      have HG2 := Lib.hid (fun x : ExtW WG => ExtW.callL (l := sureA M) (n := askV M true) (x := x) (HG2'.out x))
      rw [HZ.out, ← HS3.out] at HG1
      rw [HZ.out, ← HS4.out] at HG2
      have g3 : ¬40 < (s3.length : Int) := by omega
      have g4 : ¬40 < (s4.length : Int) := by omega
      go_upto_region 16 with (go_at_call 38; refine (HG1.out _).mono ?_; rintro e w2 ⟨p3, cp3, rfl, z3, rfl, -, hI3, -⟩)
      have HI3 := Lib.hid hI3
      clear hI3
      go_upto_region 17 with (go_at_call 40; refine (HG2.out _).mono ?_; rintro e w2 ⟨p4, cp4, rfl, z4, rfl, hE4, hI4, -⟩)
      have HI3 := Lib.hid (HI3.out.ext hE4)
      have HI4 := Lib.hid hI4
      clear hE4 hI4
      obtain ⟨WH, hWH⟩ : ∃ WH, WH = z4.w := ⟨_, rfl⟩
      have hEH : Ext WG WH := by rw [hWH]; exact z4.h
      rw [← hWH] at HI3 HI4 ⊢
      have HEH := Lib.hid hEH
      have q0 := heap_ext3 HQ0.out hEH
      have q1 := heap_ext3 HQ1.out hEH
      have a0 := ExtW.cell (v := .slice p M.weeks.length c) (cell_of_heap q0 0)
      have a1 := ExtW.cell (v := .slice qq M.reads.length d) (cell_of_heap q0 1)
      have a2 := ExtW.cell (v := .int .i64 M.wrong) (cell_of_heap q0 2)
      have t0 := ExtW.cell (v := .int .i64 st) (cell_of_heap q1 0)
      have t1 := ExtW.cell (v := .slice pp pl.length pc) (cell_of_heap q1 1)
      have HIRH := Lib.hid (fun (i : Nat) (z : Int) (hi : i ≤ pl.length) (x : ExtW WH) => ExtW.call (x := x) (HIR.out x.w ((HEG.out.trans HEH.out).trans x.h) i z hi))
      have HQH := Lib.hid (HQ.out.ext (HEG.out.trans hEH))
      have HWZ := Lib.hid (fun x : ExtW WH => ExtW.callX (x := x) (works04 x.w (HTG.out x.w (HEH.out.trans x.h))))
      obtain ⟨z5, hz5⟩ := ExtW.of (Ext.refl WH)
      clear hWH hEH q0 q1 HG1 HG2
      conv => arg 5; rw [hz5]
      clear hz5
      go_wp2
      go_loopw [20] (fun i wr => ∃ i' : Nat, i' ≤ M.reads.length ∧ i = .int .i64 i' ∧ ∃ x : ExtW WH, wr = x.w) (fun i _ => M.reads.length - (intOf i).toNat)
      case atStart => exact ⟨0, Nat.zero_le _, rfl, z5, rfl⟩
      case round =>
        obtain ⟨i, hi', rfl, x, rfl⟩ := hrel
        by_cases hlt : i < M.reads.length
        · have hlt' : (i : Int) < (M.reads.length : Int) := by omega
          have hrd := HVM.out.read _ (List.getElem_mem hlt)
          have hs := HSTR.out i hlt
          have hu := HSUR.out i hlt
          obtain ⟨b, o, rfl, hc0, hc1⟩ := HQH.out.at2 i hlt
          obtain ⟨ra, hra⟩ : ∃ ra : Nat, M.reads[i].1 = ra := ⟨M.reads[i].1.toNat, by omega⟩
          obtain ⟨rb, hrb⟩ : ∃ rb, M.reads[i].2 = rb := ⟨_, rfl⟩
          rw [hra] at hc0 hrd hs hu
          rw [hrb] at hc1 hs hu
          rw [Int.toNat_natCast] at hs hu
          have hri := HIRH.out ra rb (by have := HLN.out; omega)
          have k0 := ExtW.cell hc0
          have k1 := ExtW.cell hc1
          have hn3 := fun x : ExtW WH => in04 p3 s3 cp3 i x.w (by omega) (HI3.out.ext x.h)
          have hn4 := fun x : ExtW WH => in04 p4 s4 cp4 i x.w (by omega) (HI4.out.ext x.h)
          by_cases hr : dOf st pl ra % 100 = rb
          · rw [decide_eq_true hr] at hri
            rw [hs hr] at hn3
            have HRI := Lib.hid hri
            have HN3 := Lib.hid (fun x : ExtW WH => ExtW.callX (x := x) (hn3 x))
            clear hri hs hu hr hra hrb hrd hc0 hc1 hn3 hn4
            go_upto_region 22 with (fail)
            refine wp_region_extW (by kernel_rfl) (by kernel_rfl) ?_
            repeat (go_big_quiet_step ((go_at_call 52; exact HRI.out _)))
            refine wpQuiet_nil ?_
            rintro _ ⟨x2, rfl⟩
            go_wp2_with (go_at_call 20; refine (HN3.out _).mono ?_; rintro e w2 ⟨rfl, x3, rfl, -⟩)
            go_roundw
            case rel => exact ⟨i + 1, by omega, by simp, x3, rfl⟩
            case measure => simp [intOf]; omega
          · rw [decide_eq_false hr] at hri
            rw [hu hr] at hn4
            have HRI := Lib.hid hri
            have HN4 := Lib.hid (fun x : ExtW WH => ExtW.callX (x := x) (hn4 x))
            clear hri hs hu hr hra hrb hrd hc0 hc1 hn3 hn4
            go_upto_region 22 with (fail)
            refine wp_region_extW (by kernel_rfl) (by kernel_rfl) ?_
            repeat (go_big_quiet_step ((go_at_call 52; exact HRI.out _)))
            refine wpQuiet_nil ?_
            rintro _ ⟨x2, rfl⟩
            go_wp2_with (go_at_call 20; refine (HN4.out _).mono ?_; rintro e w2 ⟨rfl, x3, rfl, -⟩)
            go_roundw
            case rel => exact ⟨i + 1, by omega, by simp, x3, rfl⟩
            case measure => simp [intOf]; omega
        · obtain rfl : i = M.reads.length := by omega
          go_wp2_with (go_at_call 16; refine (HWZ.out _).mono ?_; rintro e w2 ⟨rfl, z6, rfl, -⟩)
          go_ret
          exact RetE.fin ((HEG.out.trans HEH.out).trans z6.h) rfl
end Go.Proofs.YtimelbcfaniifaaDoor
