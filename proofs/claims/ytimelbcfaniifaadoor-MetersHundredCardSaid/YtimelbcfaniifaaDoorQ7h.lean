/- The walk of MetersHundred. -/
import Derived.Test.YtimelbcfaniifaaDoorQ7b
import Derived.Test.YtimelbcfaniifaaDoorQ7c
import Derived.Test.YtimelbcfaniifaaDoorQ7n
namespace Go.Proofs.YtimelbcfaniifaaDoor
open Go.RowKit

set_option maxRecDepth 20000 in
set_option maxHeartbeats 16000000 in
theorem MetersHundred04 (v : Value) (M : Mt) (n : Int) (w : World) (hv : MtV w v M) (hT : TabW w) :
    Calls Tryd.prog 6 #[v, .int .i64 n] w (RetE (.bool true) w) := by
  have HV := Lib.hid hv
  have HT := Lib.hid hT
  obtain ⟨p, c, qq, d, rfl, hp, hq⟩ := hv
  have HP := Lib.hid hp
  have HQ := Lib.hid hq
  clear hp hq hT
  go_enter Tryd.func6, Tryd.ntmps6
  go_upto_region 1 with (fail)
  obtain ⟨s0, hs0⟩ : ∃ s0, s0 = w.heap.size := ⟨_, rfl⟩
  obtain ⟨W, hW⟩ : ∃ W, W = w.alloc (.cells #[.slice p M.weeks.length c, .slice qq M.reads.length d, .int .i64 M.wrong] 25) := ⟨_, rfl⟩
  have m0 : W.heap[s0]? = some (.cells #[.slice p M.weeks.length c, .slice qq M.reads.length d, .int .i64 M.wrong] 25) := by rw [hs0]; exact heap_at0 (by rw [hW]; exact (by repeat (first | exact Ext.refl _ | assumption | refine Ext.drewN ?_ _ | refine Ext.drew ?_ | refine Ext.alloc ?_ _)))
  have hE : Ext w W := by rw [hW]; exact (by repeat (first | exact Ext.refl _ | assumption | refine Ext.drewN ?_ _ | refine Ext.drew ?_ | refine Ext.alloc ?_ _))
  rw [← hs0, ← hW]
  have a0 := ExtW.cell (v := .slice p M.weeks.length c) (cell_of_heap m0 0)
  have a1 := ExtW.cell (v := .slice qq M.reads.length d) (cell_of_heap m0 1)
  have a2 := ExtW.cell (v := .int .i64 M.wrong) (cell_of_heap m0 2)
  have HM0 := Lib.hid m0
  have HE := Lib.hid hE
  have HS0 := Lib.hid hs0
  have HWK := Lib.hid (fun x : ExtW W => ExtW.callX (x := x) (works04 x.w (HT.out.ext (HE.out.trans x.h))))
  have HRD := Lib.hid (fun x : ExtW W => ExtW.callX (x := x) (ready04 M _ x.w (HV.out.ext (HE.out.trans x.h))))
  obtain ⟨y0, hy0⟩ := ExtW.of (Ext.refl W)
  clear hW m0 hE hs0
  conv => arg 5; rw [hy0]
  clear hy0
  obtain ⟨b, hb⟩ : ∃ b, readyB M = b := ⟨_, rfl⟩
  rw [hb] at HRD
  cases b
  case false =>
    clear hb
    go_wp2_with (first | (go_at_call 14; refine (HRD.out _).mono ?_; rintro e w2 ⟨rfl, xr, rfl, -⟩) | (go_at_call 33; refine (HIW.out _).mono ?_; rintro e w2 ⟨rfl, xi, rfl, -⟩) | (go_at_call 16; refine (HWK.out _).mono ?_; rintro e w2 ⟨rfl, xw, rfl, -⟩))
    go_ret
    exact RetE.fin (HE.out.trans xw.h) rfl
  obtain ⟨hfar, hM⟩ := readyB_iff.1 hb
  have HVM := Lib.hid hM
  have hn5 := hM.nw
  have hn7 := hM.nr
  clear hb hfar hM
  have HIW := Lib.hid (fun x : ExtW W => ExtW.callX (x := x) (IsWeek04 M n _ x.w (HV.out.ext (HE.out.trans x.h)) (by omega)))
  obtain ⟨bi, hbi⟩ : ∃ b, winB n 0 ((M.weeks.length : Int) - 1) = b := ⟨_, rfl⟩
  rw [hbi] at HIW
  have HBI := Lib.hid hbi
  clear hbi
  cases bi
  case false =>
    go_wp2_with (first | (go_at_call 14; refine (HRD.out _).mono ?_; rintro e w2 ⟨rfl, xr, rfl, -⟩) | (go_at_call 33; refine (HIW.out _).mono ?_; rintro e w2 ⟨rfl, xi, rfl, -⟩) | (go_at_call 16; refine (HWK.out _).mono ?_; rintro e w2 ⟨rfl, xw, rfl, -⟩))
    go_ret
    exact RetE.fin (HE.out.trans xw.h) rfl
  have hnk := winB_iff.1 HBI.out
  obtain ⟨kk, rfl⟩ : ∃ kk : Nat, n = kk := ⟨n.toNat, by omega⟩
  have hkk : kk < M.weeks.length := by omega
  have hkk' : (kk : Int) < (M.weeks.length : Int) := by omega
  obtain ⟨b, o, rfl, hc0, hc1⟩ := HP.out.at2 kk hkk
  have hlo0 : M.weeks[kk].1 = lowM M kk := by unfold lowM; rw [List.getD_eq_getElem?_getD, List.getElem?_eq_getElem hkk]; rfl
  have hhi0 : M.weeks[kk].2 = highM M kk := by unfold highM; rw [List.getD_eq_getElem?_getD, List.getElem?_eq_getElem hkk]; rfl
  have hsp := week_span HVM.out hkk
  rw [hlo0] at hc0
  rw [hhi0] at hc1
  obtain ⟨wl, hwl⟩ : ∃ r, lowM M kk = r := ⟨_, rfl⟩
  obtain ⟨wh, hwh⟩ : ∃ r, highM M kk = r := ⟨_, rfl⟩
  rw [hwl] at hc0 hsp
  rw [hwh] at hc1 hsp
  have e0 := ExtW.cell (HE.out.cell hc0)
  have e1 := ExtW.cell (HE.out.cell hc1)
  have HWC := Lib.hid (And.intro hc0 hc1)
  have HWL := Lib.hid (And.intro hwl hwh)
  clear hc0 hc1 hlo0 hhi0 hwl hwh
  by_cases hbig : 200 < wh
  · go_wp2_with (first | (go_at_call 14; refine (HRD.out _).mono ?_; rintro e w2 ⟨rfl, xr, rfl, -⟩) | (go_at_call 33; refine (HIW.out _).mono ?_; rintro e w2 ⟨rfl, xi, rfl, -⟩) | (go_at_call 16; refine (HWK.out _).mono ?_; rintro e w2 ⟨rfl, xw, rfl, -⟩))
    go_ret
    exact RetE.fin (HE.out.trans xw.h) rfl
  go_upto_region 3 with (first | (go_at_call 14; refine (HRD.out _).mono ?_; rintro e w2 ⟨rfl, xr, rfl, -⟩) | (go_at_call 33; refine (HIW.out _).mono ?_; rintro e w2 ⟨rfl, xi, rfl, -⟩) | (go_at_call 16; refine (HWK.out _).mono ?_; rintro e w2 ⟨rfl, xw, rfl, -⟩))
  go_wp2_with fail
  refine (Copy04 M _ xi.w (HV.out.ext (HE.out.trans xi.h)) (by omega) (by omega)).mono ?_
  rintro e w2 ⟨u, rfl, hE2, g1, c1, g2, c2, rfl, o1, o2⟩
  have hEw2 : Ext W w2 := xi.h.trans hE2
  have hBW : W.heap.size ≤ xi.w.heap.size := xi.h.size
  have HW2 := Lib.hid hEw2
  have o1 := ownsRow_base o1 hBW
  have o2 := ownsRow_base o2 hBW
  have HO1 := Lib.hid o1
  have HO2 := Lib.hid o2
  have hg1 := (o1.lt g1 rfl)
  have hg2 := (o2.lt g2 rfl)
  have hne := own_ne o1 o2 (by decide)
  have HG := Lib.hid (show W.heap.size ≤ g1 ∧ W.heap.size ≤ g2 ∧ g2 < w2.heap.size ∧ g1 ≠ g2 ∧ g1 < w2.heap.size from ⟨hg1.1, hg2.1, hg2.2, hne, hg1.2⟩)
  clear hE2 o1 o2 hBW hEw2 hg1 hg2 hne
  go_upto_region 4 with (fail)
  obtain ⟨s7, hs7⟩ : ∃ s7, s7 = w2.heap.size := ⟨_, rfl⟩
  obtain ⟨W3, hW3⟩ : ∃ W3, W3 = w2.alloc (.cells #[.slice (some ⟨g1, 0, none⟩) M.weeks.length c1, .slice (some ⟨g2, 0, none⟩) M.reads.length c2, .int .i64 M.wrong] 25) := ⟨_, rfl⟩
  have hE3 : Ext W W3 := by rw [hW3]; exact HW2.out.alloc _
  have hA3 : Ext w2 W3 := by rw [hW3]; exact Ext.alloc (Ext.refl _) _
  have m7 : W3.heap[s7]? = some (.cells #[.slice (some ⟨g1, 0, none⟩) M.weeks.length c1, .slice (some ⟨g2, 0, none⟩) M.reads.length c2, .int .i64 M.wrong] 25) := by rw [hW3, hs7]; exact heap_new _ _
  rw [← hs7, ← hW3]
  have HM7 := Lib.hid m7
  have HE3 := Lib.hid hE3
  have HO1 := Lib.hid (ownsRow_ext HO1.out hA3)
  have HO2 := Lib.hid (ownsRow_ext HO2.out hA3)
  have hlt0 := (Array.getElem?_eq_some_iff.1 HM0.out).1
  have HLT := Lib.hid (show (s0 < W.heap.size ∧ s0 ≠ g2 ∧ s0 ≠ g1) ∧ s7 ≠ g2 ∧ s7 ≠ g1 from by have := HG.out; omega)
  clear hW3 hs7 hE3 hA3 m7 hlt0 a0 a1 a2
  have HKP := Lib.hid (fun y (h : Fr (fun j => j = g1) W3 y) => (show y.heap[s0]? = some (.cells #[.slice (some ⟨b, o, none⟩) M.weeks.length c, .slice qq M.reads.length d, .int .i64 M.wrong] 25) ∧ y.heap[s7]? = some (.cells #[.slice (some ⟨g1, 0, none⟩) M.weeks.length c1, .slice (some ⟨g2, 0, none⟩) M.reads.length c2, .int .i64 M.wrong] 25) ∧ Ext w y from by
    have hl := HLT.out
    have hE3 := HE3.out
    refine ⟨(h.block (s0) (by have := hE3.size; omega) (by omega)).trans (heap_ext3 HM0.out hE3), (h.block s7 (Array.getElem?_eq_some_iff.1 HM7.out).1 (by omega)).trans HM7.out, ?_⟩
    exact Fr.ext (HE.out.trans hE3) h (fun i hi => by have := HE.out.size; have := HG.out; omega)))
  obtain ⟨z0, z7, hE3w⟩ := HKP.out W3 (Fr.refl _ _)
  have HC := Lib.hid (fun y (h : Ext W3 y) => (⟨h.cell (cell_of_heap z0 0), h.cell (cell_of_heap z7 0), (hE3w.trans h).cell HWC.out.1, (hE3w.trans h).cell HWC.out.2⟩ :
    y.cell? ⟨s0, 0, none⟩ = some (.slice (some ⟨b, o, none⟩) M.weeks.length c) ∧ y.cell? ⟨s7, 0, none⟩ = some (.slice (some ⟨g1, 0, none⟩) M.weeks.length c1) ∧ y.cell? ⟨b, o + kk * 2, none⟩ = some (.int .i64 wl) ∧ y.cell? ⟨b, o + kk * 2 + 1, none⟩ = some (.int .i64 wh)))
  have t1 : IntKind.i64.wrap (wl + 100) = wl + 100 := IntWalk.i64_in _ (by omega)
  have t2 : IntKind.i64.wrap (wh + 100) = wh + 100 := IntWalk.i64_in _ (by omega)
  clear z0 z7 hE3w e0 e1
  refine wp_region_facts 18 [[], [0], [], [], [3], [], [4, 5], [6], [7], [8], [], [10], [], [11, 12], [13], [14], [15], [9, 16]] [1, 2, 17] Ext (FL [Is (.pointer (some ⟨s7, 0, none⟩)), Is (.slice (some ⟨g1, 0, none⟩) M.weeks.length c1), Is (.int .i64 (kk : Int)), Is (.pointer (some ⟨s0, 0, none⟩)), Is (.slice (some ⟨b, o, none⟩) M.weeks.length c), Is (.int .i64 (kk : Int)), Is (.pointer (some ⟨b, o + kk * 2, none⟩)), Is (.pointer (some ⟨b, o + kk * 2, none⟩)), Is (.int .i64 wl), Is (.int .i64 (wl + 100)), Is (.pointer (some ⟨s0, 0, none⟩)), Is (.slice (some ⟨b, o, none⟩) M.weeks.length c), Is (.int .i64 (kk : Int)), Is (.pointer (some ⟨b, o + kk * 2, none⟩)), Is (.pointer (some ⟨b, o + kk * 2 + 1, none⟩)), Is (.int .i64 wh), Is (.int .i64 (wh + 100)), Is (.agg #[.int .i64 (wl + 100), .int .i64 (wh + 100)])]) (by kernel_rfl) (by kernel_rfl) Ext.refl (fun _ _ _ => Ext.trans) (fun _ _ => Ext.size) (FL.mono ⟨Is.mono, Is.mono, Is.mono, Is.mono, Is.mono, Is.mono, Is.mono, Is.mono, Is.mono, Is.mono, Is.mono, Is.mono, Is.mono, Is.mono, Is.mono, Is.mono, Is.mono, Is.mono, trivial⟩) ⟨?_, ?_, ?_, ?_, ?_, ?_, ?_, ?_, ?_, ?_, ?_, ?_, ?_, ?_, ?_, ?_, ?_, ?_, trivial⟩ ?_
  · refine opF_step ?_
    intro ys l0 h0 w' hr hf K hK
    clear hf
    simp only [fill, Act.put, dstO, List.take_succ_cons, List.take_zero, List.setIfInBounds_toArray, List.set_cons_zero, List.set_cons_succ, List.getElem?_cons_zero, Nat.zero_add, Nat.reduceAdd] at hK ⊢
    refine OpB.mk' ?_
    go_simp
    exact hK.out _ _ rfl (Ext.refl _)
  · refine opF_step ?_
    intro ys l0 h0 w' hr hf K hK
    obtain ⟨f0, -⟩ := hf
    have e0 : ys 0 = _ := f0
    obtain ⟨j0, j1, j2, j3⟩ := HC.out w' ((Ext.refl W3).drew.trans hr)
    simp only [fill, Act.put, dstO, List.take_succ_cons, List.take_zero, List.setIfInBounds_toArray, List.set_cons_zero, List.set_cons_succ, List.getElem?_cons_zero, List.getElem?_cons_succ, Nat.zero_add, Nat.reduceAdd] at hK ⊢
    simp only [e0] at hK ⊢
    clear e0 f0
    refine OpB.mk' ?_
    go_simp
    exact hK.out _ _ rfl (Ext.refl _)
  · refine opF_step ?_
    intro ys l0 h0 w' hr hf K hK
    clear hf
    simp only [fill, Act.put, dstO, List.take_succ_cons, List.take_zero, List.setIfInBounds_toArray, List.set_cons_zero, List.set_cons_succ, List.getElem?_cons_zero, List.getElem?_cons_succ, Nat.zero_add, Nat.reduceAdd] at hK ⊢
    refine OpB.mk' ?_
    go_simp
    exact hK.out _ _ rfl (Ext.refl _)
  · refine opF_step ?_
    intro ys l0 h0 w' hr hf K hK
    clear hf
    simp only [fill, Act.put, dstO, List.take_succ_cons, List.take_zero, List.setIfInBounds_toArray, List.set_cons_zero, List.set_cons_succ, List.getElem?_cons_zero, List.getElem?_cons_succ, Nat.zero_add, Nat.reduceAdd] at hK ⊢
    refine OpB.mk' ?_
    go_simp
    exact hK.out _ _ rfl (Ext.refl _)
  · refine opF_step ?_
    intro ys l0 h0 w' hr hf K hK
    obtain ⟨f0, -⟩ := hf
    have e0 : ys 3 = _ := f0
    obtain ⟨j0, j1, j2, j3⟩ := HC.out w' ((Ext.refl W3).drew.trans hr)
    simp only [fill, Act.put, dstO, List.take_succ_cons, List.take_zero, List.setIfInBounds_toArray, List.set_cons_zero, List.set_cons_succ, List.getElem?_cons_zero, List.getElem?_cons_succ, Nat.zero_add, Nat.reduceAdd] at hK ⊢
    simp only [e0] at hK ⊢
    clear e0 f0
    refine OpB.mk' ?_
    go_simp
    exact hK.out _ _ rfl (Ext.refl _)
  · refine opF_step ?_
    intro ys l0 h0 w' hr hf K hK
    clear hf
    simp only [fill, Act.put, dstO, List.take_succ_cons, List.take_zero, List.setIfInBounds_toArray, List.set_cons_zero, List.set_cons_succ, List.getElem?_cons_zero, List.getElem?_cons_succ, Nat.zero_add, Nat.reduceAdd] at hK ⊢
    refine OpB.mk' ?_
    go_simp
    exact hK.out _ _ rfl (Ext.refl _)
  · refine opF_step ?_
    intro ys l0 h0 w' hr hf K hK
    obtain ⟨f0, f1, -⟩ := hf
    have e0 : ys 4 = _ := f0
    have e1 : ys 5 = _ := f1
    simp only [fill, Act.put, dstO, List.take_succ_cons, List.take_zero, List.setIfInBounds_toArray, List.set_cons_zero, List.set_cons_succ, List.getElem?_cons_zero, List.getElem?_cons_succ, Nat.zero_add, Nat.reduceAdd] at hK ⊢
    simp only [e0, e1] at hK ⊢
    clear e0 e1 f0 f1
    refine OpB.mk' ?_
    go_simp
    exact hK.out _ _ rfl (Ext.refl _)
  · refine opF_step ?_
    intro ys l0 h0 w' hr hf K hK
    obtain ⟨f0, -⟩ := hf
    have e0 : ys 6 = _ := f0
    simp only [fill, Act.put, dstO, List.take_succ_cons, List.take_zero, List.setIfInBounds_toArray, List.set_cons_zero, List.set_cons_succ, List.getElem?_cons_zero, List.getElem?_cons_succ, Nat.zero_add, Nat.reduceAdd] at hK ⊢
    simp only [e0] at hK ⊢
    clear e0 f0
    refine OpB.mk' ?_
    go_simp
    exact hK.out _ _ rfl (Ext.refl _)
  · refine opF_step ?_
    intro ys l0 h0 w' hr hf K hK
    obtain ⟨f0, -⟩ := hf
    have e0 : ys 7 = _ := f0
    obtain ⟨j0, j1, j2, j3⟩ := HC.out w' ((Ext.refl W3).drew.trans hr)
    simp only [fill, Act.put, dstO, List.take_succ_cons, List.take_zero, List.setIfInBounds_toArray, List.set_cons_zero, List.set_cons_succ, List.getElem?_cons_zero, List.getElem?_cons_succ, Nat.zero_add, Nat.reduceAdd] at hK ⊢
    simp only [e0] at hK ⊢
    clear e0 f0
    refine OpB.mk' ?_
    go_simp
    exact hK.out _ _ rfl (Ext.refl _)
  · refine opF_step ?_
    intro ys l0 h0 w' hr hf K hK
    obtain ⟨f0, -⟩ := hf
    have e0 : ys 8 = _ := f0
    simp only [fill, Act.put, dstO, List.take_succ_cons, List.take_zero, List.setIfInBounds_toArray, List.set_cons_zero, List.set_cons_succ, List.getElem?_cons_zero, List.getElem?_cons_succ, Nat.zero_add, Nat.reduceAdd] at hK ⊢
    simp only [e0] at hK ⊢
    clear e0 f0
    refine OpB.mk' ?_
    go_simp
    exact hK.out _ _ rfl (Ext.refl _)
  · refine opF_step ?_
    intro ys l0 h0 w' hr hf K hK
    clear hf
    simp only [fill, Act.put, dstO, List.take_succ_cons, List.take_zero, List.setIfInBounds_toArray, List.set_cons_zero, List.set_cons_succ, List.getElem?_cons_zero, List.getElem?_cons_succ, Nat.zero_add, Nat.reduceAdd] at hK ⊢
    refine OpB.mk' ?_
    go_simp
    exact hK.out _ _ rfl (Ext.refl _)
  · refine opF_step ?_
    intro ys l0 h0 w' hr hf K hK
    obtain ⟨f0, -⟩ := hf
    have e0 : ys 10 = _ := f0
    obtain ⟨j0, j1, j2, j3⟩ := HC.out w' ((Ext.refl W3).drew.trans hr)
    simp only [fill, Act.put, dstO, List.take_succ_cons, List.take_zero, List.setIfInBounds_toArray, List.set_cons_zero, List.set_cons_succ, List.getElem?_cons_zero, List.getElem?_cons_succ, Nat.zero_add, Nat.reduceAdd] at hK ⊢
    simp only [e0] at hK ⊢
    clear e0 f0
    refine OpB.mk' ?_
    go_simp
    exact hK.out _ _ rfl (Ext.refl _)
  · refine opF_step ?_
    intro ys l0 h0 w' hr hf K hK
    clear hf
    simp only [fill, Act.put, dstO, List.take_succ_cons, List.take_zero, List.setIfInBounds_toArray, List.set_cons_zero, List.set_cons_succ, List.getElem?_cons_zero, List.getElem?_cons_succ, Nat.zero_add, Nat.reduceAdd] at hK ⊢
    refine OpB.mk' ?_
    go_simp
    exact hK.out _ _ rfl (Ext.refl _)
  · refine opF_step ?_
    intro ys l0 h0 w' hr hf K hK
    obtain ⟨f0, f1, -⟩ := hf
    have e0 : ys 11 = _ := f0
    have e1 : ys 12 = _ := f1
    simp only [fill, Act.put, dstO, List.take_succ_cons, List.take_zero, List.setIfInBounds_toArray, List.set_cons_zero, List.set_cons_succ, List.getElem?_cons_zero, List.getElem?_cons_succ, Nat.zero_add, Nat.reduceAdd] at hK ⊢
    simp only [e0, e1] at hK ⊢
    clear e0 e1 f0 f1
    refine OpB.mk' ?_
    go_simp
    exact hK.out _ _ rfl (Ext.refl _)
  · refine opF_step ?_
    intro ys l0 h0 w' hr hf K hK
    obtain ⟨f0, -⟩ := hf
    have e0 : ys 13 = _ := f0
    simp only [fill, Act.put, dstO, List.take_succ_cons, List.take_zero, List.setIfInBounds_toArray, List.set_cons_zero, List.set_cons_succ, List.getElem?_cons_zero, List.getElem?_cons_succ, Nat.zero_add, Nat.reduceAdd] at hK ⊢
    simp only [e0] at hK ⊢
    clear e0 f0
    refine OpB.mk' ?_
    go_simp
    exact hK.out _ _ rfl (Ext.refl _)
  · refine opF_step ?_
    intro ys l0 h0 w' hr hf K hK
    obtain ⟨f0, -⟩ := hf
    have e0 : ys 14 = _ := f0
    obtain ⟨j0, j1, j2, j3⟩ := HC.out w' ((Ext.refl W3).drew.trans hr)
    simp only [fill, Act.put, dstO, List.take_succ_cons, List.take_zero, List.setIfInBounds_toArray, List.set_cons_zero, List.set_cons_succ, List.getElem?_cons_zero, List.getElem?_cons_succ, Nat.zero_add, Nat.reduceAdd] at hK ⊢
    simp only [e0] at hK ⊢
    clear e0 f0
    refine OpB.mk' ?_
    go_simp
    exact hK.out _ _ rfl (Ext.refl _)
  · refine opF_step ?_
    intro ys l0 h0 w' hr hf K hK
    obtain ⟨f0, -⟩ := hf
    have e0 : ys 15 = _ := f0
    simp only [fill, Act.put, dstO, List.take_succ_cons, List.take_zero, List.setIfInBounds_toArray, List.set_cons_zero, List.set_cons_succ, List.getElem?_cons_zero, List.getElem?_cons_succ, Nat.zero_add, Nat.reduceAdd] at hK ⊢
    simp only [e0] at hK ⊢
    clear e0 f0
    refine OpB.mk' ?_
    go_simp
    exact hK.out _ _ rfl (Ext.refl _)
  · refine opF_step ?_
    intro ys l0 h0 w' hr hf K hK
    obtain ⟨f0, f1, -⟩ := hf
    have e0 : ys 9 = _ := f0
    have e1 : ys 16 = _ := f1
    simp only [fill, Act.put, dstO, List.take_succ_cons, List.take_zero, List.setIfInBounds_toArray, List.set_cons_zero, List.set_cons_succ, List.getElem?_cons_zero, List.getElem?_cons_succ, Nat.zero_add, Nat.reduceAdd] at hK ⊢
    simp only [e0, e1] at hK ⊢
    clear e0 e1 f0 f1
    refine OpB.mk' ?_
    go_simp
    exact hK.out _ _ rfl (Ext.refl _)
  intro ys l0 h0 w2 hr hf hsp
  obtain ⟨f1, f2, f17, -⟩ := hf
  have e1 : ys 1 = _ := f1
  have e2 : ys 2 = _ := f2
  have e17 : ys 17 = _ := f17
  simp only [fill, Act.put, List.take_succ_cons, List.take_zero, List.setIfInBounds_toArray, List.set_cons_zero, List.set_cons_succ, Nat.zero_add, Nat.reduceAdd, List.drop_succ_cons, List.drop_zero]
  rw [e1, e2, e17]
  clear e1 f1 e2 f2 e17 f17 hsp
  have hO3 := ownsRow_ext HO1.out ((Ext.refl W3).drew.trans hr)
  obtain ⟨u0, u1⟩ := row_cells hO3 hkk
  have v0 : w2.frozen? ⟨g1, kk * 2, none⟩ = false := ownsRow_frozen hO3
  have v1 : w2.frozen? ⟨g1, kk * 2 + 1, none⟩ = false := ownsRow_frozen hO3
  have HNO := Lib.hid (show ((w2.setCell ⟨g1, kk * 2, none⟩ (.int .i64 (wl + 100))).setCell ⟨g1, kk * 2 + 1, none⟩ (.int .i64 (wh + 100))).ownsRow _ _ _ _ _ _ from row_sets (k := kk) (x := wl + 100) (y := wh + 100) hO3)
  have HNQ := Lib.hid (show ((w2.setCell ⟨g1, kk * 2, none⟩ (.int .i64 (wl + 100))).setCell ⟨g1, kk * 2 + 1, none⟩ (.int .i64 (wh + 100))).ownsRow _ _ _ _ _ _ from row_other (row_other (ownsRow_ext HO2.out ((Ext.refl W3).drew.trans hr)) (Ne.symm HG.out.2.2.2.1)) (Ne.symm HG.out.2.2.2.1))
  have HNF := Lib.hid (show Fr (fun j => j = g1) W3 ((w2.setCell ⟨g1, kk * 2, none⟩ (.int .i64 (wl + 100))).setCell ⟨g1, kk * 2 + 1, none⟩ (.int .i64 (wh + 100))) from ((((Ext.refl W3).drew.trans hr).fr (fun j => j = g1)).set rfl).set rfl)
  clear hO3 hr HC t1 t2
  go_upto_region 5 with (fail)
  obtain ⟨WF, hWF⟩ : ∃ WF, WF = (w2.setCell ⟨g1, kk * 2, none⟩ (.int .i64 (wl + 100))).setCell ⟨g1, kk * 2 + 1, none⟩ (.int .i64 (wh + 100)) := ⟨_, rfl⟩
  rw [← hWF] at HNO HNQ HNF ⊢
  obtain ⟨q0, q7, hEr⟩ := HKP.out WF HNF.out
  have HVO := Lib.hid (show MtV WF (.agg #[.slice (some ⟨g1, 0, none⟩) M.weeks.length c1, .slice (some ⟨g2, 0, none⟩) M.reads.length c2, .int .i64 M.wrong]) (hundM M kk) from ⟨_, _, _, _, by show _ = Value.agg #[.slice _ (M.weeks.set kk _).length _, .slice _ M.reads.length _, .int .i64 M.wrong]; rw [List.length_set], by show PairsAt _ _ (M.weeks.set kk (lowM M kk + 100, highM M kk + 100)); rw [HWL.out.1, HWL.out.2]; exact row_pairs HNO.out, row_pairs HNQ.out⟩)
  have HHI : highM M kk ≤ 200 := by rw [HWL.out.2]; omega
  have HEF := Lib.hid hEr
  have hN := hund_valid HVM.out hkk HHI
  have HVN := Lib.hid hN
  have HVMF := Lib.hid (fun y (h : Ext WF y) => HV.out.ext (hEr.trans h))
  have HVNF := Lib.hid (fun y (h : Ext WF y) => HVO.out.ext h)
  have HTF := Lib.hid (fun y (h : Ext WF y) => HT.out.ext (hEr.trans h))
  have HQ0 := Lib.hid q0
  have HQ7 := Lib.hid q7
  have a0 := ExtW.cell (v := .slice (some ⟨b, o, none⟩) M.weeks.length c) (cell_of_heap q0 0)
  have a1 := ExtW.cell (v := .slice qq M.reads.length d) (cell_of_heap q0 1)
  have a2 := ExtW.cell (v := .int .i64 M.wrong) (cell_of_heap q0 2)
  have b0 := ExtW.cell (v := .slice (some ⟨g1, 0, none⟩) M.weeks.length c1) (cell_of_heap q7 0)
  have b1 := ExtW.cell (v := .slice (some ⟨g2, 0, none⟩) M.reads.length c2) (cell_of_heap q7 1)
  have b2 := ExtW.cell (v := .int .i64 M.wrong) (cell_of_heap q7 2)
  have HF1 := Lib.hid (fun x : ExtW WF => ExtW.callX (x := x) (few_valid HVM.out (HVMF.out x.w x.h)))
  have HF2 := Lib.hid (fun x : ExtW WF => ExtW.callX (x := x) (few_valid HVN.out (HVNF.out x.w x.h)))
  have hfe := (hund_iso (M := M) hkk).few HVM.out hN
  rw [← hfe] at HF2
  obtain ⟨lw, hlw⟩ : ∃ lw, lw = leastTo M 100 := ⟨_, rfl⟩
  rw [← hlw] at HF1 HF2
  have hea := (hund_iso (M := M) hkk).ask HVM.out hN
  have hkn := ask_known HVM.out
  have hrs := round_small' HVM.out
  have hrn := hund_rounds HVM.out hkk HHI
  have HR1 := Lib.hid (fun y (h : Ext WF y) => Rounds04 M _ y (HVMF.out y h) (by omega) (by omega) (HTF.out y h))
  have HR2 := Lib.hid (fun y (h : Ext WF y) => Rounds04 (hundM M kk) _ y (HVNF.out y h) (by have := hN.nw; omega) (by have := hN.nr; omega) (HTF.out y h))
  rw [← hea] at HR2
  have HK1 := Lib.hid (fun y (h : Ext WF y) (k : Nat) => Week04 M k _ y (HVMF.out y h) (by omega) (by omega) (HTF.out y h))
  have HK2 := Lib.hid (fun y (h : Ext WF y) (k : Nat) => Week04 (hundM M kk) k _ y (HVNF.out y h) (by have := hN.nw; omega) (by have := hN.nr; omega) (HTF.out y h))
  have HKE := Lib.hid (fun (k : Nat) => hund_week HVM.out hkk HHI k)
  have HKS := Lib.hid (fun (k : Nat) (h : k < M.weeks.length) => week_small' HVM.out h)
  have HH1 := Lib.hid (fun (k : Nat) (y : World) (h : Ext WF y) => (show Calls Tryd.prog 29 #[.agg #[.slice (some ⟨b, o, none⟩) M.weeks.length c, .slice qq M.reads.length d, .int .i64 M.wrong], .int .i64 (k : Int)] y (RetL (showsA M k) (askV M (isAf k M.weeks.length)) y) from Shows04 M k _ y (HVMF.out y h) (by omega) (by omega)))
  have HH2 := Lib.hid (fun (k : Nat) (y : World) (h : Ext WF y) => (show Calls Tryd.prog 29 #[.agg #[.slice (some ⟨g1, 0, none⟩) M.weeks.length c1, .slice (some ⟨g2, 0, none⟩) M.reads.length c2, .int .i64 M.wrong], .int .i64 (k : Int)] y (RetL (showsA M k) (askV M (isAf k M.weeks.length)) y) from by
    have h := Shows04 (hundM M kk) k _ y (HVNF.out y h) (by have := hN.nw; omega) (by have := hN.nr; omega)
    have e := hund_shows HVM.out hkk HHI (k : Int)
    rw [hund_len] at h
    rw [e.1, e.2]
    have e2 : okL (askV (hundM M kk) (isAf k M.weeks.length)) (pickTo (showF (hundM M kk) (k : Int).toNat) 100) = showsA (hundM M kk) k := by unfold showsA; rw [hund_len]
    rw [e2] at h
    exact h))
  obtain ⟨rlo, hrlo⟩ : ∃ r, r = roundLo M := ⟨_, rfl⟩
  obtain ⟨rhi, hrhi⟩ : ∃ r, r = roundHi M := ⟨_, rfl⟩
  obtain ⟨slo, hslo⟩ : ∃ r, r = roundLo (hundM M kk) := ⟨_, rfl⟩
  obtain ⟨shi, hshi⟩ : ∃ r, r = roundHi (hundM M kk) := ⟨_, rfl⟩
  obtain ⟨nt, hnt⟩ : ∃ n, n = askV M true := ⟨_, rfl⟩
  rw [← hrlo, ← hrhi, ← hnt] at HR1
  rw [← hslo, ← hshi, ← hnt] at HR2
  rw [← hrlo, ← hrhi, ← hslo, ← hshi, ← hnt] at hrn
  rw [← hrlo, ← hrhi] at hrs
  rw [← hnt] at hkn
  have HNT := Lib.hid hnt
  have HRN := Lib.hid hrn
  have HKN := Lib.hid hkn
  have HRS := Lib.hid hrs
  obtain ⟨y0, hy0⟩ := ExtW.of (Ext.refl WF)
  clear hWF q0 q7 hEr hN hfe hlw hea hkn hrs hrn hrlo hrhi hslo hshi hnt u0 u1 v0 v1 HHI hbig
  conv => arg 5; rw [hy0]
  clear hy0
  go_upto_region 6 with (go_at_call 28; refine (HF1.out _).mono ?_; rintro e w2 ⟨rfl, y1, rfl, -⟩)
  go_upto_region 7 with (go_at_call 28; refine (HF2.out _).mono ?_; rintro e w2 ⟨rfl, y2, rfl, -⟩)
  have HRA := Lib.hid (HR1.out y2.w y2.h)
  go_upto_region 8 with (go_at_call 30; refine HRA.out.mono ?_; rintro e w2 ⟨rfl, hE8⟩)
  obtain ⟨s10, hs10⟩ : ∃ s10, s10 = w2.heap.size := ⟨_, rfl⟩
  obtain ⟨WG, hWG⟩ : ∃ WG, WG = w2.alloc (.cells #[.int .i64 rlo, .int .i64 rhi] 39) := ⟨_, rfl⟩
  have hEG : Ext WF WG := by rw [hWG]; exact (y2.h.trans hE8).alloc _
  have m10 : WG.heap[s10]? = some (.cells #[.int .i64 rlo, .int .i64 rhi] 39) := by rw [hWG, hs10]; exact heap_new _ _
  rw [← hs10, ← hWG]
  have HEG := Lib.hid hEG
  have HM10 := Lib.hid m10
  have q7 := heap_ext3 HQ7.out HEG.out
  have b0 := ExtW.cell (v := .slice (some ⟨g1, 0, none⟩) M.weeks.length c1) (cell_of_heap q7 0)
  have b1 := ExtW.cell (v := .slice (some ⟨g2, 0, none⟩) M.reads.length c2) (cell_of_heap q7 1)
  have b2 := ExtW.cell (v := .int .i64 M.wrong) (cell_of_heap q7 2)
  have HRB := Lib.hid (HR2.out WG HEG.out)
  obtain ⟨y8, hy8⟩ := ExtW.of (Ext.refl WG)
  clear hE8 hs10 hWG hEG m10 q7
  have HRB : Hid (Calls Tryd.prog 30 #[.agg #[.slice (some ⟨g1, 0, none⟩) M.weeks.length c1, .slice (some ⟨g2, 0, none⟩) M.reads.length c2, .int .i64 M.wrong]] y8.w (RetSp slo shi nt y8.w)) := hy8 ▸ HRB
  conv => arg 5; rw [hy8]
  clear hy8
  go_upto_region 9 with (go_at_call 30; refine HRB.out.mono ?_; rintro e w2 ⟨rfl, hE8⟩)
  obtain ⟨s12, hs12⟩ : ∃ s12, s12 = w2.heap.size := ⟨_, rfl⟩
  obtain ⟨WH, hWH⟩ : ∃ WH, WH = w2.alloc (.cells #[.int .i64 slo, .int .i64 shi] 39) := ⟨_, rfl⟩
  have hEH : Ext WG WH := by rw [hWH]; exact (y8.h.trans hE8).alloc _
  have m12 : WH.heap[s12]? = some (.cells #[.int .i64 slo, .int .i64 shi] 39) := by rw [hWH, hs12]; exact heap_new _ _
  rw [← hs12, ← hWH]
  have HEH := Lib.hid (HEG.out.trans hEH)
  have m10 := heap_ext3 HM10.out hEH
  have q0 := heap_ext3 HQ0.out HEH.out
  have q7 := heap_ext3 HQ7.out HEH.out
  have a0 := ExtW.cell (v := .slice (some ⟨b, o, none⟩) M.weeks.length c) (cell_of_heap q0 0)
  have a1 := ExtW.cell (v := .slice qq M.reads.length d) (cell_of_heap q0 1)
  have a2 := ExtW.cell (v := .int .i64 M.wrong) (cell_of_heap q0 2)
  have b0 := ExtW.cell (v := .slice (some ⟨g1, 0, none⟩) M.weeks.length c1) (cell_of_heap q7 0)
  have b1 := ExtW.cell (v := .slice (some ⟨g2, 0, none⟩) M.reads.length c2) (cell_of_heap q7 1)
  have b2 := ExtW.cell (v := .int .i64 M.wrong) (cell_of_heap q7 2)
  have d0 := ExtW.cell (v := .int .i64 rlo) (cell_of_heap m10 0)
  have d1 := ExtW.cell (v := .int .i64 rhi) (cell_of_heap m10 1)
  have f0 := ExtW.cell (v := .int .i64 slo) (cell_of_heap m12 0)
  have f1 := ExtW.cell (v := .int .i64 shi) (cell_of_heap m12 1)
  have HKW := Lib.hid (fun x : ExtW WH => ExtW.callX (x := x) (isKnown04 nt x.w))
  have HSN := Lib.hid (fun x : ExtW WH => ExtW.callX (x := x) (sane04 rlo rhi x.w (by have := HRS.out; omega)))
  have HK1 := Lib.hid (fun y (h : Ext WH y) (k : Nat) => HK1.out y (HEH.out.trans h) k)
  have HK2 := Lib.hid (fun y (h : Ext WH y) (k : Nat) => HK2.out y (HEH.out.trans h) k)
  have HH1 := Lib.hid (fun (k : Nat) (x : ExtW WH) => ExtW.callL (x := x) (HH1.out k x.w (HEH.out.trans x.h)))
  have HH2 := Lib.hid (fun (k : Nat) (x : ExtW WH) => ExtW.callL (x := x) (HH2.out k x.w (HEH.out.trans x.h)))
  have HTH := Lib.hid (fun y (h : Ext WH y) => HTF.out y (HEH.out.trans h))
  have HQ7 := Lib.hid q7
  clear hE8 hs12 hWH hEH m10 m12 q0 q7
  obtain ⟨z0, hz0⟩ := ExtW.of (Ext.refl WH)
  conv => arg 5; rw [hz0]
  clear hz0
  have w1 : IntKind.i64.wrap (rlo + 1) = rlo + 1 := IntWalk.i64_in _ (by have := HRS.out; omega)
  have w2 : IntKind.i64.wrap (rhi + 1) = rhi + 1 := IntWalk.i64_in _ (by have := HRS.out; omega)
  rcases HKN.out with hnt0 | hnt3
  · subst hnt0
    obtain ⟨hsl, hsh⟩ := HRN.out.1 rfl
    subst hsl
    subst hsh
    go_upto_region 12 with (first
      | (go_at_call 18; refine (HKW.out _).mono ?_; rintro e w2 ⟨rfl, za, rfl, -⟩)
      | (go_at_call 32; refine (HSN.out _).mono ?_; rintro e w2 ⟨rfl, zb, rfl, -⟩))
    clear w1 w2 d0 d1 f0 f1
    go_wp2
    go_loopw [14] (fun i wr => ∃ i' : Nat, i' ≤ M.weeks.length ∧ i = .int .i64 i' ∧ ∃ x : ExtW WH, wr = x.w) (fun i _ => M.weeks.length - (intOf i).toNat)
    case atStart => exact ⟨0, Nat.zero_le _, rfl, zb, rfl⟩
    case round =>
      obtain ⟨i, hi', rfl, x, rfl⟩ := hrel
      by_cases hlt : i < M.weeks.length
      · have hlt' : (i : Int) < (M.weeks.length : Int) := by omega
        have hA := HK1.out x.w x.h i
        have hB := fun y (h : Ext WH y) => HK2.out y h i
        have hbd := HKS.out i hlt
        obtain ⟨e1, e2, e3⟩ := HKE.out i
        have hisw : isWkB i M.weeks.length = true := isWkB_iff.2 (by omega)
        rw [hisw] at e1 e2 e3
        rw [← HNT.out] at e1 e2 e3
        have hA' : Calls Tryd.prog 21 #[.agg #[.slice (some ⟨b, o, none⟩) M.weeks.length c, .slice qq M.reads.length d, .int .i64 M.wrong], .int .i64 i] x.w (RetSp (weekLo M i) (weekHi M i) (0) x.w) := by
          have h := hA
          rw [hisw, ← HNT.out] at h
          exact h
        have hB' : ∀ y, Ext WH y → Calls Tryd.prog 21 #[.agg #[.slice (some ⟨g1, 0, none⟩) M.weeks.length c1, .slice (some ⟨g2, 0, none⟩) M.reads.length c2, .int .i64 M.wrong], .int .i64 i] y (RetSp (weekLo (hundM M kk) i) (weekHi (hundM M kk) i) (0) y) := fun y h => by
          have := hB y h
          rw [hund_len, hisw, ← e1] at this
          exact this
        obtain ⟨lo, hlo⟩ : ∃ r, r = weekLo M i := ⟨_, rfl⟩
        obtain ⟨hi, hhi⟩ : ∃ r, r = weekHi M i := ⟨_, rfl⟩
        obtain ⟨la, hla⟩ : ∃ r, r = weekLo (hundM M kk) i := ⟨_, rfl⟩
        obtain ⟨ha, hha⟩ : ∃ r, r = weekHi (hundM M kk) i := ⟨_, rfl⟩
        rw [← hlo, ← hhi] at hA' hbd
        rw [← hla, ← hha] at hB'
        rw [← hlo, ← hhi, ← hla, ← hha] at e2 e3
        have HWA := Lib.hid hA'
        have HWB := Lib.hid hB'
        have E2 := Lib.hid e2
        have E3 := Lib.hid e3
        clear hA hB hA' hB' e1 e2 e3 hlo hhi hla hha hisw
        go_upto_region 15 with (go_at_call 21; refine HWA.out.mono ?_; rintro e w2 ⟨rfl, hE8⟩)
        obtain ⟨s15, hs15⟩ : ∃ s15, s15 = w2.heap.size := ⟨_, rfl⟩
        obtain ⟨WJ, hWJ⟩ : ∃ WJ, WJ = w2.alloc (.cells #[.int .i64 lo, .int .i64 hi] 39) := ⟨_, rfl⟩
        have hEJ : Ext WH WJ := by rw [hWJ]; exact (x.h.trans hE8).alloc _
        have hsz : WH.heap.size ≤ s15 := by rw [hs15]; exact (x.h.trans hE8).size
        have m15 : WJ.heap[s15]? = some (.cells #[.int .i64 lo, .int .i64 hi] 39) := by rw [hWJ, hs15]; exact heap_new _ _
        rw [← hs15, ← hWJ]
        have HEJ := Lib.hid hEJ
        have HM15 := Lib.hid m15
        have HSZ := Lib.hid hsz
        have q7 := heap_ext3 HQ7.out HEJ.out
        have b0 := ExtW.cell (v := .slice (some ⟨g1, 0, none⟩) M.weeks.length c1) (cell_of_heap q7 0)
        have b1 := ExtW.cell (v := .slice (some ⟨g2, 0, none⟩) M.reads.length c2) (cell_of_heap q7 1)
        have b2 := ExtW.cell (v := .int .i64 M.wrong) (cell_of_heap q7 2)
        have HWB := Lib.hid (HWB.out WJ HEJ.out)
        clear hE8 hs15 hWJ hEJ m15 q7 hsz
        obtain ⟨y8, hy8⟩ := ExtW.of (Ext.refl WJ)
        have HWB : Hid (Calls Tryd.prog 21 #[.agg #[.slice (some ⟨g1, 0, none⟩) M.weeks.length c1, .slice (some ⟨g2, 0, none⟩) M.reads.length c2, .int .i64 M.wrong], .int .i64 i] y8.w (RetSp la ha (0) y8.w)) := hy8 ▸ HWB
        conv => arg 5; rw [hy8]
        clear hy8
        go_upto_region 16 with (go_at_call 21; refine HWB.out.mono ?_; rintro e w2 ⟨rfl, hE8⟩)
        obtain ⟨s17, hs17⟩ : ∃ s17, s17 = w2.heap.size := ⟨_, rfl⟩
        obtain ⟨WK, hWK⟩ : ∃ WK, WK = w2.alloc (.cells #[.int .i64 la, .int .i64 ha] 39) := ⟨_, rfl⟩
        have hEK : Ext WJ WK := by rw [hWK]; exact (y8.h.trans hE8).alloc _
        have hn17 : s15 ≠ s17 := by
          have := (Array.getElem?_eq_some_iff.1 HM15.out).1
          have := (y8.h.trans hE8).size
          omega
        have m17 : WK.heap[s17]? = some (.cells #[.int .i64 la, .int .i64 ha] 39) := by rw [hWK, hs17]; exact heap_new _ _
        rw [← hs17, ← hWK]
        have HEK := Lib.hid (HEJ.out.trans hEK)
        have m15 := heap_ext3 HM15.out hEK
        have HN17 := Lib.hid hn17
        have HM15 := Lib.hid m15
        have HM17 := Lib.hid m17
        have d0 := ExtW.cell (v := .int .i64 lo) (cell_of_heap m15 0)
        have d1 := ExtW.cell (v := .int .i64 hi) (cell_of_heap m15 1)
        have f0 := ExtW.cell (v := .int .i64 la) (cell_of_heap m17 0)
        have f1 := ExtW.cell (v := .int .i64 ha) (cell_of_heap m17 1)
        have r0 : ∀ x : ExtW WK, x.w.frozen? ⟨s15, 0, none⟩ = false := fun x => cell_frozen (heap_ext3 m15 x.h) 0
        have r1 : ∀ x : ExtW WK, x.w.frozen? ⟨s15, 1, none⟩ = false := fun x => cell_frozen (heap_ext3 m15 x.h) 1
        have HS2 := Lib.hid (fun x : ExtW WK => ExtW.callX (x := x) (sane04 lo hi x.w (by omega)))
        clear hE8 hs17 hWK hEK m15 m17 hn17
        obtain ⟨y9, hy9⟩ := ExtW.of (Ext.refl WK)
        conv => arg 5; rw [hy9]
        clear hy9
        by_cases hik : i = kk
        · subst hik
          obtain ⟨hla, hha⟩ : la = lo + 100 ∧ ha = hi + 100 := by have := E2.out (by trivial); rw [if_pos rfl] at this; exact this
          subst hla
          subst hha
          have t1 : IntKind.i64.wrap (lo + 100) = lo + 100 := IntWalk.i64_in _ (by omega)
          have t2 : IntKind.i64.wrap (hi + 100) = hi + 100 := IntWalk.i64_in _ (by omega)
          go_upto_region 18 with (go_at_call 32; refine (HS2.out _).mono ?_; rintro e w2 ⟨rfl, y10, rfl, -⟩)
          obtain ⟨WL, hWL⟩ : ∃ WL, WL = (y10.w.setCell ⟨s15, 0, none⟩ (.int .i64 (lo + 100))).setCell ⟨s15, 1, none⟩ (.int .i64 (hi + 100)) := ⟨_, rfl⟩
          have n15 : WL.heap[s15]? = some (.cells #[.int .i64 (lo + 100), .int .i64 (hi + 100)] 39) := by rw [hWL]; exact heap_pair (heap_ext3 HM15.out y10.h)
          have n17 : WL.heap[s17]? = some (.cells #[.int .i64 (lo + 100), .int .i64 (hi + 100)] 39) := by rw [hWL]; exact heap_set_ne (Ne.symm HN17.out) (heap_set_ne (Ne.symm HN17.out) (heap_ext3 HM17.out y10.h))
          have hEL : Ext WH WL := by rw [hWL]; exact Ext.setCell (Ext.setCell (HEK.out.trans y10.h) (p := ⟨s15, 0, none⟩) HSZ.out _) (p := ⟨s15, 1, none⟩) HSZ.out _
          rw [← hWL]
          have d0 : WL.cell? ⟨s15, 0, none⟩ = some (.int .i64 (lo + 100)) := cell_of_heap n15 0
          have d1 : WL.cell? ⟨s15, 1, none⟩ = some (.int .i64 (hi + 100)) := cell_of_heap n15 1
          have f0 : WL.cell? ⟨s17, 0, none⟩ = some (.int .i64 (lo + 100)) := cell_of_heap n17 0
          have f1 : WL.cell? ⟨s17, 1, none⟩ = some (.int .i64 (hi + 100)) := cell_of_heap n17 1
          have HEL := Lib.hid hEL
          clear hWL n15 n17 hEL
          go_wp2
          go_roundw
          case rel => exact ⟨i + 1, by omega, by simp, ⟨WL, HEL.out⟩, rfl⟩
          case measure => simp [intOf]; omega
        · obtain ⟨hla, hha⟩ : la = lo ∧ ha = hi := by have := E2.out (by trivial); rw [if_neg hik] at this; omega
          subst hla
          subst hha
          have hik' : ((i : Int) == (kk : Int)) = false := by simp; omega
          have hik'' : ¬(i : Int) = (kk : Int) := by omega
          clear hik
          go_wp2
          go_roundw
          case rel => exact ⟨i + 1, by omega, by simp, ⟨_, HEK.out.trans y9.h⟩, rfl⟩
          case measure => simp [intOf]; omega
      · obtain rfl : i = M.weeks.length := by omega
        clear HK1 HK2 HKE
        go_wp2
        go_loopw [19] (fun i wr => ∃ i' : Nat, i' ≤ M.weeks.length + 1 ∧ i = .int .i64 i' ∧ ∃ x : ExtW WH, wr = x.w) (fun i _ => M.weeks.length + 1 - (intOf i).toNat)
        case atStart => exact ⟨0, Nat.zero_le _, rfl, x, rfl⟩
        case round =>
          obtain ⟨i, hi', rfl, x, rfl⟩ := hrel
          by_cases hlt : i ≤ M.weeks.length
          · have hlt' : (i : Int) ≤ (M.weeks.length : Int) := by omega
            have hA := HH1.out i
            have hB := HH2.out i
            have hsh := showsA_len M i
            obtain ⟨lp, hlp⟩ : ∃ l, l = showsA M i := ⟨_, rfl⟩
            obtain ⟨na, hna⟩ : ∃ l, l = askV M (isAf i M.weeks.length) := ⟨_, rfl⟩
            rw [← hlp, ← hna] at hA hB
            rw [← hlp] at hsh
            have HA := Lib.hid hA
            have HB := Lib.hid hB
            clear hA hB hlp hna
            go_upto_region 24 with (go_at_call 29; refine (HA.out _).mono ?_; rintro e w2 ⟨pl, cl, rfl, x3, rfl, -, hI3, -⟩)
            have HI3 := Lib.hid hI3
            clear hI3
            go_upto_region 25 with (go_at_call 29; refine (HB.out _).mono ?_; rintro e w2 ⟨ql, dl, rfl, x4, rfl, hE4, hI4, -⟩)
            have HSI := Lib.hid (sameX (x := x4) (c := cl) (d := dl) (by omega) (HI3.out.ext hE4) hI4)
            clear hE4 hI4
            go_wp2_with (go_at_call 19; refine HSI.out.mono ?_; rintro e w2 ⟨rfl, x5, rfl, -⟩)
            go_roundw
            case rel => exact ⟨i + 1, by omega, by simp, x5, rfl⟩
            case measure => simp [intOf]; omega
          · obtain rfl : i = M.weeks.length + 1 := by omega
            have hgt : ¬(M.weeks.length : Int) + 1 ≤ (M.weeks.length : Int) := by omega
            have HWZ := Lib.hid (fun x : ExtW WH => ExtW.callX (x := x) (works04 x.w (HTH.out x.w x.h)))
            go_wp2_with (go_at_call 16; refine (HWZ.out _).mono ?_; rintro e w2 ⟨rfl, z4, rfl, -⟩)
            go_ret
            exact RetE.fin ((HEF.out.trans HEH.out).trans z4.h) rfl
  · subst hnt3
    obtain ⟨hsl, hsh⟩ := HRN.out.2 (by decide)
    subst hsl
    subst hsh
    go_upto_region 12 with (first
      | (go_at_call 18; refine (HKW.out _).mono ?_; rintro e w2 ⟨rfl, za, rfl, -⟩)
      | (go_at_call 32; refine (HSN.out _).mono ?_; rintro e w2 ⟨rfl, zb, rfl, -⟩))
    clear w1 w2 d0 d1 f0 f1
    go_wp2
    go_loopw [14] (fun i wr => ∃ i' : Nat, i' ≤ M.weeks.length ∧ i = .int .i64 i' ∧ ∃ x : ExtW WH, wr = x.w) (fun i _ => M.weeks.length - (intOf i).toNat)
    case atStart => exact ⟨0, Nat.zero_le _, rfl, zb, rfl⟩
    case round =>
      obtain ⟨i, hi', rfl, x, rfl⟩ := hrel
      by_cases hlt : i < M.weeks.length
      · have hlt' : (i : Int) < (M.weeks.length : Int) := by omega
        have hA := HK1.out x.w x.h i
        have hB := fun y (h : Ext WH y) => HK2.out y h i
        have hbd := HKS.out i hlt
        obtain ⟨e1, e2, e3⟩ := HKE.out i
        have hisw : isWkB i M.weeks.length = true := isWkB_iff.2 (by omega)
        rw [hisw] at e1 e2 e3
        rw [← HNT.out] at e1 e2 e3
        have hA' : Calls Tryd.prog 21 #[.agg #[.slice (some ⟨b, o, none⟩) M.weeks.length c, .slice qq M.reads.length d, .int .i64 M.wrong], .int .i64 i] x.w (RetSp (weekLo M i) (weekHi M i) (3) x.w) := by
          have h := hA
          rw [hisw, ← HNT.out] at h
          exact h
        have hB' : ∀ y, Ext WH y → Calls Tryd.prog 21 #[.agg #[.slice (some ⟨g1, 0, none⟩) M.weeks.length c1, .slice (some ⟨g2, 0, none⟩) M.reads.length c2, .int .i64 M.wrong], .int .i64 i] y (RetSp (weekLo (hundM M kk) i) (weekHi (hundM M kk) i) (3) y) := fun y h => by
          have := hB y h
          rw [hund_len, hisw, ← e1] at this
          exact this
        obtain ⟨lo, hlo⟩ : ∃ r, r = weekLo M i := ⟨_, rfl⟩
        obtain ⟨hi, hhi⟩ : ∃ r, r = weekHi M i := ⟨_, rfl⟩
        obtain ⟨la, hla⟩ : ∃ r, r = weekLo (hundM M kk) i := ⟨_, rfl⟩
        obtain ⟨ha, hha⟩ : ∃ r, r = weekHi (hundM M kk) i := ⟨_, rfl⟩
        rw [← hlo, ← hhi] at hA' hbd
        rw [← hla, ← hha] at hB'
        rw [← hlo, ← hhi, ← hla, ← hha] at e2 e3
        have HWA := Lib.hid hA'
        have HWB := Lib.hid hB'
        have E2 := Lib.hid e2
        have E3 := Lib.hid e3
        clear hA hB hA' hB' e1 e2 e3 hlo hhi hla hha hisw
        go_upto_region 15 with (go_at_call 21; refine HWA.out.mono ?_; rintro e w2 ⟨rfl, hE8⟩)
        obtain ⟨s15, hs15⟩ : ∃ s15, s15 = w2.heap.size := ⟨_, rfl⟩
        obtain ⟨WJ, hWJ⟩ : ∃ WJ, WJ = w2.alloc (.cells #[.int .i64 lo, .int .i64 hi] 39) := ⟨_, rfl⟩
        have hEJ : Ext WH WJ := by rw [hWJ]; exact (x.h.trans hE8).alloc _
        have hsz : WH.heap.size ≤ s15 := by rw [hs15]; exact (x.h.trans hE8).size
        have m15 : WJ.heap[s15]? = some (.cells #[.int .i64 lo, .int .i64 hi] 39) := by rw [hWJ, hs15]; exact heap_new _ _
        rw [← hs15, ← hWJ]
        have HEJ := Lib.hid hEJ
        have HM15 := Lib.hid m15
        have HSZ := Lib.hid hsz
        have q7 := heap_ext3 HQ7.out HEJ.out
        have b0 := ExtW.cell (v := .slice (some ⟨g1, 0, none⟩) M.weeks.length c1) (cell_of_heap q7 0)
        have b1 := ExtW.cell (v := .slice (some ⟨g2, 0, none⟩) M.reads.length c2) (cell_of_heap q7 1)
        have b2 := ExtW.cell (v := .int .i64 M.wrong) (cell_of_heap q7 2)
        have HWB := Lib.hid (HWB.out WJ HEJ.out)
        clear hE8 hs15 hWJ hEJ m15 q7 hsz
        obtain ⟨y8, hy8⟩ := ExtW.of (Ext.refl WJ)
        have HWB : Hid (Calls Tryd.prog 21 #[.agg #[.slice (some ⟨g1, 0, none⟩) M.weeks.length c1, .slice (some ⟨g2, 0, none⟩) M.reads.length c2, .int .i64 M.wrong], .int .i64 i] y8.w (RetSp la ha (3) y8.w)) := hy8 ▸ HWB
        conv => arg 5; rw [hy8]
        clear hy8
        go_upto_region 16 with (go_at_call 21; refine HWB.out.mono ?_; rintro e w2 ⟨rfl, hE8⟩)
        obtain ⟨s17, hs17⟩ : ∃ s17, s17 = w2.heap.size := ⟨_, rfl⟩
        obtain ⟨WK, hWK⟩ : ∃ WK, WK = w2.alloc (.cells #[.int .i64 la, .int .i64 ha] 39) := ⟨_, rfl⟩
        have hEK : Ext WJ WK := by rw [hWK]; exact (y8.h.trans hE8).alloc _
        have hn17 : s15 ≠ s17 := by
          have := (Array.getElem?_eq_some_iff.1 HM15.out).1
          have := (y8.h.trans hE8).size
          omega
        have m17 : WK.heap[s17]? = some (.cells #[.int .i64 la, .int .i64 ha] 39) := by rw [hWK, hs17]; exact heap_new _ _
        rw [← hs17, ← hWK]
        have HEK := Lib.hid (HEJ.out.trans hEK)
        have m15 := heap_ext3 HM15.out hEK
        have HN17 := Lib.hid hn17
        have HM15 := Lib.hid m15
        have HM17 := Lib.hid m17
        have d0 := ExtW.cell (v := .int .i64 lo) (cell_of_heap m15 0)
        have d1 := ExtW.cell (v := .int .i64 hi) (cell_of_heap m15 1)
        have f0 := ExtW.cell (v := .int .i64 la) (cell_of_heap m17 0)
        have f1 := ExtW.cell (v := .int .i64 ha) (cell_of_heap m17 1)
        have r0 : ∀ x : ExtW WK, x.w.frozen? ⟨s15, 0, none⟩ = false := fun x => cell_frozen (heap_ext3 m15 x.h) 0
        have r1 : ∀ x : ExtW WK, x.w.frozen? ⟨s15, 1, none⟩ = false := fun x => cell_frozen (heap_ext3 m15 x.h) 1
        have HS2 := Lib.hid (fun x : ExtW WK => ExtW.callX (x := x) (sane04 lo hi x.w (by omega)))
        clear hE8 hs17 hWK hEK m15 m17 hn17
        obtain ⟨y9, hy9⟩ := ExtW.of (Ext.refl WK)
        conv => arg 5; rw [hy9]
        clear hy9
        obtain ⟨hla, hha⟩ : la = lo ∧ ha = hi := E3.out (by decide)
        subst hla
        subst hha
        by_cases hik : i = kk
        · subst hik
          go_wp2
          go_roundw
          case rel => exact ⟨i + 1, by omega, by simp, ⟨_, HEK.out.trans y9.h⟩, rfl⟩
          case measure => simp [intOf]; omega
        · have hik' : ((i : Int) == (kk : Int)) = false := by simp; omega
          have hik'' : ¬(i : Int) = (kk : Int) := by omega
          clear hik
          go_wp2
          go_roundw
          case rel => exact ⟨i + 1, by omega, by simp, ⟨_, HEK.out.trans y9.h⟩, rfl⟩
          case measure => simp [intOf]; omega
      · obtain rfl : i = M.weeks.length := by omega
        clear HK1 HK2 HKE
        go_wp2
        go_loopw [19] (fun i wr => ∃ i' : Nat, i' ≤ M.weeks.length + 1 ∧ i = .int .i64 i' ∧ ∃ x : ExtW WH, wr = x.w) (fun i _ => M.weeks.length + 1 - (intOf i).toNat)
        case atStart => exact ⟨0, Nat.zero_le _, rfl, x, rfl⟩
        case round =>
          obtain ⟨i, hi', rfl, x, rfl⟩ := hrel
          by_cases hlt : i ≤ M.weeks.length
          · have hlt' : (i : Int) ≤ (M.weeks.length : Int) := by omega
            have hA := HH1.out i
            have hB := HH2.out i
            have hsh := showsA_len M i
            obtain ⟨lp, hlp⟩ : ∃ l, l = showsA M i := ⟨_, rfl⟩
            obtain ⟨na, hna⟩ : ∃ l, l = askV M (isAf i M.weeks.length) := ⟨_, rfl⟩
            rw [← hlp, ← hna] at hA hB
            rw [← hlp] at hsh
            have HA := Lib.hid hA
            have HB := Lib.hid hB
            clear hA hB hlp hna
            go_upto_region 24 with (go_at_call 29; refine (HA.out _).mono ?_; rintro e w2 ⟨pl, cl, rfl, x3, rfl, -, hI3, -⟩)
            have HI3 := Lib.hid hI3
            clear hI3
            go_upto_region 25 with (go_at_call 29; refine (HB.out _).mono ?_; rintro e w2 ⟨ql, dl, rfl, x4, rfl, hE4, hI4, -⟩)
            have HSI := Lib.hid (sameX (x := x4) (c := cl) (d := dl) (by omega) (HI3.out.ext hE4) hI4)
            clear hE4 hI4
            go_wp2_with (go_at_call 19; refine HSI.out.mono ?_; rintro e w2 ⟨rfl, x5, rfl, -⟩)
            go_roundw
            case rel => exact ⟨i + 1, by omega, by simp, x5, rfl⟩
            case measure => simp [intOf]; omega
          · obtain rfl : i = M.weeks.length + 1 := by omega
            have hgt : ¬(M.weeks.length : Int) + 1 ≤ (M.weeks.length : Int) := by omega
            have HWZ := Lib.hid (fun x : ExtW WH => ExtW.callX (x := x) (works04 x.w (HTH.out x.w x.h)))
            go_wp2_with (go_at_call 16; refine (HWZ.out _).mono ?_; rintro e w2 ⟨rfl, z4, rfl, -⟩)
            go_ret
            exact RetE.fin ((HEF.out.trans HEH.out).trans z4.h) rfl
end Go.Proofs.YtimelbcfaniifaaDoor
