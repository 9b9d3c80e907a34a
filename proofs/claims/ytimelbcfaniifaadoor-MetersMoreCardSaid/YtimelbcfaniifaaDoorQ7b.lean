/- The walk of MetersBack. -/
import Derived.Test.YtimelbcfaniifaaDoorQ7s
namespace Go.Proofs.YtimelbcfaniifaaDoor
open Go.RowKit

theorem row_other {w : World} {B g b n c o size : Nat} {e : TypeId} {u : Value} {xs : List Value} (h : w.ownsRow B e size (.slice (some ⟨g, 0, none⟩) n c) n xs) (hb : g ≠ b) :
    (w.setCell ⟨b, o, none⟩ u).ownsRow B e size (.slice (some ⟨g, 0, none⟩) n c) n xs := by
  refine ⟨h.1, ?_⟩
  rcases h.2 with h0 | ⟨g', cap, cur, hv, hB, hg, hr⟩
  · exact Or.inl h0
  · cases hv
    exact Or.inr ⟨g, _, cur, rfl, hB, heap_set_ne hb hg, hr⟩

set_option maxRecDepth 20000 in
set_option maxHeartbeats 16000000 in
theorem MetersBack04 (v : Value) (M : Mt) (x0 x1 x2 x3 : Int) (w : World) (hv : MtV w v M) (hT : TabW w) :
    Calls Tryd.prog 7 #[v, .agg #[.int .i64 x0, .int .i64 x1, .int .i64 x2, .int .i64 x3]] w (RetE (.bool true) w) := by
  have HV := Lib.hid hv
  have HT := Lib.hid hT
  obtain ⟨p, c, qq, d, rfl, hp, hq⟩ := hv
  have HP := Lib.hid hp
  have HQ := Lib.hid hq
  clear hp hq hT
  go_enter Tryd.func7, Tryd.ntmps7
  go_upto_region 1 with (fail)
  obtain ⟨s0, hs0⟩ : ∃ s0, s0 = w.heap.size := ⟨_, rfl⟩
  obtain ⟨W, hW⟩ : ∃ W, W = (w.alloc (.cells #[.slice p M.weeks.length c, .slice qq M.reads.length d, .int .i64 M.wrong] 25)).alloc (.cells #[.int .i64 x0, .int .i64 x1, .int .i64 x2, .int .i64 x3] 27) := ⟨_, rfl⟩
  have m0 : W.heap[s0]? = some (.cells #[.slice p M.weeks.length c, .slice qq M.reads.length d, .int .i64 M.wrong] 25) := by rw [hs0]; exact heap_at0 (by rw [hW]; exact (by repeat (first | exact Ext.refl _ | assumption | refine Ext.drewN ?_ _ | refine Ext.drew ?_ | refine Ext.alloc ?_ _)))
  have m1 : W.heap[s0 + 1]? = some (.cells #[.int .i64 x0, .int .i64 x1, .int .i64 x2, .int .i64 x3] 27) := by rw [hs0, hW]; exact heap_new2 _ _ _
  have hE : Ext w W := by rw [hW]; exact (by repeat (first | exact Ext.refl _ | assumption | refine Ext.drewN ?_ _ | refine Ext.drew ?_ | refine Ext.alloc ?_ _))
  rw [← hs0, ← hW]
  have a0 := ExtW.cell (v := .slice p M.weeks.length c) (cell_of_heap m0 0)
  have a1 := ExtW.cell (v := .slice qq M.reads.length d) (cell_of_heap m0 1)
  have a2 := ExtW.cell (v := .int .i64 M.wrong) (cell_of_heap m0 2)
  have k0 := ExtW.cell (v := .int .i64 x0) (cell_of_heap m1 0)
  have k1 := ExtW.cell (v := .int .i64 x1) (cell_of_heap m1 1)
  have k2 := ExtW.cell (v := .int .i64 x2) (cell_of_heap m1 2)
  have k3 := ExtW.cell (v := .int .i64 x3) (cell_of_heap m1 3)
  have HM0 := Lib.hid m0
  have HM1 := Lib.hid m1
  have HE := Lib.hid hE
  have HS0 := Lib.hid hs0
  have HWK := Lib.hid (fun x : ExtW W => ExtW.callX (x := x) (works04 x.w (HT.out.ext (HE.out.trans x.h))))
  have HRD := Lib.hid (fun x : ExtW W => ExtW.callX (x := x) (ready04 M _ x.w (HV.out.ext (HE.out.trans x.h))))
  have HAR := Lib.hid (fun x : ExtW W => ExtW.callX (x := x) (AreWeeks04 M x1 x2 _ x.w (HV.out.ext (HE.out.trans x.h))))
  obtain ⟨y0, hy0⟩ := ExtW.of (Ext.refl W)
  clear hW m0 m1 hE hs0
  conv => arg 5; rw [hy0]
  clear hy0
  obtain ⟨b, hb⟩ : ∃ b, readyB M = b := ⟨_, rfl⟩
  rw [hb] at HRD
  obtain ⟨ba, hba⟩ : ∃ b, areB x1 x2 M.weeks.length = b := ⟨_, rfl⟩
  rw [hba] at HAR
  have HBA := Lib.hid hba
  clear hba
  cases b
  case false =>
    clear hb
    go_wp2_with (first | (go_at_call 14; refine (HRD.out _).mono ?_; rintro e w2 ⟨rfl, xr, rfl, -⟩) | (go_at_call 15; refine (HAR.out _).mono ?_; rintro e w2 ⟨rfl, xa, rfl, -⟩) | (go_at_call 16; refine (HWK.out _).mono ?_; rintro e w2 ⟨rfl, xw, rfl, -⟩))
    go_ret
    exact RetE.fin (HE.out.trans xw.h) rfl
  obtain ⟨hfar, hM⟩ := readyB_iff.1 hb
  have HVM := Lib.hid hM
  have hn5 := hM.nw
  have hn7 := hM.nr
  clear hb hfar hM
  cases ba
  case false =>
    go_wp2_with (first | (go_at_call 14; refine (HRD.out _).mono ?_; rintro e w2 ⟨rfl, xr, rfl, -⟩) | (go_at_call 15; refine (HAR.out _).mono ?_; rintro e w2 ⟨rfl, xa, rfl, -⟩) | (go_at_call 16; refine (HWK.out _).mono ?_; rintro e w2 ⟨rfl, xw, rfl, -⟩))
    go_ret
    exact RetE.fin (HE.out.trans xw.h) rfl
  have hka := areB_iff.1 HBA.out
  go_upto_region 3 with (first | (go_at_call 14; refine (HRD.out _).mono ?_; rintro e w2 ⟨rfl, xr, rfl, -⟩) | (go_at_call 15; refine (HAR.out _).mono ?_; rintro e w2 ⟨rfl, xa, rfl, -⟩) | (go_at_call 16; refine (HWK.out _).mono ?_; rintro e w2 ⟨rfl, xw, rfl, -⟩))
  clear k0 k1 k2 k3
  go_wp2_with fail
  refine (Copy04 M _ xa.w (HV.out.ext (HE.out.trans xa.h)) (by omega) (by omega)).mono ?_
  rintro e w2 ⟨u, rfl, hE2, g1, c1, g2, c2, rfl, o1, o2⟩
  have hEw2 : Ext W w2 := xa.h.trans hE2
  have hBW : W.heap.size ≤ xa.w.heap.size := xa.h.size
  have HW2 := Lib.hid hEw2
  have o1 := ownsRow_base o1 hBW
  have o2 := ownsRow_base o2 hBW
  have HO1 := Lib.hid o1
  have HO2 := Lib.hid o2
  have hg1 := (o1.lt g1 rfl)
  have hg2 := (o2.lt g2 rfl)
  have hne := own_ne o1 o2 (by decide)
  have HG := Lib.hid (show W.heap.size ≤ g1 ∧ W.heap.size ≤ g2 ∧ g2 < w2.heap.size ∧ g1 ≠ g2 ∧ g1 < w2.heap.size from ⟨hg1.1, hg2.1, hg2.2, hne, hg1.2⟩)
  clear hE2 o1 o2 hBW hEw2 hg1 hg2 hne
  go_upto_region 4 with (fail)
  obtain ⟨s7, hs7⟩ : ∃ s7, s7 = w2.heap.size := ⟨_, rfl⟩
  obtain ⟨W3, hW3⟩ : ∃ W3, W3 = w2.alloc (.cells #[.slice (some ⟨g1, 0, none⟩) M.weeks.length c1, .slice (some ⟨g2, 0, none⟩) M.reads.length c2, .int .i64 M.wrong] 25) := ⟨_, rfl⟩
  have hE3 : Ext W W3 := by rw [hW3]; exact HW2.out.alloc _
  have hA3 : Ext w2 W3 := by rw [hW3]; exact Ext.alloc (Ext.refl _) _
  have m7 : W3.heap[s7]? = some (.cells #[.slice (some ⟨g1, 0, none⟩) M.weeks.length c1, .slice (some ⟨g2, 0, none⟩) M.reads.length c2, .int .i64 M.wrong] 25) := by rw [hW3, hs7]; exact heap_new _ _
  rw [← hs7, ← hW3]
  have HM7 := Lib.hid m7
  have HE3 := Lib.hid hE3
  have HO1 := Lib.hid (ownsRow_ext HO1.out hA3)
  have HO2 := Lib.hid (ownsRow_ext HO2.out hA3)
  have hlt0 := (Array.getElem?_eq_some_iff.1 HM1.out).1
  have HLT := Lib.hid (show (s0 < W.heap.size ∧ s0 ≠ g2 ∧ s0 ≠ g1) ∧ (s0 + 1 < W.heap.size ∧ s0 + 1 ≠ g2 ∧ s0 + 1 ≠ g1) ∧ s7 ≠ g2 ∧ s7 ≠ g1 from by have := HG.out; omega)
  clear hW3 hs7 hE3 hA3 m7 hlt0 a0 a1 a2
  have HKP := Lib.hid (fun y (h : Fr (fun j => j = g1 ∨ j = g2) W3 y) => (show y.heap[s0]? = some (.cells #[.slice p M.weeks.length c, .slice qq M.reads.length d, .int .i64 M.wrong] 25) ∧ y.heap[s0 + 1]? = some (.cells #[.int .i64 x0, .int .i64 x1, .int .i64 x2, .int .i64 x3] 27) ∧ y.heap[s7]? = some (.cells #[.slice (some ⟨g1, 0, none⟩) M.weeks.length c1, .slice (some ⟨g2, 0, none⟩) M.reads.length c2, .int .i64 M.wrong] 25) ∧ Ext w y from by
    have hl := HLT.out
    have hE3 := HE3.out
    refine ⟨(h.block (s0) (by have := hE3.size; omega) (by omega)).trans (heap_ext3 HM0.out hE3), (h.block (s0 + 1) (by have := hE3.size; omega) (by omega)).trans (heap_ext3 HM1.out hE3), (h.block s7 (Array.getElem?_eq_some_iff.1 HM7.out).1 (by omega)).trans HM7.out, ?_⟩
    exact Fr.ext (HE.out.trans hE3) h (fun i hi => by have := HE.out.size; have := HG.out; omega)))
  obtain ⟨z0, z1, -⟩ := HKP.out W3 (Fr.refl _ _)
  have hw0 : W3.cell? ⟨s0, 0, none⟩ = some (.slice p M.weeks.length c) := cell_of_heap z0 0
  clear z0 z1
  go_upto_region 6 with (fail)
  clear hw0
  go_wp2
  go_loopw [7] (fun i wr => ∃ k : Nat, k ≤ M.weeks.length ∧ i = .int .i64 k ∧ Fr (fun j => j = g1 ∨ j = g2) W3 wr ∧ wr.ownsRow W.heap.size 39 2 (.slice (some ⟨g1, 0, none⟩) M.weeks.length c1) M.weeks.length (pairVs (mixL M.weeks (backW M) k)) ∧
    wr.ownsRow W.heap.size 48 2 (.slice (some ⟨g2, 0, none⟩) M.reads.length c2) M.reads.length (pairVs M.reads)) (fun i _ => M.weeks.length - (intOf i).toNat)
  case atStart => exact ⟨0, Nat.zero_le _, rfl, Fr.refl _ _, by rw [mixL_zero]; exact HO1.out, HO2.out⟩
  case round =>
    obtain ⟨k, hk, rfl, hF, hO, hO2⟩ := hrel
    have HFR := Lib.hid hF
    have HOR := Lib.hid hO
    have HOQ := Lib.hid hO2
    obtain ⟨q0, q1, q7, hEr⟩ := HKP.out wr hF
    by_cases hlt : k < M.weeks.length
    · have hlt' : (k : Int) < (M.weeks.length : Int) := by omega
      obtain ⟨j, hj⟩ : ∃ j : Nat, M.weeks.length - 1 - k = j := ⟨_, rfl⟩
      have hjl : j < M.weeks.length := by omega
      obtain ⟨b, o, rfl, hc0, hc1⟩ := (HP.out.ext hEr).at2 j hjl
      obtain ⟨ra, hra⟩ : ∃ ra, M.weeks[j].1 = ra := ⟨_, rfl⟩
      obtain ⟨rb, hrb⟩ : ∃ rb, M.weeks[j].2 = rb := ⟨_, rfl⟩
      rw [hra] at hc0
      rw [hrb] at hc1
      have HF := Lib.hid (show mixL M.weeks (backW M) (k + 1) = (mixL M.weeks (backW M) k).set k (ra, rb) from by
        rw [mixL_succ hlt]
        have e : backW M k = (ra, rb) := by
          unfold backW
          rw [hj, List.getD_eq_getElem?_getD, List.getElem?_eq_getElem hjl, ← hra, ← hrb]; rfl
        rw [e])
      have y1 : IntKind.i64.wrap ((M.weeks.length : Int) - 1) = (M.weeks.length : Int) - 1 := IntWalk.i64_in _ (by omega)
      have y2 : IntKind.i64.wrap ((M.weeks.length : Int) - 1 - (k : Int)) = (j : Int) := by
        rw [show (M.weeks.length : Int) - 1 - (k : Int) = (j : Int) by omega]; exact IntWalk.i64_in _ (by omega)
      have HC := Lib.hid (fun y (h : Ext wr y) => (⟨h.cell (cell_of_heap q0 0), h.cell (cell_of_heap q7 0), h.cell hc0, h.cell hc1⟩ :
        y.cell? ⟨s0, 0, none⟩ = some (.slice (some ⟨b, o, none⟩) M.weeks.length c) ∧ y.cell? ⟨s7, 0, none⟩ = some (.slice (some ⟨g1, 0, none⟩) M.weeks.length c1) ∧ y.cell? ⟨b, o + j * 2, none⟩ = some (.int .i64 ra) ∧ y.cell? ⟨b, o + j * 2 + 1, none⟩ = some (.int .i64 rb)))
      have hjl' : (j : Int) < (M.weeks.length : Int) := by omega
      clear hF hO hO2 q0 q1 q7 hEr hc0 hc1 hra hrb hj hjl
      go_upto_region 8 with (fail)
      refine wp_region_facts 11 [[], [0], [], [], [3], [], [5], [], [6, 7], [4, 8], [9]] [1, 2, 10] Ext (FL [Is (.pointer (some ⟨s7, 0, none⟩)), Is (.slice (some ⟨g1, 0, none⟩) M.weeks.length c1), Is (.int .i64 (k : Int)), Is (.pointer (some ⟨s0, 0, none⟩)), Is (.slice (some ⟨b, o, none⟩) M.weeks.length c), Is (.int .i64 (M.weeks.length : Int)), Is (.int .i64 ((M.weeks.length : Int) - 1)), Is (.int .i64 (k : Int)), Is (.int .i64 (j : Int)), Is (.pointer (some ⟨b, o + j * 2, none⟩)), Is (.agg #[.int .i64 ra, .int .i64 rb])]) (by kernel_rfl) (by kernel_rfl) Ext.refl (fun _ _ _ => Ext.trans) (fun _ _ => Ext.size) (FL.mono ⟨Is.mono, Is.mono, Is.mono, Is.mono, Is.mono, Is.mono, Is.mono, Is.mono, Is.mono, Is.mono, Is.mono, trivial⟩) ⟨?_, ?_, ?_, ?_, ?_, ?_, ?_, ?_, ?_, ?_, ?_, trivial⟩ ?_
      · refine opF_step ?_
        intro ys l0 h0 w' hr hf K hK
        clear hf
        simp only [fill, Act.put, dstO, List.take_succ_cons, List.take_zero, List.setIfInBounds_toArray, List.set_cons_zero, List.set_cons_succ, List.getElem?_cons_zero, Nat.zero_add, Nat.reduceAdd] at hK ⊢
        refine OpB.mk' ?_
        go_simp
        exact hK.out _ _ rfl (Ext.refl _)
      · refine opF_step ?_
        intro ys l0 h0 w' hr hf K hK
        obtain ⟨f0, -⟩ := hf
        have e0 : ys 0 = _ := f0
        obtain ⟨j0, j1, j2, j3⟩ := HC.out w' ((Ext.refl wr).drew.trans hr)
        simp only [fill, Act.put, dstO, List.take_succ_cons, List.take_zero, List.setIfInBounds_toArray, List.set_cons_zero, List.set_cons_succ, List.getElem?_cons_zero, List.getElem?_cons_succ, Nat.zero_add, Nat.reduceAdd] at hK ⊢
        simp only [e0] at hK ⊢
        clear e0 f0
        refine OpB.mk' ?_
        go_simp
        exact hK.out _ _ rfl (Ext.refl _)
      · refine opF_step ?_
        intro ys l0 h0 w' hr hf K hK
        clear hf
        simp only [fill, Act.put, dstO, List.take_succ_cons, List.take_zero, List.setIfInBounds_toArray, List.set_cons_zero, List.set_cons_succ, List.getElem?_cons_zero, List.getElem?_cons_succ, Nat.zero_add, Nat.reduceAdd] at hK ⊢
        refine OpB.mk' ?_
        go_simp
        exact hK.out _ _ rfl (Ext.refl _)
      · refine opF_step ?_
        intro ys l0 h0 w' hr hf K hK
        clear hf
        simp only [fill, Act.put, dstO, List.take_succ_cons, List.take_zero, List.setIfInBounds_toArray, List.set_cons_zero, List.set_cons_succ, List.getElem?_cons_zero, List.getElem?_cons_succ, Nat.zero_add, Nat.reduceAdd] at hK ⊢
        refine OpB.mk' ?_
        go_simp
        exact hK.out _ _ rfl (Ext.refl _)
      · refine opF_step ?_
        intro ys l0 h0 w' hr hf K hK
        obtain ⟨f0, -⟩ := hf
        have e0 : ys 3 = _ := f0
        obtain ⟨j0, j1, j2, j3⟩ := HC.out w' ((Ext.refl wr).drew.trans hr)
        simp only [fill, Act.put, dstO, List.take_succ_cons, List.take_zero, List.setIfInBounds_toArray, List.set_cons_zero, List.set_cons_succ, List.getElem?_cons_zero, List.getElem?_cons_succ, Nat.zero_add, Nat.reduceAdd] at hK ⊢
        simp only [e0] at hK ⊢
        clear e0 f0
        refine OpB.mk' ?_
        go_simp
        exact hK.out _ _ rfl (Ext.refl _)
      · refine opF_step ?_
        intro ys l0 h0 w' hr hf K hK
        clear hf
        simp only [fill, Act.put, dstO, List.take_succ_cons, List.take_zero, List.setIfInBounds_toArray, List.set_cons_zero, List.set_cons_succ, List.getElem?_cons_zero, List.getElem?_cons_succ, Nat.zero_add, Nat.reduceAdd] at hK ⊢
        refine OpB.mk' ?_
        go_simp
        exact hK.out _ _ rfl (Ext.refl _)
      · refine opF_step ?_
        intro ys l0 h0 w' hr hf K hK
        obtain ⟨f0, -⟩ := hf
        have e0 : ys 5 = _ := f0
        simp only [fill, Act.put, dstO, List.take_succ_cons, List.take_zero, List.setIfInBounds_toArray, List.set_cons_zero, List.set_cons_succ, List.getElem?_cons_zero, List.getElem?_cons_succ, Nat.zero_add, Nat.reduceAdd] at hK ⊢
        simp only [e0] at hK ⊢
        clear e0 f0
        refine OpB.mk' ?_
        go_simp
        exact hK.out _ _ rfl (Ext.refl _)
      · refine opF_step ?_
        intro ys l0 h0 w' hr hf K hK
        clear hf
        simp only [fill, Act.put, dstO, List.take_succ_cons, List.take_zero, List.setIfInBounds_toArray, List.set_cons_zero, List.set_cons_succ, List.getElem?_cons_zero, List.getElem?_cons_succ, Nat.zero_add, Nat.reduceAdd] at hK ⊢
        refine OpB.mk' ?_
        go_simp
        exact hK.out _ _ rfl (Ext.refl _)
      · refine opF_step ?_
        intro ys l0 h0 w' hr hf K hK
        obtain ⟨f0, f1, -⟩ := hf
        have e0 : ys 6 = _ := f0
        have e1 : ys 7 = _ := f1
        simp only [fill, Act.put, dstO, List.take_succ_cons, List.take_zero, List.setIfInBounds_toArray, List.set_cons_zero, List.set_cons_succ, List.getElem?_cons_zero, List.getElem?_cons_succ, Nat.zero_add, Nat.reduceAdd] at hK ⊢
        simp only [e0, e1] at hK ⊢
        clear e0 e1 f0 f1
        refine OpB.mk' ?_
        go_simp
        exact hK.out _ _ rfl (Ext.refl _)
      · refine opF_step ?_
        intro ys l0 h0 w' hr hf K hK
        obtain ⟨f0, f1, -⟩ := hf
        have e0 : ys 4 = _ := f0
        have e1 : ys 8 = _ := f1
        simp only [fill, Act.put, dstO, List.take_succ_cons, List.take_zero, List.setIfInBounds_toArray, List.set_cons_zero, List.set_cons_succ, List.getElem?_cons_zero, List.getElem?_cons_succ, Nat.zero_add, Nat.reduceAdd] at hK ⊢
        simp only [e0, e1] at hK ⊢
        clear e0 e1 f0 f1
        refine OpB.mk' ?_
        go_simp
        exact hK.out _ _ rfl (Ext.refl _)
      · refine opF_step ?_
        intro ys l0 h0 w' hr hf K hK
        obtain ⟨f0, -⟩ := hf
        have e0 : ys 9 = _ := f0
        obtain ⟨j0, j1, j2, j3⟩ := HC.out w' ((Ext.refl wr).drew.trans hr)
        simp only [fill, Act.put, dstO, List.take_succ_cons, List.take_zero, List.setIfInBounds_toArray, List.set_cons_zero, List.set_cons_succ, List.getElem?_cons_zero, List.getElem?_cons_succ, Nat.zero_add, Nat.reduceAdd] at hK ⊢
        simp only [e0] at hK ⊢
        clear e0 f0
        refine OpB.mk' ?_
        go_simp
        exact hK.out _ _ rfl (Ext.refl _)
      intro ys l0 h0 w2 hr hf hsp
      obtain ⟨f1, f2, f10, -⟩ := hf
      have e1 : ys 1 = _ := f1
      have e2 : ys 2 = _ := f2
      have e10 : ys 10 = _ := f10
      simp only [fill, Act.put, List.take_succ_cons, List.take_zero, List.setIfInBounds_toArray, List.set_cons_zero, List.set_cons_succ, Nat.zero_add, Nat.reduceAdd, List.drop_succ_cons, List.drop_zero]
      rw [e1, e2, e10]
      clear e1 f1 e2 f2 e10 f10 hsp
      have hlm : k < (mixL M.weeks (backW M) k).length := by rw [mixL_len]; exact hlt
      have hO3 := ownsRow_ext HOR.out ((Ext.refl wr).drew.trans hr)
      obtain ⟨u0, u1⟩ := row_cells hO3 hlm
      have v0 : w2.frozen? ⟨g1, k * 2, none⟩ = false := ownsRow_frozen hO3
      have v1 : w2.frozen? ⟨g1, k * 2 + 1, none⟩ = false := ownsRow_frozen hO3
      have HNO := Lib.hid (show ((w2.setCell ⟨g1, k * 2, none⟩ (.int .i64 ra)).setCell ⟨g1, k * 2 + 1, none⟩ (.int .i64 rb)).ownsRow _ _ _ _ _ _ from row_sets (k := k) (x := ra) (y := rb) hO3)
      have HNQ := Lib.hid (show ((w2.setCell ⟨g1, k * 2, none⟩ (.int .i64 ra)).setCell ⟨g1, k * 2 + 1, none⟩ (.int .i64 rb)).ownsRow _ _ _ _ _ _ from row_other (row_other (ownsRow_ext HOQ.out ((Ext.refl wr).drew.trans hr)) (Ne.symm HG.out.2.2.2.1)) (Ne.symm HG.out.2.2.2.1))
      have HNF := Lib.hid (show Fr (fun j => j = g1 ∨ j = g2) W3 ((w2.setCell ⟨g1, k * 2, none⟩ (.int .i64 ra)).setCell ⟨g1, k * 2 + 1, none⟩ (.int .i64 rb)) from ((HFR.out.trans (((Ext.refl wr).drew.trans hr).fr _)).set (Or.inl rfl)).set (Or.inl rfl))
      clear hO3 hr HOR HOQ HFR HC
      go_wp2
      go_roundw
      case rel => exact ⟨k + 1, by omega, by simp, HNF.out, by rw [HF.out]; exact HNO.out, HNQ.out⟩
      case measure => simp [intOf]; omega
    obtain rfl : k = M.weeks.length := by omega
    obtain ⟨W4, hW4⟩ : ∃ W4, W4 = wr := ⟨_, rfl⟩
    rw [← hW4] at hF hO hO2 ⊢
    have HF4 := Lib.hid hF
    have HO1 := Lib.hid hO
    have HO2 := Lib.hid hO2
    clear hF hO hO2 q0 q1 q7 hEr HFR HOR HOQ hW4
    go_wp2
    go_loopw [8] (fun i wr => ∃ k : Nat, k ≤ M.reads.length ∧ i = .int .i64 k ∧ Fr (fun j => j = g1 ∨ j = g2) W3 wr ∧ wr.ownsRow W.heap.size 39 2 (.slice (some ⟨g1, 0, none⟩) M.weeks.length c1) M.weeks.length (pairVs (mixL M.weeks (backW M) M.weeks.length)) ∧
      wr.ownsRow W.heap.size 48 2 (.slice (some ⟨g2, 0, none⟩) M.reads.length c2) M.reads.length (pairVs (mixL M.reads (fun i => backR M (M.reads.getD i (0, 0))) k))) (fun i _ => M.reads.length - (intOf i).toNat)
    case atStart => exact ⟨0, Nat.zero_le _, rfl, HF4.out, HO1.out, by rw [mixL_zero]; exact HO2.out⟩
    case round =>
      obtain ⟨k, hk, rfl, hF, hO2, hO⟩ := hrel
      have HFR := Lib.hid hF
      have HOR := Lib.hid hO
      have HOQ := Lib.hid hO2
      obtain ⟨q0, q1, q7, hEr⟩ := HKP.out wr hF
      have hw7 : wr.cell? ⟨s7, 1, none⟩ = some (.slice (some ⟨g2, 0, none⟩) M.reads.length c2) := cell_of_heap q7 1
      by_cases hlt : k < M.reads.length
      · have hlt' : (k : Int) < (M.reads.length : Int) := by omega
        have hrd := HVM.out.read _ (List.getElem_mem hlt)
        obtain ⟨b, o, rfl, hc0, hc1⟩ := (HQ.out.ext hEr).at2 k hlt
        obtain ⟨ra, hra⟩ : ∃ ra, M.reads[k].1 = ra := ⟨_, rfl⟩
        obtain ⟨rb, hrb⟩ : ∃ rb, M.reads[k].2 = rb := ⟨_, rfl⟩
        rw [hra] at hc0 hrd
        rw [hrb] at hc1 hrd
        obtain ⟨za, hza⟩ : ∃ z : Int, (M.weeks.length : Int) - ra = z := ⟨_, rfl⟩
        obtain ⟨zb, hzb⟩ : ∃ z : Int, (100 - rb) % 100 = z := ⟨_, rfl⟩
        have HF := Lib.hid (show mixL M.reads (fun i => backR M (M.reads.getD i (0, 0))) (k + 1) = (mixL M.reads (fun i => backR M (M.reads.getD i (0, 0))) k).set k (za, zb) from by
          rw [mixL_succ hlt]
          have e : backR M (M.reads.getD k (0, 0)) = (za, zb) := by
            rw [List.getD_eq_getElem?_getD, List.getElem?_eq_getElem hlt]
            unfold backR
            rw [← hza, ← hzb, ← hra, ← hrb]; rfl
          rw [e])
        have y1 : IntKind.i64.wrap ((M.weeks.length : Int) - ra) = za := by rw [hza]; exact IntWalk.i64_in _ (by omega)
        have y2 : IntKind.i64.wrap (100 - rb) = 100 - rb := IntWalk.i64_in _ (by omega)
        have y3 : (100 - rb).tmod 100 = zb := by rw [Int.tmod_eq_emod_of_nonneg (by omega), hzb]
        have y4 : IntKind.i64.wrap zb = zb := IntWalk.i64_in _ (by omega)
        have HC := Lib.hid (fun y (h : Ext wr y) => (⟨h.cell (cell_of_heap q0 1), h.cell (cell_of_heap q7 1), h.cell hc0, h.cell hc1⟩ :
          y.cell? ⟨s0, 1, none⟩ = some (.slice (some ⟨b, o, none⟩) M.reads.length d) ∧ y.cell? ⟨s7, 1, none⟩ = some (.slice (some ⟨g2, 0, none⟩) M.reads.length c2) ∧ y.cell? ⟨b, o + k * 2, none⟩ = some (.int .i64 ra) ∧ y.cell? ⟨b, o + k * 2 + 1, none⟩ = some (.int .i64 rb)))
        clear hF hO hO2 q0 q1 q7 hEr hc0 hc1 hra hrb hrd hza hzb
        go_upto_region 12 with (fail)
        clear hw7
        refine wp_region_facts 20 [[], [0], [], [], [], [4], [], [5, 6], [7], [8], [3, 9], [], [11], [], [12, 13], [14], [15], [16], [17], [10, 18]] [1, 2, 19] Ext (FL [Is (.pointer (some ⟨s7, 1, none⟩)), Is (.slice (some ⟨g2, 0, none⟩) M.reads.length c2), Is (.int .i64 (k : Int)), Is (.int .i64 (M.weeks.length : Int)), Is (.pointer (some ⟨s0, 1, none⟩)), Is (.slice (some ⟨b, o, none⟩) M.reads.length d), Is (.int .i64 (k : Int)), Is (.pointer (some ⟨b, o + k * 2, none⟩)), Is (.pointer (some ⟨b, o + k * 2, none⟩)), Is (.int .i64 ra), Is (.int .i64 za), Is (.pointer (some ⟨s0, 1, none⟩)), Is (.slice (some ⟨b, o, none⟩) M.reads.length d), Is (.int .i64 (k : Int)), Is (.pointer (some ⟨b, o + k * 2, none⟩)), Is (.pointer (some ⟨b, o + k * 2 + 1, none⟩)), Is (.int .i64 rb), Is (.int .i64 (100 - rb)), Is (.int .i64 zb), Is (.agg #[.int .i64 za, .int .i64 zb])]) (by kernel_rfl) (by kernel_rfl) Ext.refl (fun _ _ _ => Ext.trans) (fun _ _ => Ext.size) (FL.mono ⟨Is.mono, Is.mono, Is.mono, Is.mono, Is.mono, Is.mono, Is.mono, Is.mono, Is.mono, Is.mono, Is.mono, Is.mono, Is.mono, Is.mono, Is.mono, Is.mono, Is.mono, Is.mono, Is.mono, Is.mono, trivial⟩) ⟨?_, ?_, ?_, ?_, ?_, ?_, ?_, ?_, ?_, ?_, ?_, ?_, ?_, ?_, ?_, ?_, ?_, ?_, ?_, ?_, trivial⟩ ?_
        · refine opF_step ?_
          intro ys l0 h0 w' hr hf K hK
          clear hf
          simp only [fill, Act.put, dstO, List.take_succ_cons, List.take_zero, List.setIfInBounds_toArray, List.set_cons_zero, List.set_cons_succ, List.getElem?_cons_zero, Nat.zero_add, Nat.reduceAdd] at hK ⊢
          refine OpB.mk' ?_
          go_simp
          exact hK.out _ _ rfl (Ext.refl _)
        · refine opF_step ?_
          intro ys l0 h0 w' hr hf K hK
          obtain ⟨f0, -⟩ := hf
          have e0 : ys 0 = _ := f0
          obtain ⟨j0, j1, j2, j3⟩ := HC.out w' ((Ext.refl wr).drew.trans hr)
          simp only [fill, Act.put, dstO, List.take_succ_cons, List.take_zero, List.setIfInBounds_toArray, List.set_cons_zero, List.set_cons_succ, List.getElem?_cons_zero, List.getElem?_cons_succ, Nat.zero_add, Nat.reduceAdd] at hK ⊢
          simp only [e0] at hK ⊢
          clear e0 f0
          refine OpB.mk' ?_
          go_simp
          exact hK.out _ _ rfl (Ext.refl _)
        · refine opF_step ?_
          intro ys l0 h0 w' hr hf K hK
          clear hf
          simp only [fill, Act.put, dstO, List.take_succ_cons, List.take_zero, List.setIfInBounds_toArray, List.set_cons_zero, List.set_cons_succ, List.getElem?_cons_zero, List.getElem?_cons_succ, Nat.zero_add, Nat.reduceAdd] at hK ⊢
          refine OpB.mk' ?_
          go_simp
          exact hK.out _ _ rfl (Ext.refl _)
        · refine opF_step ?_
          intro ys l0 h0 w' hr hf K hK
          clear hf
          simp only [fill, Act.put, dstO, List.take_succ_cons, List.take_zero, List.setIfInBounds_toArray, List.set_cons_zero, List.set_cons_succ, List.getElem?_cons_zero, List.getElem?_cons_succ, Nat.zero_add, Nat.reduceAdd] at hK ⊢
          refine OpB.mk' ?_
          go_simp
          exact hK.out _ _ rfl (Ext.refl _)
        · refine opF_step ?_
          intro ys l0 h0 w' hr hf K hK
          clear hf
          simp only [fill, Act.put, dstO, List.take_succ_cons, List.take_zero, List.setIfInBounds_toArray, List.set_cons_zero, List.set_cons_succ, List.getElem?_cons_zero, List.getElem?_cons_succ, Nat.zero_add, Nat.reduceAdd] at hK ⊢
          refine OpB.mk' ?_
          go_simp
          exact hK.out _ _ rfl (Ext.refl _)
        · refine opF_step ?_
          intro ys l0 h0 w' hr hf K hK
          obtain ⟨f0, -⟩ := hf
          have e0 : ys 4 = _ := f0
          obtain ⟨j0, j1, j2, j3⟩ := HC.out w' ((Ext.refl wr).drew.trans hr)
          simp only [fill, Act.put, dstO, List.take_succ_cons, List.take_zero, List.setIfInBounds_toArray, List.set_cons_zero, List.set_cons_succ, List.getElem?_cons_zero, List.getElem?_cons_succ, Nat.zero_add, Nat.reduceAdd] at hK ⊢
          simp only [e0] at hK ⊢
          clear e0 f0
          refine OpB.mk' ?_
          go_simp
          exact hK.out _ _ rfl (Ext.refl _)
        · refine opF_step ?_
          intro ys l0 h0 w' hr hf K hK
          clear hf
          simp only [fill, Act.put, dstO, List.take_succ_cons, List.take_zero, List.setIfInBounds_toArray, List.set_cons_zero, List.set_cons_succ, List.getElem?_cons_zero, List.getElem?_cons_succ, Nat.zero_add, Nat.reduceAdd] at hK ⊢
          refine OpB.mk' ?_
          go_simp
          exact hK.out _ _ rfl (Ext.refl _)
        · refine opF_step ?_
          intro ys l0 h0 w' hr hf K hK
          obtain ⟨f0, f1, -⟩ := hf
          have e0 : ys 5 = _ := f0
          have e1 : ys 6 = _ := f1
          simp only [fill, Act.put, dstO, List.take_succ_cons, List.take_zero, List.setIfInBounds_toArray, List.set_cons_zero, List.set_cons_succ, List.getElem?_cons_zero, List.getElem?_cons_succ, Nat.zero_add, Nat.reduceAdd] at hK ⊢
          simp only [e0, e1] at hK ⊢
          clear e0 e1 f0 f1
          refine OpB.mk' ?_
          go_simp
          exact hK.out _ _ rfl (Ext.refl _)
        · refine opF_step ?_
          intro ys l0 h0 w' hr hf K hK
          obtain ⟨f0, -⟩ := hf
          have e0 : ys 7 = _ := f0
          simp only [fill, Act.put, dstO, List.take_succ_cons, List.take_zero, List.setIfInBounds_toArray, List.set_cons_zero, List.set_cons_succ, List.getElem?_cons_zero, List.getElem?_cons_succ, Nat.zero_add, Nat.reduceAdd] at hK ⊢
          simp only [e0] at hK ⊢
          clear e0 f0
          refine OpB.mk' ?_
          go_simp
          exact hK.out _ _ rfl (Ext.refl _)
        · refine opF_step ?_
          intro ys l0 h0 w' hr hf K hK
          obtain ⟨f0, -⟩ := hf
          have e0 : ys 8 = _ := f0
          obtain ⟨j0, j1, j2, j3⟩ := HC.out w' ((Ext.refl wr).drew.trans hr)
          simp only [fill, Act.put, dstO, List.take_succ_cons, List.take_zero, List.setIfInBounds_toArray, List.set_cons_zero, List.set_cons_succ, List.getElem?_cons_zero, List.getElem?_cons_succ, Nat.zero_add, Nat.reduceAdd] at hK ⊢
          simp only [e0] at hK ⊢
          clear e0 f0
          refine OpB.mk' ?_
          go_simp
          exact hK.out _ _ rfl (Ext.refl _)
        · refine opF_step ?_
          intro ys l0 h0 w' hr hf K hK
          obtain ⟨f0, f1, -⟩ := hf
          have e0 : ys 3 = _ := f0
          have e1 : ys 9 = _ := f1
          simp only [fill, Act.put, dstO, List.take_succ_cons, List.take_zero, List.setIfInBounds_toArray, List.set_cons_zero, List.set_cons_succ, List.getElem?_cons_zero, List.getElem?_cons_succ, Nat.zero_add, Nat.reduceAdd] at hK ⊢
          simp only [e0, e1] at hK ⊢
          clear e0 e1 f0 f1
          refine OpB.mk' ?_
          go_simp
          exact hK.out _ _ rfl (Ext.refl _)
        · refine opF_step ?_
          intro ys l0 h0 w' hr hf K hK
          clear hf
          simp only [fill, Act.put, dstO, List.take_succ_cons, List.take_zero, List.setIfInBounds_toArray, List.set_cons_zero, List.set_cons_succ, List.getElem?_cons_zero, List.getElem?_cons_succ, Nat.zero_add, Nat.reduceAdd] at hK ⊢
          refine OpB.mk' ?_
          go_simp
          exact hK.out _ _ rfl (Ext.refl _)
        · refine opF_step ?_
          intro ys l0 h0 w' hr hf K hK
          obtain ⟨f0, -⟩ := hf
          have e0 : ys 11 = _ := f0
          obtain ⟨j0, j1, j2, j3⟩ := HC.out w' ((Ext.refl wr).drew.trans hr)
          simp only [fill, Act.put, dstO, List.take_succ_cons, List.take_zero, List.setIfInBounds_toArray, List.set_cons_zero, List.set_cons_succ, List.getElem?_cons_zero, List.getElem?_cons_succ, Nat.zero_add, Nat.reduceAdd] at hK ⊢
          simp only [e0] at hK ⊢
          clear e0 f0
          refine OpB.mk' ?_
          go_simp
          exact hK.out _ _ rfl (Ext.refl _)
        · refine opF_step ?_
          intro ys l0 h0 w' hr hf K hK
          clear hf
          simp only [fill, Act.put, dstO, List.take_succ_cons, List.take_zero, List.setIfInBounds_toArray, List.set_cons_zero, List.set_cons_succ, List.getElem?_cons_zero, List.getElem?_cons_succ, Nat.zero_add, Nat.reduceAdd] at hK ⊢
          refine OpB.mk' ?_
          go_simp
          exact hK.out _ _ rfl (Ext.refl _)
        · refine opF_step ?_
          intro ys l0 h0 w' hr hf K hK
          obtain ⟨f0, f1, -⟩ := hf
          have e0 : ys 12 = _ := f0
          have e1 : ys 13 = _ := f1
          simp only [fill, Act.put, dstO, List.take_succ_cons, List.take_zero, List.setIfInBounds_toArray, List.set_cons_zero, List.set_cons_succ, List.getElem?_cons_zero, List.getElem?_cons_succ, Nat.zero_add, Nat.reduceAdd] at hK ⊢
          simp only [e0, e1] at hK ⊢
          clear e0 e1 f0 f1
          refine OpB.mk' ?_
          go_simp
          exact hK.out _ _ rfl (Ext.refl _)
        · refine opF_step ?_
          intro ys l0 h0 w' hr hf K hK
          obtain ⟨f0, -⟩ := hf
          have e0 : ys 14 = _ := f0
          simp only [fill, Act.put, dstO, List.take_succ_cons, List.take_zero, List.setIfInBounds_toArray, List.set_cons_zero, List.set_cons_succ, List.getElem?_cons_zero, List.getElem?_cons_succ, Nat.zero_add, Nat.reduceAdd] at hK ⊢
          simp only [e0] at hK ⊢
          clear e0 f0
          refine OpB.mk' ?_
          go_simp
          exact hK.out _ _ rfl (Ext.refl _)
        · refine opF_step ?_
          intro ys l0 h0 w' hr hf K hK
          obtain ⟨f0, -⟩ := hf
          have e0 : ys 15 = _ := f0
          obtain ⟨j0, j1, j2, j3⟩ := HC.out w' ((Ext.refl wr).drew.trans hr)
          simp only [fill, Act.put, dstO, List.take_succ_cons, List.take_zero, List.setIfInBounds_toArray, List.set_cons_zero, List.set_cons_succ, List.getElem?_cons_zero, List.getElem?_cons_succ, Nat.zero_add, Nat.reduceAdd] at hK ⊢
          simp only [e0] at hK ⊢
          clear e0 f0
          refine OpB.mk' ?_
          go_simp
          exact hK.out _ _ rfl (Ext.refl _)
        · refine opF_step ?_
          intro ys l0 h0 w' hr hf K hK
          obtain ⟨f0, -⟩ := hf
          have e0 : ys 16 = _ := f0
          simp only [fill, Act.put, dstO, List.take_succ_cons, List.take_zero, List.setIfInBounds_toArray, List.set_cons_zero, List.set_cons_succ, List.getElem?_cons_zero, List.getElem?_cons_succ, Nat.zero_add, Nat.reduceAdd] at hK ⊢
          simp only [e0] at hK ⊢
          clear e0 f0
          refine OpB.mk' ?_
          go_simp
          exact hK.out _ _ rfl (Ext.refl _)
        · refine opF_step ?_
          intro ys l0 h0 w' hr hf K hK
          obtain ⟨f0, -⟩ := hf
          have e0 : ys 17 = _ := f0
          simp only [fill, Act.put, dstO, List.take_succ_cons, List.take_zero, List.setIfInBounds_toArray, List.set_cons_zero, List.set_cons_succ, List.getElem?_cons_zero, List.getElem?_cons_succ, Nat.zero_add, Nat.reduceAdd] at hK ⊢
          simp only [e0] at hK ⊢
          clear e0 f0
          refine OpB.mk' ?_
          go_simp
          exact hK.out _ _ rfl (Ext.refl _)
        · refine opF_step ?_
          intro ys l0 h0 w' hr hf K hK
          obtain ⟨f0, f1, -⟩ := hf
          have e0 : ys 10 = _ := f0
          have e1 : ys 18 = _ := f1
          simp only [fill, Act.put, dstO, List.take_succ_cons, List.take_zero, List.setIfInBounds_toArray, List.set_cons_zero, List.set_cons_succ, List.getElem?_cons_zero, List.getElem?_cons_succ, Nat.zero_add, Nat.reduceAdd] at hK ⊢
          simp only [e0, e1] at hK ⊢
          clear e0 e1 f0 f1
          refine OpB.mk' ?_
          go_simp
          exact hK.out _ _ rfl (Ext.refl _)
        intro ys l0 h0 w2 hr hf hsp
        obtain ⟨f1, f2, f19, -⟩ := hf
        have e1 : ys 1 = _ := f1
        have e2 : ys 2 = _ := f2
        have e19 : ys 19 = _ := f19
        simp only [fill, Act.put, List.take_succ_cons, List.take_zero, List.setIfInBounds_toArray, List.set_cons_zero, List.set_cons_succ, Nat.zero_add, Nat.reduceAdd, List.drop_succ_cons, List.drop_zero]
        rw [e1, e2, e19]
        clear e1 f1 e2 f2 e19 f19 hsp
        have hlm : k < (mixL M.reads (fun i => backR M (M.reads.getD i (0, 0))) k).length := by rw [mixL_len]; exact hlt
        have hO3 := ownsRow_ext HOR.out ((Ext.refl wr).drew.trans hr)
        obtain ⟨u0, u1⟩ := row_cells hO3 hlm
        have v0 : w2.frozen? ⟨g2, k * 2, none⟩ = false := ownsRow_frozen hO3
        have v1 : w2.frozen? ⟨g2, k * 2 + 1, none⟩ = false := ownsRow_frozen hO3
        have HNO := Lib.hid (show ((w2.setCell ⟨g2, k * 2, none⟩ (.int .i64 za)).setCell ⟨g2, k * 2 + 1, none⟩ (.int .i64 zb)).ownsRow _ _ _ _ _ _ from row_sets (k := k) (x := za) (y := zb) hO3)
        have HNQ := Lib.hid (show ((w2.setCell ⟨g2, k * 2, none⟩ (.int .i64 za)).setCell ⟨g2, k * 2 + 1, none⟩ (.int .i64 zb)).ownsRow _ _ _ _ _ _ from row_other (row_other (ownsRow_ext HOQ.out ((Ext.refl wr).drew.trans hr)) HG.out.2.2.2.1) HG.out.2.2.2.1)
        have HNF := Lib.hid (show Fr (fun j => j = g1 ∨ j = g2) W3 ((w2.setCell ⟨g2, k * 2, none⟩ (.int .i64 za)).setCell ⟨g2, k * 2 + 1, none⟩ (.int .i64 zb)) from ((HFR.out.trans (((Ext.refl wr).drew.trans hr).fr _)).set (Or.inr rfl)).set (Or.inr rfl))
        clear hO3 hr HOR HOQ HFR HC
        go_wp2
        go_roundw
        case rel => exact ⟨k + 1, by omega, by simp, HNF.out, HNQ.out, by rw [HF.out]; exact HNO.out⟩
        case measure => simp [intOf]; omega
      · obtain rfl : k = M.reads.length := by omega
        obtain ⟨WF, hWF⟩ : ∃ WF, WF = wr := ⟨_, rfl⟩
        rw [← hWF] at hF hO hO2 q0 q1 q7 hEr ⊢
        rw [map_mix] at hO
        rw [mixL_all] at hO2
        have HVO := Lib.hid (show MtV WF (.agg #[.slice (some ⟨g1, 0, none⟩) M.weeks.length c1, .slice (some ⟨g2, 0, none⟩) M.reads.length c2, .int .i64 M.wrong]) (backM M) from ⟨_, _, _, _, by show _ = Value.agg #[.slice _ ((List.range M.weeks.length).map (backW M)).length _, .slice _ (M.reads.map (backR M)).length _, .int .i64 M.wrong]; rw [List.length_map, List.length_map, List.length_range], row_pairs hO2, row_pairs hO⟩)
        have HEF := Lib.hid hEr
        have hN := back_valid HVM.out
        have HVN := Lib.hid hN
        have HVMF := Lib.hid (fun y (h : Ext WF y) => HV.out.ext (hEr.trans h))
        have HVNF := Lib.hid (fun y (h : Ext WF y) => HVO.out.ext h)
        have HTF := Lib.hid (fun y (h : Ext WF y) => HT.out.ext (hEr.trans h))
        have HQ0 := Lib.hid q0
        have HQ1 := Lib.hid q1
        have HQ7 := Lib.hid q7
        have a0 := ExtW.cell (v := .slice p M.weeks.length c) (cell_of_heap q0 0)
        have a1 := ExtW.cell (v := .slice qq M.reads.length d) (cell_of_heap q0 1)
        have a2 := ExtW.cell (v := .int .i64 M.wrong) (cell_of_heap q0 2)
        have b0 := ExtW.cell (v := .slice (some ⟨g1, 0, none⟩) M.weeks.length c1) (cell_of_heap q7 0)
        have b1 := ExtW.cell (v := .slice (some ⟨g2, 0, none⟩) M.reads.length c2) (cell_of_heap q7 1)
        have b2 := ExtW.cell (v := .int .i64 M.wrong) (cell_of_heap q7 2)
        have k0 := ExtW.cell (v := .int .i64 x0) (cell_of_heap q1 0)
        have k1 := ExtW.cell (v := .int .i64 x1) (cell_of_heap q1 1)
        have k2 := ExtW.cell (v := .int .i64 x2) (cell_of_heap q1 2)
        have k3 := ExtW.cell (v := .int .i64 x3) (cell_of_heap q1 3)
        have hsl := sumsA_len M x1 x2
        have hes := back_sums HVM.out x1 x2
        have HS1 := Lib.hid (fun x : ExtW WF => ExtW.callL (l := sumsA M x1 x2) (n := askV M (areB x1 x2 M.weeks.length)) (x := x) (Sums04 M x1 x2 _ x.w (HVMF.out x.w x.h) (by omega) (by omega) (HTF.out x.w x.h)))
        have HS2 := Lib.hid (fun x : ExtW WF => ExtW.callL (l := sumsA (backM M) ((M.weeks.length : Int) - x2) ((M.weeks.length : Int) - x1)) (n := askV (backM M) (areB ((M.weeks.length : Int) - x2) ((M.weeks.length : Int) - x1) (backM M).weeks.length)) (x := x) (Sums04 (backM M) _ _ _ x.w (HVNF.out x.w x.h) (by have := hN.nw; omega) (by have := hN.nr; omega) (HTF.out x.w x.h)))
        rw [← hes.1, ← hes.2] at HS2
        rw [HBA.out] at HS1 HS2
        obtain ⟨ls, hls⟩ : ∃ l, l = sumsA M x1 x2 := ⟨_, rfl⟩
        rw [← hls] at HS1 HS2 hsl
        have hea := (back_iso HVM.out).ask HVM.out hN
        have hep := back_picks HVM.out
        have HAL := Lib.hid (fun x : ExtW WF => ExtW.callX (x := x) (alike04 M (backM M) _ _ x.w HVM.out hN (HVMF.out x.w x.h) (HVNF.out x.w x.h) ((back_iso HVM.out).few HVM.out hN) hea hep.1 hep.2))
        have HK1 := Lib.hid (fun y (h : Ext WF y) (k : Nat) => Week04 M k _ y (HVMF.out y h) (by omega) (by omega) (HTF.out y h))
        have HK2 := Lib.hid (fun y (h : Ext WF y) (k : Nat) => Week04 (backM M) ((M.weeks.length : Int) - 1 - k) _ y (HVNF.out y h) (by have := hN.nw; omega) (by have := hN.nr; omega) (HTF.out y h))
        have HKE := Lib.hid (fun (k : Nat) (hk : k < M.weeks.length) => back_week HVM.out hk)
        obtain ⟨nt, hnt⟩ : ∃ n, n = askV M true := ⟨_, rfl⟩
        rw [← hnt] at HS1 HS2
        have y1 : IntKind.i64.wrap ((M.weeks.length : Int) - x2) = (M.weeks.length : Int) - x2 := IntWalk.i64_in _ (by omega)
        have y2 : IntKind.i64.wrap ((M.weeks.length : Int) - x1) = (M.weeks.length : Int) - x1 := IntWalk.i64_in _ (by omega)
        obtain ⟨y0, hy0⟩ := ExtW.of (Ext.refl WF)
        clear hF hO hO2 q0 q1 q7 hEr hWF hN hes hls hea hnt hep hw7
        conv => arg 5; rw [hy0]
        clear hy0
        go_upto_region 14 with (go_at_call 17; refine (HS1.out _).mono ?_; rintro e w2 ⟨pl, cl, rfl, y3, rfl, -, hI3, -⟩)
        have HI3 := Lib.hid hI3
        clear hI3
        go_upto_region 15 with (go_at_call 17; refine (HS2.out _).mono ?_; rintro e w2 ⟨ql, dl, rfl, y4, rfl, hA4, hI4, -⟩)
        have HI3 := Lib.hid (HI3.out.ext hA4)
        have HI4 := Lib.hid hI4
        clear hA4 hI4
        go_upto_region 17 with (first
          | (go_at_call 34; refine (HAL.out _).mono ?_; rintro e w2 ⟨rfl, y7, rfl, hA7⟩)
          | (go_at_call 19; refine (sameX (x := y7) (c := cl) (d := dl) (by omega) (HI3.out.ext hA7) (HI4.out.ext hA7)).mono ?_; rintro e w2 ⟨rfl, y8, rfl, -⟩))
        clear hA7 HI3 HI4 HS1 HS2 HAL y1 y2
        go_wp2
        go_loopw [13] (fun i wr => ∃ k : Nat, k ≤ M.weeks.length ∧ i = .int .i64 k ∧ ∃ x : ExtW WF, wr = x.w) (fun i _ => M.weeks.length - (intOf i).toNat)
        case atStart => exact ⟨0, Nat.zero_le _, rfl, y8, rfl⟩
        case round =>
          obtain ⟨k, hk, rfl, x, rfl⟩ := hrel
          by_cases hlt : k < M.weeks.length
          · have hlt' : (k : Int) < (M.weeks.length : Int) := by omega
            have t1 : IntKind.i64.wrap ((M.weeks.length : Int) - 1) = (M.weeks.length : Int) - 1 := IntWalk.i64_in _ (by omega)
            have t2 : IntKind.i64.wrap ((M.weeks.length : Int) - 1 - (k : Int)) = (M.weeks.length : Int) - 1 - (k : Int) := IntWalk.i64_in _ (by omega)
            have hA := HK1.out x.w x.h k
            have hB := fun y (h : Ext WF y) => HK2.out y h k
            obtain ⟨e1, e2, e3⟩ := HKE.out k hlt
            have hB' : ∀ y, Ext WF y → Calls Tryd.prog 21 #[.agg #[.slice (some ⟨g1, 0, none⟩) M.weeks.length c1, .slice (some ⟨g2, 0, none⟩) M.reads.length c2, .int .i64 M.wrong], .int .i64 ((M.weeks.length : Int) - 1 - k)] y (RetSp (weekLo M k) (weekHi M k) (askV M (isWkB k M.weeks.length)) y) := fun y h => by
              have := hB y h
              rw [e2, e3] at this
              rw [e1]
              exact this
            obtain ⟨lo, hlo⟩ : ∃ r, r = weekLo M k := ⟨_, rfl⟩
            obtain ⟨hi, hhi⟩ : ∃ r, r = weekHi M k := ⟨_, rfl⟩
            obtain ⟨nn, hnn⟩ : ∃ r, r = askV M (isWkB k M.weeks.length) := ⟨_, rfl⟩
            rw [← hlo, ← hhi, ← hnn] at hA hB'
            have HWA := Lib.hid hA
            have HWB := Lib.hid hB'
            clear hA hB hB' e1 e2 e3 hlo hhi hnn
            go_upto_region 21 with (go_at_call 21; refine HWA.out.mono ?_; rintro e w2 ⟨rfl, hE8⟩)
            obtain ⟨s17, hs17⟩ : ∃ s17, s17 = w2.heap.size := ⟨_, rfl⟩
            obtain ⟨WG, hWG⟩ : ∃ WG, WG = w2.alloc (.cells #[.int .i64 lo, .int .i64 hi] 39) := ⟨_, rfl⟩
            have hEG : Ext x.w WG := by rw [hWG]; exact hE8.alloc _
            have m17 : WG.heap[s17]? = some (.cells #[.int .i64 lo, .int .i64 hi] 39) := by rw [hWG, hs17]; exact heap_new _ _
            rw [← hs17, ← hWG]
            have HEG := Lib.hid (x.h.trans hEG)
            have HM17 := Lib.hid m17
            have q7 := heap_ext3 HQ7.out HEG.out
            have b0 := ExtW.cell (v := .slice (some ⟨g1, 0, none⟩) M.weeks.length c1) (cell_of_heap q7 0)
            have b1 := ExtW.cell (v := .slice (some ⟨g2, 0, none⟩) M.reads.length c2) (cell_of_heap q7 1)
            have b2 := ExtW.cell (v := .int .i64 M.wrong) (cell_of_heap q7 2)
            have HWB := Lib.hid (HWB.out WG HEG.out)
            clear hE8 hs17 hWG hEG m17 q7
            obtain ⟨y8, hy8⟩ := ExtW.of (Ext.refl WG)
            have HWB : Hid (Calls Tryd.prog 21 #[.agg #[.slice (some ⟨g1, 0, none⟩) M.weeks.length c1, .slice (some ⟨g2, 0, none⟩) M.reads.length c2, .int .i64 M.wrong], .int .i64 ((M.weeks.length : Int) - 1 - k)] y8.w (RetSp lo hi nn y8.w)) := hy8 ▸ HWB
            conv => arg 5; rw [hy8]
            clear hy8
            go_upto_region 22 with (go_at_call 21; refine HWB.out.mono ?_; rintro e w2 ⟨rfl, hE8⟩)
            obtain ⟨s19, hs19⟩ : ∃ s19, s19 = w2.heap.size := ⟨_, rfl⟩
            obtain ⟨WH, hWH⟩ : ∃ WH, WH = w2.alloc (.cells #[.int .i64 lo, .int .i64 hi] 39) := ⟨_, rfl⟩
            have hEH : Ext WG WH := by rw [hWH]; exact (y8.h.trans hE8).alloc _
            have m19 : WH.heap[s19]? = some (.cells #[.int .i64 lo, .int .i64 hi] 39) := by rw [hWH, hs19]; exact heap_new _ _
            rw [← hs19, ← hWH]
            have HEH := Lib.hid (HEG.out.trans hEH)
            have m17 := heap_ext3 HM17.out hEH
            have d0 : WH.cell? ⟨s17, 0, none⟩ = some (.int .i64 lo) := cell_of_heap m17 0
            have d1 : WH.cell? ⟨s17, 1, none⟩ = some (.int .i64 hi) := cell_of_heap m17 1
            have f0 : WH.cell? ⟨s19, 0, none⟩ = some (.int .i64 lo) := cell_of_heap m19 0
            have f1 : WH.cell? ⟨s19, 1, none⟩ = some (.int .i64 hi) := cell_of_heap m19 1
            clear hE8 hs19 hWH hEH m17 m19
            go_wp2
            go_roundw
            case rel => exact ⟨k + 1, by omega, by simp, ⟨WH, HEH.out⟩, rfl⟩
            case measure => simp [intOf]; omega
          · obtain rfl : k = M.weeks.length := by omega
            clear HK1 HK2 HKE
            have HWZ := Lib.hid (fun x : ExtW WF => ExtW.callX (x := x) (works04 x.w (HTF.out x.w x.h)))
            go_wp2_with (go_at_call 16; refine (HWZ.out _).mono ?_; rintro e w2 ⟨rfl, z4, rfl, -⟩)
            go_ret
            exact RetE.fin (HEF.out.trans z4.h) rfl
end Go.Proofs.YtimelbcfaniifaaDoor
