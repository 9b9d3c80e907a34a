/- The walk of MetersStart. -/
import Derived.Test.YtimelbcfaniifaaDoorQ7a
import Derived.Test.YtimelbcfaniifaaDoorQ7l
namespace Go.Proofs.YtimelbcfaniifaaDoor
open Go.RowKit

theorem map_mix {l : List (Int × Int)} {g : Int × Int → Int × Int} : mixL l (fun i => g (l.getD i (0, 0))) l.length = l.map g := by
  rw [mixL_all]
  apply List.ext_getElem?
  intro i
  by_cases h : i < l.length
  · rw [List.getElem?_map, List.getElem?_range h, List.getElem?_map, List.getElem?_eq_getElem h]
    simp [List.getD_eq_getElem?_getD, h]
  · rw [List.getElem?_eq_none (by simp; omega), List.getElem?_eq_none (by simp; omega)]
theorem row_set1 {w : World} {B g n c k : Nat} {e : TypeId} {l : List (Int × Int)} {x y : Int} (h : w.ownsRow B e 2 (.slice (some ⟨g, 0, none⟩) n c) n (pairVs l)) (hx : l[k]? = some (x, y)) {z : Int} :
    (w.setCell ⟨g, k * 2 + 1, none⟩ (.int .i64 z)).ownsRow B e 2 (.slice (some ⟨g, 0, none⟩) n c) n (pairVs (l.set k (x, z))) := by
  have h1 := ownsRow_setV (i := k * 2 + 1) (u := .int .i64 z) h
  have h2 := pairVs_set (l := l) (i := k) (a := x) (b := z)
  obtain ⟨hk, e⟩ := List.getElem?_eq_some_iff.1 hx
  have h3 : (pairVs l).set (k * 2) (.int .i64 x) = pairVs l := by
    apply List.ext_getElem?
    intro j
    rw [List.getElem?_set]
    by_cases ej : k * 2 = j
    · subst ej
      rw [if_pos rfl, if_pos (by rw [pairVs_len]; omega), pairVs_fst hk, e]
    · rw [if_neg ej]
  rw [h3] at h2
  rwa [h2] at h1

set_option maxRecDepth 20000 in
set_option maxHeartbeats 16000000 in
theorem MetersStart04 (v : Value) (M : Mt) (n x0 x1 x2 x3 : Int) (w : World) (hv : MtV w v M) (hT : TabW w) :
    Calls Tryd.prog 11 #[v, .int .i64 n, .agg #[.int .i64 x0, .int .i64 x1, .int .i64 x2, .int .i64 x3]] w (RetE (.bool true) w) := by
  have HV := Lib.hid hv
  have HT := Lib.hid hT
  obtain ⟨p, c, qq, d, rfl, hp, hq⟩ := hv
  have HQ := Lib.hid hq
  clear hp hq hT
  go_enter Tryd.func11, Tryd.ntmps11
  go_upto_region 1 with (fail)
  obtain ⟨s0, hs0⟩ : ∃ s0, s0 = w.heap.size := ⟨_, rfl⟩
  obtain ⟨W, hW⟩ : ∃ W, W = (w.alloc (.cells #[.slice p M.weeks.length c, .slice qq M.reads.length d, .int .i64 M.wrong] 25)).alloc (.cells #[.int .i64 x0, .int .i64 x1, .int .i64 x2, .int .i64 x3] 27) := ⟨_, rfl⟩
  have m0 : W.heap[s0]? = some (.cells #[.slice p M.weeks.length c, .slice qq M.reads.length d, .int .i64 M.wrong] 25) := by rw [hs0]; exact heap_at0 (by rw [hW]; exact (by repeat (first | exact Ext.refl _ | assumption | refine Ext.drewN ?_ _ | refine Ext.drew ?_ | refine Ext.alloc ?_ _)))
  have m1 : W.heap[s0 + 1]? = some (.cells #[.int .i64 x0, .int .i64 x1, .int .i64 x2, .int .i64 x3] 27) := by rw [hs0, hW]; exact heap_new2 _ _ _
  have hE : Ext w W := by rw [hW]; exact (by repeat (first | exact Ext.refl _ | assumption | refine Ext.drewN ?_ _ | refine Ext.drew ?_ | refine Ext.alloc ?_ _))
  rw [← hs0, ← hW]
  have a0 := ExtW.cell (v := .slice p M.weeks.length c) (cell_of_heap m0 0)
  have a1 := ExtW.cell (v := .slice qq M.reads.length d) (cell_of_heap m0 1)
  have a2 := ExtW.cell (v := .int .i64 M.wrong) (cell_of_heap m0 2)
  have k0 := ExtW.cell (v := .int .i64 x0) (cell_of_heap m1 0)
  have k1 := ExtW.cell (v := .int .i64 x1) (cell_of_heap m1 1)
  have k2 := ExtW.cell (v := .int .i64 x2) (cell_of_heap m1 2)
  have k3 := ExtW.cell (v := .int .i64 x3) (cell_of_heap m1 3)
  have HM0 := Lib.hid m0
  have HM1 := Lib.hid m1
  have HE := Lib.hid hE
  have HS0 := Lib.hid hs0
  have HWK := Lib.hid (fun x : ExtW W => ExtW.callX (x := x) (works04 x.w (HT.out.ext (HE.out.trans x.h))))
  have HRD := Lib.hid (fun x : ExtW W => ExtW.callX (x := x) (ready04 M _ x.w (HV.out.ext (HE.out.trans x.h))))
  have HAR := Lib.hid (fun x : ExtW W => ExtW.callX (x := x) (AreWeeks04 M x1 x2 _ x.w (HV.out.ext (HE.out.trans x.h))))
  have HIA := Lib.hid (fun x : ExtW W => ExtW.callX (x := x) (IsAfter04 M x3 _ x.w (HV.out.ext (HE.out.trans x.h))))
  obtain ⟨y0, hy0⟩ := ExtW.of (Ext.refl W)
  clear hW m0 m1 hE hs0
  conv => arg 5; rw [hy0]
  clear hy0
  obtain ⟨b, hb⟩ : ∃ b, readyB M = b := ⟨_, rfl⟩
  rw [hb] at HRD
  obtain ⟨ba, hba⟩ : ∃ b, areB x1 x2 M.weeks.length = b := ⟨_, rfl⟩
  obtain ⟨bi, hbi⟩ : ∃ b, winB x3 0 M.weeks.length = b := ⟨_, rfl⟩
  rw [hba] at HAR
  rw [hbi] at HIA
  have HBI := Lib.hid hbi
  have HBA := Lib.hid hba
  clear hba hbi
  cases b
  case false =>
    clear hb
    go_wp2_with (first | (go_at_call 14; refine (HRD.out _).mono ?_; rintro e w2 ⟨rfl, xr, rfl, -⟩) | (go_at_call 15; refine (HAR.out _).mono ?_; rintro e w2 ⟨rfl, xa, rfl, -⟩) | (go_at_call 27; refine (HIA.out _).mono ?_; rintro e w2 ⟨rfl, xi, rfl, -⟩) | (go_at_call 16; refine (HWK.out _).mono ?_; rintro e w2 ⟨rfl, xw, rfl, -⟩))
    go_ret
    exact RetE.fin (HE.out.trans xw.h) rfl
  obtain ⟨hfar, hM⟩ := readyB_iff.1 hb
  have HVM := Lib.hid hM
  have hn5 := hM.nw
  have hn7 := hM.nr
  clear hb hfar hM
  by_cases h0 : n < 0
  · go_wp2_with (first | (go_at_call 14; refine (HRD.out _).mono ?_; rintro e w2 ⟨rfl, xr, rfl, -⟩) | (go_at_call 15; refine (HAR.out _).mono ?_; rintro e w2 ⟨rfl, xa, rfl, -⟩) | (go_at_call 27; refine (HIA.out _).mono ?_; rintro e w2 ⟨rfl, xi, rfl, -⟩) | (go_at_call 16; refine (HWK.out _).mono ?_; rintro e w2 ⟨rfl, xw, rfl, -⟩))
    go_ret
    exact RetE.fin (HE.out.trans xw.h) rfl
  by_cases h1 : 99 < n
  · go_wp2_with (first | (go_at_call 14; refine (HRD.out _).mono ?_; rintro e w2 ⟨rfl, xr, rfl, -⟩) | (go_at_call 15; refine (HAR.out _).mono ?_; rintro e w2 ⟨rfl, xa, rfl, -⟩) | (go_at_call 27; refine (HIA.out _).mono ?_; rintro e w2 ⟨rfl, xi, rfl, -⟩) | (go_at_call 16; refine (HWK.out _).mono ?_; rintro e w2 ⟨rfl, xw, rfl, -⟩))
    go_ret
    exact RetE.fin (HE.out.trans xw.h) rfl
  cases ba
  case false =>
    go_wp2_with (first | (go_at_call 14; refine (HRD.out _).mono ?_; rintro e w2 ⟨rfl, xr, rfl, -⟩) | (go_at_call 15; refine (HAR.out _).mono ?_; rintro e w2 ⟨rfl, xa, rfl, -⟩) | (go_at_call 27; refine (HIA.out _).mono ?_; rintro e w2 ⟨rfl, xi, rfl, -⟩) | (go_at_call 16; refine (HWK.out _).mono ?_; rintro e w2 ⟨rfl, xw, rfl, -⟩))
    go_ret
    exact RetE.fin (HE.out.trans xw.h) rfl
  cases bi
  case false =>
    go_wp2_with (first | (go_at_call 14; refine (HRD.out _).mono ?_; rintro e w2 ⟨rfl, xr, rfl, -⟩) | (go_at_call 15; refine (HAR.out _).mono ?_; rintro e w2 ⟨rfl, xa, rfl, -⟩) | (go_at_call 27; refine (HIA.out _).mono ?_; rintro e w2 ⟨rfl, xi, rfl, -⟩) | (go_at_call 16; refine (HWK.out _).mono ?_; rintro e w2 ⟨rfl, xw, rfl, -⟩))
    go_ret
    exact RetE.fin (HE.out.trans xw.h) rfl
  obtain ⟨nb, rfl⟩ : ∃ nb : Nat, n = nb := ⟨n.toNat, by omega⟩
  have hnb : nb ≤ 99 := by omega
  go_upto_region 3 with (first | (go_at_call 14; refine (HRD.out _).mono ?_; rintro e w2 ⟨rfl, xr, rfl, -⟩) | (go_at_call 15; refine (HAR.out _).mono ?_; rintro e w2 ⟨rfl, xa, rfl, -⟩) | (go_at_call 27; refine (HIA.out _).mono ?_; rintro e w2 ⟨rfl, xi, rfl, -⟩) | (go_at_call 16; refine (HWK.out _).mono ?_; rintro e w2 ⟨rfl, xw, rfl, -⟩))
  clear h0 h1 k0 k1 k2 k3
  go_wp2_with fail
  refine (Copy04 M _ xi.w (HV.out.ext (HE.out.trans xi.h)) (by omega) (by omega)).mono ?_
  rintro e w2 ⟨u, rfl, hE2, g1, c1, g2, c2, rfl, o1, o2⟩
  have hEw2 : Ext W w2 := xi.h.trans hE2
  have hBW : W.heap.size ≤ xi.w.heap.size := xi.h.size
  have HW2 := Lib.hid hEw2
  have o1 := ownsRow_base o1 hBW
  have o2 := ownsRow_base o2 hBW
  have HO1 := Lib.hid o1
  have HO2 := Lib.hid o2
  have hg1 := (o1.lt g1 rfl)
  have hg2 := (o2.lt g2 rfl)
  have hne := own_ne o1 o2 (by decide)
  have HG := Lib.hid (show W.heap.size ≤ g1 ∧ W.heap.size ≤ g2 ∧ g2 < w2.heap.size ∧ g1 ≠ g2 ∧ g1 < w2.heap.size from ⟨hg1.1, hg2.1, hg2.2, hne, hg1.2⟩)
  clear hE2 o1 o2 hBW hEw2 hg1 hg2 hne
  go_upto_region 4 with (fail)
  obtain ⟨s7, hs7⟩ : ∃ s7, s7 = w2.heap.size := ⟨_, rfl⟩
  obtain ⟨W3, hW3⟩ : ∃ W3, W3 = w2.alloc (.cells #[.slice (some ⟨g1, 0, none⟩) M.weeks.length c1, .slice (some ⟨g2, 0, none⟩) M.reads.length c2, .int .i64 M.wrong] 25) := ⟨_, rfl⟩
  have hE3 : Ext W W3 := by rw [hW3]; exact HW2.out.alloc _
  have hA3 : Ext w2 W3 := by rw [hW3]; exact Ext.alloc (Ext.refl _) _
  have m7 : W3.heap[s7]? = some (.cells #[.slice (some ⟨g1, 0, none⟩) M.weeks.length c1, .slice (some ⟨g2, 0, none⟩) M.reads.length c2, .int .i64 M.wrong] 25) := by rw [hW3, hs7]; exact heap_new _ _
  rw [← hs7, ← hW3]
  have HM7 := Lib.hid m7
  have HE3 := Lib.hid hE3
  have HO1 := Lib.hid (ownsRow_ext HO1.out hA3)
  have HO2 := Lib.hid (ownsRow_ext HO2.out hA3)
  have hlt0 := (Array.getElem?_eq_some_iff.1 HM1.out).1
  have HLT := Lib.hid (show (s0 < W.heap.size ∧ s0 ≠ g2 ∧ s0 ≠ g1) ∧ (s0 + 1 < W.heap.size ∧ s0 + 1 ≠ g2 ∧ s0 + 1 ≠ g1) ∧ s7 ≠ g2 ∧ s7 ≠ g1 from by have := HG.out; omega)
  clear hW3 hs7 hE3 hA3 m7 hlt0 a0 a1 a2
  have HKP := Lib.hid (fun y (h : Fr (fun j => j = g2) W3 y) => (show y.heap[s0]? = some (.cells #[.slice p M.weeks.length c, .slice qq M.reads.length d, .int .i64 M.wrong] 25) ∧ y.heap[s0 + 1]? = some (.cells #[.int .i64 x0, .int .i64 x1, .int .i64 x2, .int .i64 x3] 27) ∧ y.heap[s7]? = some (.cells #[.slice (some ⟨g1, 0, none⟩) M.weeks.length c1, .slice (some ⟨g2, 0, none⟩) M.reads.length c2, .int .i64 M.wrong] 25) ∧ Ext w y from by
    have hl := HLT.out
    have hE3 := HE3.out
    refine ⟨(h.block (s0) (by have := hE3.size; omega) (by omega)).trans (heap_ext3 HM0.out hE3), (h.block (s0 + 1) (by have := hE3.size; omega) (by omega)).trans (heap_ext3 HM1.out hE3), (h.block s7 (Array.getElem?_eq_some_iff.1 HM7.out).1 (by omega)).trans HM7.out, ?_⟩
    exact Fr.ext (HE.out.trans hE3) h (fun i hi => by have := HE.out.size; have := HG.out; omega)))
  go_wp2
  go_loopw [8] (fun i wr => ∃ k : Nat, k ≤ M.reads.length ∧ i = .int .i64 k ∧ Fr (fun j => j = g2) W3 wr ∧ wr.ownsRow W.heap.size 48 2 (.slice (some ⟨g2, 0, none⟩) M.reads.length c2) M.reads.length (pairVs (mixL M.reads (fun i => startF nb (M.reads.getD i (0, 0))) k))) (fun i _ => M.reads.length - (intOf i).toNat)
  case atStart => exact ⟨0, Nat.zero_le _, rfl, Fr.refl _ _, by rw [mixL_zero]; exact HO2.out⟩
  case round =>
    obtain ⟨k, hk, rfl, hF, hO⟩ := hrel
    have HFR := Lib.hid hF
    have HOR := Lib.hid hO
    obtain ⟨q0, q1, q7, hEr⟩ := HKP.out wr hF
    have hw7 : wr.cell? ⟨s7, 1, none⟩ = some (.slice (some ⟨g2, 0, none⟩) M.reads.length c2) := cell_of_heap q7 1
    by_cases hlt : k < M.reads.length
    · have hlt' : (k : Int) < (M.reads.length : Int) := by omega
      have hrd := HVM.out.read _ (List.getElem_mem hlt)
      obtain ⟨b, o, rfl, hc0, hc1⟩ := (HQ.out.ext hEr).at2 k hlt
      obtain ⟨ra, hra⟩ : ∃ ra, M.reads[k].1 = ra := ⟨_, rfl⟩
      obtain ⟨rb, hrb⟩ : ∃ rb, M.reads[k].2 = rb := ⟨_, rfl⟩
      rw [hrb] at hc1 hrd
      obtain ⟨z, hz⟩ : ∃ z : Int, (rb + (nb : Int)) % 100 = z := ⟨_, rfl⟩
      have hmk : (mixL M.reads (fun i => startF nb (M.reads.getD i (0, 0))) k)[k]? = some (ra, rb) := by rw [mixL_get hlt, if_neg (by omega), ← hra, ← hrb]
      have HMK := Lib.hid hmk
      have HF := Lib.hid (show mixL M.reads (fun i => startF nb (M.reads.getD i (0, 0))) (k + 1) = (mixL M.reads (fun i => startF nb (M.reads.getD i (0, 0))) k).set k (ra, z) from by
        rw [mixL_succ hlt]
        have e : startF nb (M.reads.getD k (0, 0)) = (ra, z) := by
          rw [List.getD_eq_getElem?_getD, List.getElem?_eq_getElem hlt]
          unfold startF
          rw [← hz, ← hra, ← hrb]; rfl
        rw [e])
      have z1 : IntKind.i64.wrap (rb + (nb : Int)) = rb + (nb : Int) := IntWalk.i64_in _ (by omega)
      have z2 : (rb + (nb : Int)).tmod 100 = z := by rw [Int.tmod_eq_emod_of_nonneg (by omega), hz]
      have z3 : IntKind.i64.wrap z = z := IntWalk.i64_in _ (by omega)
      have HC := Lib.hid (fun y (h : Ext wr y) => (⟨h.cell (cell_of_heap q0 1), h.cell (cell_of_heap q7 1), h.cell hc1⟩ :
        y.cell? ⟨s0, 1, none⟩ = some (.slice (some ⟨b, o, none⟩) M.reads.length d) ∧ y.cell? ⟨s7, 1, none⟩ = some (.slice (some ⟨g2, 0, none⟩) M.reads.length c2) ∧ y.cell? ⟨b, o + k * 2 + 1, none⟩ = some (.int .i64 rb)))
      clear hF hO q0 q1 q7 hEr hc0 hc1 hra hrb hrd hz hmk
      go_upto_region 7 with (fail)
      clear hw7
      refine wp_region_facts 12 [[], [0], [], [], [3], [], [4, 5], [6], [7], [], [8, 9], [10]] [1, 2, 11] Ext (FL [Is (.pointer (some ⟨s7, 1, none⟩)), Is (.slice (some ⟨g2, 0, none⟩) M.reads.length c2), Is (.int .i64 (k : Int)), Is (.pointer (some ⟨s0, 1, none⟩)), Is (.slice (some ⟨b, o, none⟩) M.reads.length d), Is (.int .i64 (k : Int)), Is (.pointer (some ⟨b, o + k * 2, none⟩)), Is (.pointer (some ⟨b, o + k * 2 + 1, none⟩)), Is (.int .i64 rb), Is (.int .i64 (nb : Int)), Is (.int .i64 (rb + (nb : Int))), Is (.int .i64 z)]) (by kernel_rfl) (by kernel_rfl) Ext.refl (fun _ _ _ => Ext.trans) (fun _ _ => Ext.size) (FL.mono ⟨Is.mono, Is.mono, Is.mono, Is.mono, Is.mono, Is.mono, Is.mono, Is.mono, Is.mono, Is.mono, Is.mono, Is.mono, trivial⟩) ⟨?_, ?_, ?_, ?_, ?_, ?_, ?_, ?_, ?_, ?_, ?_, ?_, trivial⟩ ?_
      · refine opF_step ?_
        intro ys l0 h0 w' hr hf K hK
        clear hf
        simp only [fill, Act.put, dstO, List.take_succ_cons, List.take_zero, List.setIfInBounds_toArray, List.set_cons_zero, List.set_cons_succ, List.getElem?_cons_zero, Nat.zero_add, Nat.reduceAdd] at hK ⊢
        refine OpB.mk' ?_
        go_simp
        exact hK.out _ _ rfl (Ext.refl _)
      · refine opF_step ?_
        intro ys l0 h0 w' hr hf K hK
        obtain ⟨f0, -⟩ := hf
        have e0 : ys 0 = _ := f0
        obtain ⟨j0, j1, j2⟩ := HC.out w' ((Ext.refl wr).drew.trans hr)
        simp only [fill, Act.put, dstO, List.take_succ_cons, List.take_zero, List.setIfInBounds_toArray, List.set_cons_zero, List.set_cons_succ, List.getElem?_cons_zero, List.getElem?_cons_succ, Nat.zero_add, Nat.reduceAdd] at hK ⊢
        simp only [e0] at hK ⊢
        clear e0 f0
        refine OpB.mk' ?_
        go_simp
        exact hK.out _ _ rfl (Ext.refl _)
      · refine opF_step ?_
        intro ys l0 h0 w' hr hf K hK
        clear hf
        simp only [fill, Act.put, dstO, List.take_succ_cons, List.take_zero, List.setIfInBounds_toArray, List.set_cons_zero, List.set_cons_succ, List.getElem?_cons_zero, List.getElem?_cons_succ, Nat.zero_add, Nat.reduceAdd] at hK ⊢
        refine OpB.mk' ?_
        go_simp
        exact hK.out _ _ rfl (Ext.refl _)
      · refine opF_step ?_
        intro ys l0 h0 w' hr hf K hK
        clear hf
        simp only [fill, Act.put, dstO, List.take_succ_cons, List.take_zero, List.setIfInBounds_toArray, List.set_cons_zero, List.set_cons_succ, List.getElem?_cons_zero, List.getElem?_cons_succ, Nat.zero_add, Nat.reduceAdd] at hK ⊢
        refine OpB.mk' ?_
        go_simp
        exact hK.out _ _ rfl (Ext.refl _)
      · refine opF_step ?_
        intro ys l0 h0 w' hr hf K hK
        obtain ⟨f0, -⟩ := hf
        have e0 : ys 3 = _ := f0
        obtain ⟨j0, j1, j2⟩ := HC.out w' ((Ext.refl wr).drew.trans hr)
        simp only [fill, Act.put, dstO, List.take_succ_cons, List.take_zero, List.setIfInBounds_toArray, List.set_cons_zero, List.set_cons_succ, List.getElem?_cons_zero, List.getElem?_cons_succ, Nat.zero_add, Nat.reduceAdd] at hK ⊢
        simp only [e0] at hK ⊢
        clear e0 f0
        refine OpB.mk' ?_
        go_simp
        exact hK.out _ _ rfl (Ext.refl _)
      · refine opF_step ?_
        intro ys l0 h0 w' hr hf K hK
        clear hf
        simp only [fill, Act.put, dstO, List.take_succ_cons, List.take_zero, List.setIfInBounds_toArray, List.set_cons_zero, List.set_cons_succ, List.getElem?_cons_zero, List.getElem?_cons_succ, Nat.zero_add, Nat.reduceAdd] at hK ⊢
        refine OpB.mk' ?_
        go_simp
        exact hK.out _ _ rfl (Ext.refl _)
      · refine opF_step ?_
        intro ys l0 h0 w' hr hf K hK
        obtain ⟨f0, f1, -⟩ := hf
        have e0 : ys 4 = _ := f0
        have e1 : ys 5 = _ := f1
        simp only [fill, Act.put, dstO, List.take_succ_cons, List.take_zero, List.setIfInBounds_toArray, List.set_cons_zero, List.set_cons_succ, List.getElem?_cons_zero, List.getElem?_cons_succ, Nat.zero_add, Nat.reduceAdd] at hK ⊢
        simp only [e0, e1] at hK ⊢
        clear e0 e1 f0 f1
        refine OpB.mk' ?_
        go_simp
        exact hK.out _ _ rfl (Ext.refl _)
      · refine opF_step ?_
        intro ys l0 h0 w' hr hf K hK
        obtain ⟨f0, -⟩ := hf
        have e0 : ys 6 = _ := f0
        simp only [fill, Act.put, dstO, List.take_succ_cons, List.take_zero, List.setIfInBounds_toArray, List.set_cons_zero, List.set_cons_succ, List.getElem?_cons_zero, List.getElem?_cons_succ, Nat.zero_add, Nat.reduceAdd] at hK ⊢
        simp only [e0] at hK ⊢
        clear e0 f0
        refine OpB.mk' ?_
        go_simp
        exact hK.out _ _ rfl (Ext.refl _)
      · refine opF_step ?_
        intro ys l0 h0 w' hr hf K hK
        obtain ⟨f0, -⟩ := hf
        have e0 : ys 7 = _ := f0
        obtain ⟨j0, j1, j2⟩ := HC.out w' ((Ext.refl wr).drew.trans hr)
        simp only [fill, Act.put, dstO, List.take_succ_cons, List.take_zero, List.setIfInBounds_toArray, List.set_cons_zero, List.set_cons_succ, List.getElem?_cons_zero, List.getElem?_cons_succ, Nat.zero_add, Nat.reduceAdd] at hK ⊢
        simp only [e0] at hK ⊢
        clear e0 f0
        refine OpB.mk' ?_
        go_simp
        exact hK.out _ _ rfl (Ext.refl _)
      · refine opF_step ?_
        intro ys l0 h0 w' hr hf K hK
        clear hf
        simp only [fill, Act.put, dstO, List.take_succ_cons, List.take_zero, List.setIfInBounds_toArray, List.set_cons_zero, List.set_cons_succ, List.getElem?_cons_zero, List.getElem?_cons_succ, Nat.zero_add, Nat.reduceAdd] at hK ⊢
        refine OpB.mk' ?_
        go_simp
        exact hK.out _ _ rfl (Ext.refl _)
      · refine opF_step ?_
        intro ys l0 h0 w' hr hf K hK
        obtain ⟨f0, f1, -⟩ := hf
        have e0 : ys 8 = _ := f0
        have e1 : ys 9 = _ := f1
        simp only [fill, Act.put, dstO, List.take_succ_cons, List.take_zero, List.setIfInBounds_toArray, List.set_cons_zero, List.set_cons_succ, List.getElem?_cons_zero, List.getElem?_cons_succ, Nat.zero_add, Nat.reduceAdd] at hK ⊢
        simp only [e0, e1] at hK ⊢
        clear e0 e1 f0 f1
        refine OpB.mk' ?_
        go_simp
        exact hK.out _ _ rfl (Ext.refl _)
      · refine opF_step ?_
        intro ys l0 h0 w' hr hf K hK
        obtain ⟨f0, -⟩ := hf
        have e0 : ys 10 = _ := f0
        simp only [fill, Act.put, dstO, List.take_succ_cons, List.take_zero, List.setIfInBounds_toArray, List.set_cons_zero, List.set_cons_succ, List.getElem?_cons_zero, List.getElem?_cons_succ, Nat.zero_add, Nat.reduceAdd] at hK ⊢
        simp only [e0] at hK ⊢
        clear e0 f0
        refine OpB.mk' ?_
        go_simp
        exact hK.out _ _ rfl (Ext.refl _)
      intro ys l0 h0 w2 hr hf hsp
      obtain ⟨f1, f2, f11, -⟩ := hf
      have e1 : ys 1 = _ := f1
      have e2 : ys 2 = _ := f2
      have e11 : ys 11 = _ := f11
      simp only [fill, Act.put, List.take_succ_cons, List.take_zero, List.setIfInBounds_toArray, List.set_cons_zero, List.set_cons_succ, Nat.zero_add, Nat.reduceAdd, List.drop_succ_cons, List.drop_zero]
      rw [e1, e2, e11]
      clear e1 f1 e2 f2 e11 f11 hsp
      have hO2 := ownsRow_ext HOR.out ((Ext.refl wr).drew.trans hr)
      have hlm : k < (mixL M.reads (fun i => startF nb (M.reads.getD i (0, 0))) k).length := by rw [mixL_len]; exact hlt
      obtain ⟨u0, u1⟩ := row_cells hO2 hlm
      have v1 : w2.frozen? ⟨g2, k * 2 + 1, none⟩ = false := ownsRow_frozen hO2
      have HNO := Lib.hid (show (w2.setCell ⟨g2, k * 2 + 1, none⟩ (.int .i64 z)).ownsRow _ _ _ _ _ _ from row_set1 (k := k) (z := z) hO2 HMK.out)
      have HNF := Lib.hid (show Fr (fun j => j = g2) W3 (w2.setCell ⟨g2, k * 2 + 1, none⟩ (.int .i64 z)) from (HFR.out.trans (((Ext.refl wr).drew.trans hr).fr _)).set rfl)
      clear hO2 hr HOR HFR HC
      go_wp2
      go_roundw
      case rel => exact ⟨k + 1, by omega, by simp, HNF.out, by rw [HF.out]; exact HNO.out⟩
      case measure => simp [intOf]; omega
    · obtain rfl : k = M.reads.length := by omega
      obtain ⟨WF, hWF⟩ : ∃ WF, WF = wr := ⟨_, rfl⟩
      rw [← hWF] at hF hO q0 q1 q7 hEr ⊢
      have hg1p : PairsAt WF (some ⟨g1, 0, none⟩) M.weeks := (row_pairs HO1.out).fr hF (by have := HG.out; omega)
      rw [map_mix] at hO
      have HVO := Lib.hid (show MtV WF (.agg #[.slice (some ⟨g1, 0, none⟩) M.weeks.length c1, .slice (some ⟨g2, 0, none⟩) M.reads.length c2, .int .i64 M.wrong]) (startM M (nb : Int)) from ⟨_, _, _, _, by show _ = Value.agg #[.slice _ M.weeks.length _, .slice _ (M.reads.map (startF nb)).length _, .int .i64 M.wrong]; rw [List.length_map], hg1p, row_pairs hO⟩)
      have HEF := Lib.hid hEr
      have hN := start_valid (b := (nb : Int)) HVM.out
      have HVN := Lib.hid hN
      have HVMF := Lib.hid (fun y (h : Ext WF y) => HV.out.ext (hEr.trans h))
      have HVNF := Lib.hid (fun y (h : Ext WF y) => HVO.out.ext h)
      have HTF := Lib.hid (fun y (h : Ext WF y) => HT.out.ext (hEr.trans h))
      have HQ0 := Lib.hid q0
      have HQ1 := Lib.hid q1
      have HQ7 := Lib.hid q7
      have a0 := ExtW.cell (v := .slice p M.weeks.length c) (cell_of_heap q0 0)
      have a1 := ExtW.cell (v := .slice qq M.reads.length d) (cell_of_heap q0 1)
      have a2 := ExtW.cell (v := .int .i64 M.wrong) (cell_of_heap q0 2)
      have b0 := ExtW.cell (v := .slice (some ⟨g1, 0, none⟩) M.weeks.length c1) (cell_of_heap q7 0)
      have b1 := ExtW.cell (v := .slice (some ⟨g2, 0, none⟩) M.reads.length c2) (cell_of_heap q7 1)
      have b2 := ExtW.cell (v := .int .i64 M.wrong) (cell_of_heap q7 2)
      have k0 := ExtW.cell (v := .int .i64 x0) (cell_of_heap q1 0)
      have k1 := ExtW.cell (v := .int .i64 x1) (cell_of_heap q1 1)
      have k2 := ExtW.cell (v := .int .i64 x2) (cell_of_heap q1 2)
      have k3 := ExtW.cell (v := .int .i64 x3) (cell_of_heap q1 3)
      have HKA := Lib.hid (areB_iff.1 HBA.out)
      have hia := winB_iff.1 HBI.out
      have HKI := Lib.hid hia
      have hsl := sumsA_len M x1 x2
      have hes := start_sums (b := (nb : Int)) HVM.out x1 x2
      have hka := ask_known HVM.out
      have HS1 := Lib.hid (fun x : ExtW WF => ExtW.callL (l := sumsA M x1 x2) (n := askV M (areB x1 x2 M.weeks.length)) (x := x) (Sums04 M x1 x2 _ x.w (HVMF.out x.w x.h) (by omega) (by omega) (HTF.out x.w x.h)))
      have HS2 := Lib.hid (fun x : ExtW WF => ExtW.callL (l := sumsA (startM M (nb : Int)) x1 x2) (n := askV (startM M (nb : Int)) (areB x1 x2 M.weeks.length)) (x := x) (Sums04 (startM M (nb : Int)) x1 x2 _ x.w (HVNF.out x.w x.h) (by have := hN.nw; omega) (by have := hN.nr; omega) (HTF.out x.w x.h)))
      rw [← hes.1, ← hes.2] at HS2
      rw [HBA.out] at HS1 HS2
      obtain ⟨ls, hls⟩ : ∃ l, l = sumsA M x1 x2 := ⟨_, rfl⟩
      rw [← hls] at HS1 HS2 hsl
      have heN := start_next HVM.out (b := (nb : Int)) (by omega)
      have hea := (start_iso (b := (nb : Int)) HVM.out).ask HVM.out hN
      have HX1 := Lib.hid (fun x : ExtW WF => ExtW.callX (x := x) (show Calls Tryd.prog 24 #[_] x.w (RetE (.tuple #[.int .i64 (nextA M), .int .i64 (askV M true)]) x.w) from Next04 totalsSay M _ x.w (HVMF.out x.w x.h) (by omega) (by omega) (HTF.out x.w x.h)))
      have HX2 := Lib.hid (fun x : ExtW WF => ExtW.callX (x := x) (show Calls Tryd.prog 24 #[_] x.w (RetE (.tuple #[.int .i64 (nextA (startM M (nb : Int))), .int .i64 (askV (startM M (nb : Int)) true)]) x.w) from Next04 totalsSay (startM M (nb : Int)) _ x.w (HVNF.out x.w x.h) (by have := hN.nw; omega) (by have := hN.nr; omega) (HTF.out x.w x.h)))
      rw [← heN, ← hea] at HX2
      obtain ⟨nx, hnx⟩ : ∃ r, r = nextA M := ⟨_, rfl⟩
      rw [← hnx] at HX1 HX2
      have hep := start_picks (b := (nb : Int)) HVM.out
      have HAL := Lib.hid (fun x : ExtW WF => ExtW.callX (x := x) (alike04 M (startM M (nb : Int)) _ _ x.w HVM.out hN (HVMF.out x.w x.h) (HVNF.out x.w x.h) ((start_iso (b := (nb : Int)) HVM.out).few HVM.out hN) hea hep.1 hep.2))
      have HK1 := Lib.hid (fun y (h : Ext WF y) (k : Nat) => Week04 M k _ y (HVMF.out y h) (by omega) (by omega) (HTF.out y h))
      have HK2 := Lib.hid (fun y (h : Ext WF y) (k : Nat) => Week04 (startM M (nb : Int)) k _ y (HVNF.out y h) (by have := hN.nw; omega) (by have := hN.nr; omega) (HTF.out y h))
      have HKE := Lib.hid (fun k : Nat => start_week (b := (nb : Int)) HVM.out k)
      have hsh := showsA_len M x3
      have hei := (start_iso (b := (nb : Int)) HVM.out).askB HVM.out hN (isAf x3 M.weeks.length)
      have hss := start_shows (b := (nb : Int)) HVM.out (bn := nb) rfl (by omega) x3
      have HH1 := Lib.hid (fun x : ExtW WF => ExtW.callL (l := showsA M x3) (n := askV M (isAf x3 M.weeks.length)) (x := x) (Shows04 M x3 _ x.w (HVMF.out x.w x.h) (by omega) (by omega)))
      have HH2 := Lib.hid (fun x : ExtW WF => ExtW.callL (l := showsA (startM M (nb : Int)) x3) (n := askV (startM M (nb : Int)) (isAf x3 M.weeks.length)) (x := x) (Shows04 (startM M (nb : Int)) x3 _ x.w (HVNF.out x.w x.h) (by have := hN.nw; omega) (by have := hN.nr; omega)))
      rw [← hei] at HH2
      have hisa : isAf x3 M.weeks.length = true := isAf_iff.2 (by omega)
      rw [hisa] at HH1 HH2
      obtain ⟨lp, hlp⟩ : ∃ l, l = showsA M x3 := ⟨_, rfl⟩
      obtain ⟨lq, hlq⟩ : ∃ l, l = showsA (startM M (nb : Int)) x3 := ⟨_, rfl⟩
      rw [← hlp, ← hlq] at hss
      rw [← hlp] at hsh HH1
      rw [← hlq] at HH2
      have HSS := Lib.hid hss
      obtain ⟨nt, hnt⟩ : ∃ n, n = askV M true := ⟨_, rfl⟩
      rw [← hnt] at HS1 HS2 HX1 HX2 HH1 HH2 hka
      obtain ⟨y0, hy0⟩ := ExtW.of (Ext.refl WF)
      clear hF hO q0 q1 q7 hEr hg1p hWF hN hes hls heN hea hnx hep hei hlp hlq hnt hia hisa hss hw7
      conv => arg 5; rw [hy0]
      clear hy0
      go_upto_region 9 with (go_at_call 17; refine (HS1.out _).mono ?_; rintro e w2 ⟨pl, cl, rfl, y3, rfl, -, hI3, -⟩)
      have HI3 := Lib.hid hI3
      clear hI3
      go_upto_region 10 with (go_at_call 17; refine (HS2.out _).mono ?_; rintro e w2 ⟨ql, dl, rfl, y4, rfl, hA4, hI4, -⟩)
      have HI3 := Lib.hid (HI3.out.ext hA4)
      have HI4 := Lib.hid hI4
      clear hA4 hI4
      go_upto_region 11 with (go_at_call 24; refine (HX1.out _).mono ?_; rintro e w2 ⟨rfl, y5, rfl, hA5⟩)
      have HA5 := Lib.hid hA5
      clear hA5
      go_upto_region 12 with (go_at_call 24; refine (HX2.out _).mono ?_; rintro e w2 ⟨rfl, y6, rfl, hA6⟩)
      have HA6 := Lib.hid (HA5.out.trans hA6)
      clear hA6
      go_upto_region 14 with (first
        | (go_at_call 34; refine (HAL.out _).mono ?_; rintro e w2 ⟨rfl, y7, rfl, hA7⟩)
        | (go_at_call 19; refine (sameX (x := y7) (c := cl) (d := dl) (by omega) (HI3.out.ext (HA6.out.trans hA7)) (HI4.out.ext (HA6.out.trans hA7))).mono ?_; rintro e w2 ⟨rfl, y8, rfl, -⟩))
      clear hA7 HI3 HI4 HA5 HA6 HS1 HS2 HX1 HX2 HAL
      go_wp2
      go_loopw [17] (fun i wr => ∃ k : Nat, k ≤ M.weeks.length ∧ i = .int .i64 k ∧ ∃ x : ExtW WF, wr = x.w) (fun i _ => M.weeks.length - (intOf i).toNat)
      case atStart => exact ⟨0, Nat.zero_le _, rfl, y8, rfl⟩
      case round =>
        obtain ⟨k, hk, rfl, x, rfl⟩ := hrel
        by_cases hlt : k < M.weeks.length
        · have hlt' : (k : Int) < (M.weeks.length : Int) := by omega
          have hA := HK1.out x.w x.h k
          have hB := fun y (h : Ext WF y) => HK2.out y h k
          obtain ⟨e1, e2, e3⟩ := HKE.out k
          have hB' : ∀ y, Ext WF y → Calls Tryd.prog 21 #[.agg #[.slice (some ⟨g1, 0, none⟩) M.weeks.length c1, .slice (some ⟨g2, 0, none⟩) M.reads.length c2, .int .i64 M.wrong], .int .i64 k] y (RetSp (weekLo M k) (weekHi M k) (askV M (isWkB k M.weeks.length)) y) := fun y h => by
            have := hB y h
            rw [e2, e3] at this
            rw [e1]
            exact this
          obtain ⟨lo, hlo⟩ : ∃ r, r = weekLo M k := ⟨_, rfl⟩
          obtain ⟨hi, hhi⟩ : ∃ r, r = weekHi M k := ⟨_, rfl⟩
          obtain ⟨nn, hnn⟩ : ∃ r, r = askV M (isWkB k M.weeks.length) := ⟨_, rfl⟩
          rw [← hlo, ← hhi, ← hnn] at hA hB'
          have HWA := Lib.hid hA
          have HWB := Lib.hid hB'
          clear hA hB hB' e1 e2 e3 hlo hhi hnn
          go_upto_region 18 with (go_at_call 21; refine HWA.out.mono ?_; rintro e w2 ⟨rfl, hE8⟩)
          obtain ⟨s17, hs17⟩ : ∃ s17, s17 = w2.heap.size := ⟨_, rfl⟩
          obtain ⟨WG, hWG⟩ : ∃ WG, WG = w2.alloc (.cells #[.int .i64 lo, .int .i64 hi] 39) := ⟨_, rfl⟩
          have hEG : Ext x.w WG := by rw [hWG]; exact hE8.alloc _
          have m17 : WG.heap[s17]? = some (.cells #[.int .i64 lo, .int .i64 hi] 39) := by rw [hWG, hs17]; exact heap_new _ _
          rw [← hs17, ← hWG]
          have HEG := Lib.hid (x.h.trans hEG)
          have HM17 := Lib.hid m17
          have q7 := heap_ext3 HQ7.out HEG.out
          have b0 := ExtW.cell (v := .slice (some ⟨g1, 0, none⟩) M.weeks.length c1) (cell_of_heap q7 0)
          have b1 := ExtW.cell (v := .slice (some ⟨g2, 0, none⟩) M.reads.length c2) (cell_of_heap q7 1)
          have b2 := ExtW.cell (v := .int .i64 M.wrong) (cell_of_heap q7 2)
          have HWB := Lib.hid (HWB.out WG HEG.out)
          clear hE8 hs17 hWG hEG m17 q7
          obtain ⟨y8, hy8⟩ := ExtW.of (Ext.refl WG)
          have HWB : Hid (Calls Tryd.prog 21 #[.agg #[.slice (some ⟨g1, 0, none⟩) M.weeks.length c1, .slice (some ⟨g2, 0, none⟩) M.reads.length c2, .int .i64 M.wrong], .int .i64 k] y8.w (RetSp lo hi nn y8.w)) := hy8 ▸ HWB
          conv => arg 5; rw [hy8]
          clear hy8
          go_upto_region 19 with (go_at_call 21; refine HWB.out.mono ?_; rintro e w2 ⟨rfl, hE8⟩)
          obtain ⟨s19, hs19⟩ : ∃ s19, s19 = w2.heap.size := ⟨_, rfl⟩
          obtain ⟨WH, hWH⟩ : ∃ WH, WH = w2.alloc (.cells #[.int .i64 lo, .int .i64 hi] 39) := ⟨_, rfl⟩
          have hEH : Ext WG WH := by rw [hWH]; exact (y8.h.trans hE8).alloc _
          have m19 : WH.heap[s19]? = some (.cells #[.int .i64 lo, .int .i64 hi] 39) := by rw [hWH, hs19]; exact heap_new _ _
          rw [← hs19, ← hWH]
          have HEH := Lib.hid (HEG.out.trans hEH)
          have m17 := heap_ext3 HM17.out hEH
          have d0 : WH.cell? ⟨s17, 0, none⟩ = some (.int .i64 lo) := cell_of_heap m17 0
          have d1 : WH.cell? ⟨s17, 1, none⟩ = some (.int .i64 hi) := cell_of_heap m17 1
          have f0 : WH.cell? ⟨s19, 0, none⟩ = some (.int .i64 lo) := cell_of_heap m19 0
          have f1 : WH.cell? ⟨s19, 1, none⟩ = some (.int .i64 hi) := cell_of_heap m19 1
          clear hE8 hs19 hWH hEH m17 m19
          go_wp2
          go_roundw
          case rel => exact ⟨k + 1, by omega, by simp, ⟨WH, HEH.out⟩, rfl⟩
          case measure => simp [intOf]; omega
        · obtain rfl : k = M.weeks.length := by omega
          clear HK1 HK2 HKE
          go_upto_region 22 with (go_at_call 29; refine (HH1.out _).mono ?_; rintro e w2 ⟨pl, cl, rfl, y3, rfl, -, hI3, -⟩)
          have HI3 := Lib.hid hI3
          clear hI3
          go_upto_region 23 with (go_at_call 29; refine (HH2.out _).mono ?_; rintro e w2 ⟨ql, dl, rfl, y4, rfl, hA4, hI4, -⟩)
          have HI3 := Lib.hid (HI3.out.ext hA4)
          have HI4 := Lib.hid hI4
          have hlen : lp.length = lq.length := HSS.out.1
          have hl100 : ¬100 < (lp.length : Int) := by omega
          have hlen' : ((lp.length : Int) != (lq.length : Int)) = false := by simp [hlen]
          have HLEN := Lib.hid hlen
          clear hA4 hI4 hlen
          go_upto_region 25 with (fail)
          clear hlen' hl100
          go_wp2
          go_loopw [24] (fun i wr => ∃ k : Nat, k ≤ lp.length ∧ i = .int .i64 k ∧ ∃ x : ExtW y4.w, wr = x.w) (fun i _ => lp.length - (intOf i).toNat)
          case atStart => exact ⟨0, Nat.zero_le _, rfl, ⟨y4.w, Ext.refl _⟩, rfl⟩
          case round =>
            obtain ⟨k, hk, rfl, x2, rfl⟩ := hrel
            by_cases hlt2 : k < lp.length
            · have hlt2' : (k : Int) < (lp.length : Int) := by omega
              obtain ⟨b, o, rfl, hc⟩ := HI3.out.at k hlt2
              obtain ⟨hb1, hb2⟩ := HSS.out.2 _ (List.getElem_mem hlt2)
              obtain ⟨u, hu⟩ : ∃ u, lp[k] = u := ⟨_, rfl⟩
              rw [hu] at hc hb1 hb2
              have hcx := ExtW.cell hc
              obtain ⟨z, hz⟩ : ∃ z : Int, (u + (nb : Int)) % 100 = z := ⟨_, rfl⟩
              rw [hz] at hb2
              have g1 : ¬u < 0 := by omega
              have g2 : ¬99 < u := by omega
              have z1 : IntKind.i64.wrap (u + (nb : Int)) = u + (nb : Int) := IntWalk.i64_in _ (by omega)
              have z2 : (u + (nb : Int)).tmod 100 = z := by rw [Int.tmod_eq_emod_of_nonneg (by omega), hz]
              have z3 : IntKind.i64.wrap z = z := IntWalk.i64_in _ (by omega)
              have hin := fun x : ExtW y4.w => ExtW.callX (x := x) (in04 ql lq dl z x.w (by have := HLEN.out; omega) (HI4.out.ext x.h))
              rw [(inL_iff lq z).2 hb2] at hin
              have HIN := Lib.hid hin
              clear hc hb1 hb2 hu hz hin
              go_wp2_with (go_at_call 20; refine (HIN.out _).mono ?_; rintro e w2 ⟨rfl, x3, rfl, -⟩)
              go_roundw
              case rel => exact ⟨k + 1, by omega, by simp, x3, rfl⟩
              case measure => simp [intOf]; omega
            · obtain rfl : k = lp.length := by omega
              have HWZ := Lib.hid (fun x : ExtW y4.w => ExtW.callX (x := x) (works04 x.w (HTF.out x.w (y4.h.trans x.h))))
              go_wp2_with (go_at_call 16; refine (HWZ.out _).mono ?_; rintro e w2 ⟨rfl, z4, rfl, -⟩)
              go_ret
              exact RetE.fin ((HEF.out.trans y4.h).trans z4.h) rfl
end Go.Proofs.YtimelbcfaniifaaDoor
