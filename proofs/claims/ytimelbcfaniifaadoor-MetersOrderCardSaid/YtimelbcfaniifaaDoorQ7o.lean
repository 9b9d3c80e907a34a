/- The walk of MetersOrder. -/
import Derived.Test.YtimelbcfaniifaaDoorXI
namespace Go.Proofs.YtimelbcfaniifaaDoor
open Go.RowKit

def rotF (M : Mt) (b : Nat) : Nat → Int × Int := fun i => M.reads.getD ((i + b) % M.reads.length) (0, 0)
def rotM (M : Mt) (b : Nat) : Mt := ⟨M.weeks, mixL M.reads (rotF M b) M.reads.length, M.wrong⟩
theorem rotM_law {M : Mt} (hM : ValidM M) (b : Nat) :
    ValidM (rotM M b) ∧ leastTo M 100 = leastTo (rotM M b) 100 ∧ (∀ x, askV M x = askV (rotM M b) x) ∧ (∀ f t, sumsA M f t = sumsA (rotM M b) f t) ∧ (∀ a, showsA M a = showsA (rotM M b) a) ∧ roundLo (rotM M b) = roundLo M ∧ roundHi (rotM M b) = roundHi M ∧ nextA M = nextA (rotM M b) :=
  order_law hM rfl (by show (mixL M.reads (rotF M b) M.reads.length).Perm M.reads; rw [mixL_all]; exact rot_perm _ _) rfl

set_option maxRecDepth 20000 in
set_option maxHeartbeats 8000000 in
theorem MetersOrder04 (v : Value) (M : Mt) (n x0 x1 x2 x3 : Int) (w : World) (hv : MtV w v M) (hT : TabW w) :
    Calls Tryd.prog 8 #[v, .int .i64 n, .agg #[.int .i64 x0, .int .i64 x1, .int .i64 x2, .int .i64 x3]] w (RetE (.bool true) w) := by
  have HV := Lib.hid hv
  have HT := Lib.hid hT
  obtain ⟨p, c, qq, d, rfl, hp, hq⟩ := hv
  have HQ := Lib.hid hq
  clear hp hq hT
  go_enter Tryd.func8, Tryd.ntmps8
  go_upto_region 1 with (fail)
  obtain ⟨s0, hs0⟩ : ∃ s0, s0 = w.heap.size := ⟨_, rfl⟩
  obtain ⟨W, hW⟩ : ∃ W, W = (w.alloc (.cells #[.slice p M.weeks.length c, .slice qq M.reads.length d, .int .i64 M.wrong] 25)).alloc (.cells #[.int .i64 x0, .int .i64 x1, .int .i64 x2, .int .i64 x3] 27) := ⟨_, rfl⟩
  have m0 : W.heap[s0]? = some (.cells #[.slice p M.weeks.length c, .slice qq M.reads.length d, .int .i64 M.wrong] 25) := by rw [hs0]; exact heap_at0 (by rw [hW]; exact (by repeat (first | exact Ext.refl _ | assumption | refine Ext.drewN ?_ _ | refine Ext.drew ?_ | refine Ext.alloc ?_ _)))
  have m1 : W.heap[s0 + 1]? = some (.cells #[.int .i64 x0, .int .i64 x1, .int .i64 x2, .int .i64 x3] 27) := by rw [hs0, hW]; exact heap_new2 _ _ _
  have hE : Ext w W := by rw [hW]; exact (by repeat (first | exact Ext.refl _ | assumption | refine Ext.drewN ?_ _ | refine Ext.drew ?_ | refine Ext.alloc ?_ _))
  rw [← hs0, ← hW]
  have a0 := ExtW.cell (v := .slice p M.weeks.length c) (cell_of_heap m0 0)
  have a1 := ExtW.cell (v := .slice qq M.reads.length d) (cell_of_heap m0 1)
  have a2 := ExtW.cell (v := .int .i64 M.wrong) (cell_of_heap m0 2)
  have k0 := ExtW.cell (v := .int .i64 x0) (cell_of_heap m1 0)
  have k1 := ExtW.cell (v := .int .i64 x1) (cell_of_heap m1 1)
  have k2 := ExtW.cell (v := .int .i64 x2) (cell_of_heap m1 2)
  have k3 := ExtW.cell (v := .int .i64 x3) (cell_of_heap m1 3)
  have HM0 := Lib.hid m0
  have HM1 := Lib.hid m1
  have HE := Lib.hid hE
  have HS0 := Lib.hid hs0
  have HWK := Lib.hid (fun x : ExtW W => ExtW.callX (x := x) (works04 x.w (HT.out.ext (HE.out.trans x.h))))
  have HRD0 := Lib.hid (fun x : ExtW W => ExtW.callX (x := x) (ready04 M _ x.w (HV.out.ext (HE.out.trans x.h))))
  obtain ⟨y0, hy0⟩ := ExtW.of (Ext.refl W)
  clear hW m0 m1 hE hs0
  conv => arg 5; rw [hy0]
  clear hy0
  obtain ⟨b, hb⟩ : ∃ b, readyB M = b := ⟨_, rfl⟩
  rw [hb] at HRD0
  have HRD := HRD0
  clear HRD0
  cases b
  case false =>
    clear hb
    go_wp2_with (first | (go_at_call 14; refine (HRD.out _).mono ?_; rintro e w2 ⟨rfl, xr, rfl, -⟩) | (go_at_call 16; refine (HWK.out _).mono ?_; rintro e w2 ⟨rfl, xw, rfl, -⟩))
    go_ret
    exact RetE.fin (HE.out.trans xw.h) rfl
  obtain ⟨hfar, hM⟩ := readyB_iff.1 hb
  have HVM := Lib.hid hM
  have hn5 := hM.nw
  have hn7 := hM.nr
  clear hb hfar hM
  by_cases h0 : n < 0
  · go_wp2_with (first | (go_at_call 14; refine (HRD.out _).mono ?_; rintro e w2 ⟨rfl, xr, rfl, -⟩) | (go_at_call 16; refine (HWK.out _).mono ?_; rintro e w2 ⟨rfl, xw, rfl, -⟩))
    go_ret
    exact RetE.fin (HE.out.trans xw.h) rfl
  by_cases h1 : 100 < n
  · go_wp2_with (first | (go_at_call 14; refine (HRD.out _).mono ?_; rintro e w2 ⟨rfl, xr, rfl, -⟩) | (go_at_call 16; refine (HWK.out _).mono ?_; rintro e w2 ⟨rfl, xw, rfl, -⟩))
    go_ret
    exact RetE.fin (HE.out.trans xw.h) rfl
  obtain ⟨nb, rfl⟩ : ∃ nb : Nat, n = nb := ⟨n.toNat, by omega⟩
  have hnb : nb ≤ 100 := by omega
  go_upto_region 3 with (first | (go_at_call 14; refine (HRD.out _).mono ?_; rintro e w2 ⟨rfl, xr, rfl, -⟩) | (go_at_call 16; refine (HWK.out _).mono ?_; rintro e w2 ⟨rfl, xw, rfl, -⟩))
  clear h0 h1
  go_wp2_with fail
  refine (Copy04 M _ xr.w (HV.out.ext (HE.out.trans xr.h)) (by omega) (by omega)).mono ?_
  rintro e w2 ⟨u, rfl, hE2, g1, c1, g2, c2, rfl, o1, o2⟩
  have hEw2 : Ext W w2 := xr.h.trans hE2
  have hBW : W.heap.size ≤ xr.w.heap.size := xr.h.size
  have HW2 := Lib.hid hEw2
  have o1 := ownsRow_base o1 hBW
  have o2 := ownsRow_base o2 hBW
  have HO1 := Lib.hid o1
  have HO2 := Lib.hid o2
  have hg1 := (o1.lt g1 rfl).1
  have hg2 := (o2.lt g2 rfl)
  have hne := own_ne o1 o2 (by decide)
  have HG := Lib.hid (show W.heap.size ≤ g1 ∧ W.heap.size ≤ g2 ∧ g2 < w2.heap.size ∧ g1 ≠ g2 from ⟨hg1, hg2.1, hg2.2, hne⟩)
  clear hE2 o1 o2 hBW hEw2 hg1 hg2 hne
  go_upto_region 4 with (fail)
  obtain ⟨s7, hs7⟩ : ∃ s7, s7 = w2.heap.size := ⟨_, rfl⟩
  obtain ⟨W3, hW3⟩ : ∃ W3, W3 = w2.alloc (.cells #[.slice (some ⟨g1, 0, none⟩) M.weeks.length c1, .slice (some ⟨g2, 0, none⟩) M.reads.length c2, .int .i64 M.wrong] 25) := ⟨_, rfl⟩
  have hE3 : Ext W W3 := by rw [hW3]; exact HW2.out.alloc _
  have hA3 : Ext w2 W3 := by rw [hW3]; exact Ext.alloc (Ext.refl _) _
  have m7 : W3.heap[s7]? = some (.cells #[.slice (some ⟨g1, 0, none⟩) M.weeks.length c1, .slice (some ⟨g2, 0, none⟩) M.reads.length c2, .int .i64 M.wrong] 25) := by rw [hW3, hs7]; exact heap_new _ _
  rw [← hs7, ← hW3]
  have HM7 := Lib.hid m7
  have HE3 := Lib.hid hE3
  have HO1 := Lib.hid (ownsRow_ext HO1.out hA3)
  have HO2 := Lib.hid (ownsRow_ext HO2.out hA3)
  have hlt0 := (Array.getElem?_eq_some_iff.1 HM1.out).1
  have HLT := Lib.hid (show s0 < W.heap.size ∧ s0 + 1 < W.heap.size ∧ s0 ≠ g2 ∧ s0 + 1 ≠ g2 ∧ s7 ≠ g2 from by have := HG.out; omega)
  clear hW3 hs7 hE3 hA3 m7 hlt0 a0 a1 a2 k0 k1 k2 k3
  have HKP := Lib.hid (fun y (h : Fr (fun j => j = g2) W3 y) => (show y.heap[s0]? = some (.cells #[.slice p M.weeks.length c, .slice qq M.reads.length d, .int .i64 M.wrong] 25) ∧ y.heap[s0 + 1]? = some (.cells #[.int .i64 x0, .int .i64 x1, .int .i64 x2, .int .i64 x3] 27) ∧ y.heap[s7]? = some (.cells #[.slice (some ⟨g1, 0, none⟩) M.weeks.length c1, .slice (some ⟨g2, 0, none⟩) M.reads.length c2, .int .i64 M.wrong] 25) ∧ Ext w y ∧ PairsAt y (some ⟨g1, 0, none⟩) M.weeks from by
    have hl := HLT.out
    have hE3 := HE3.out
    refine ⟨(h.block s0 (by have := hE3.size; omega) (by omega)).trans (heap_ext3 HM0.out hE3), (h.block (s0 + 1) (by have := hE3.size; omega) (by omega)).trans (heap_ext3 HM1.out hE3), (h.block s7 (Array.getElem?_eq_some_iff.1 HM7.out).1 (by omega)).trans HM7.out, ?_, (row_pairs HO1.out).fr h (by have := HG.out; omega)⟩
    exact Fr.ext (HE.out.trans hE3) h (fun i hi => by have := HE.out.size; have := HG.out; omega)))
  go_wp2
  go_loopw [8] (fun i wr => ∃ k : Nat, k ≤ M.reads.length ∧ i = .int .i64 k ∧ Fr (fun j => j = g2) W3 wr ∧ wr.ownsRow W.heap.size 48 2 (.slice (some ⟨g2, 0, none⟩) M.reads.length c2) M.reads.length (pairVs (mixL M.reads (rotF M nb) k))) (fun i _ => M.reads.length - (intOf i).toNat)
  case atStart => exact ⟨0, Nat.zero_le _, rfl, Fr.refl _ _, by rw [mixL_zero]; exact HO2.out⟩
  case round =>
    obtain ⟨k, hk, rfl, hF, hO⟩ := hrel
    have HFR := Lib.hid hF
    have HOR := Lib.hid hO
    obtain ⟨q0, q1, q7, hEr, hg1p⟩ := HKP.out wr hF
    by_cases hlt : k < M.reads.length
    · have hlt' : (k : Int) < (M.reads.length : Int) := by omega
      obtain ⟨j, hj⟩ : ∃ j : Nat, (k + nb) % M.reads.length = j := ⟨_, rfl⟩
      have hjl : j < M.reads.length := by rw [← hj]; exact Nat.mod_lt _ (by omega)
      have z1 : IntKind.i64.wrap ((k : Int) + (nb : Int)) = (k : Int) + (nb : Int) := IntWalk.i64_in _ (by omega)
      have z2 : ((k : Int) + (nb : Int)).tmod (M.reads.length : Int) = (j : Int) := by
        rw [Int.tmod_eq_emod_of_nonneg (by omega), ← hj]; rfl
      have z3 : IntKind.i64.wrap (j : Int) = (j : Int) := IntWalk.i64_in _ (by omega)
      obtain ⟨b, o, rfl, hc0, hc1⟩ := (HQ.out.ext hEr).at2 j hjl
      obtain ⟨ra, hra⟩ : ∃ ra, M.reads[j].1 = ra := ⟨_, rfl⟩
      obtain ⟨rb, hrb⟩ : ∃ rb, M.reads[j].2 = rb := ⟨_, rfl⟩
      rw [hra] at hc0
      rw [hrb] at hc1
      have HF := Lib.hid (show mixL M.reads (rotF M nb) (k + 1) = (mixL M.reads (rotF M nb) k).set k (ra, rb) from by
        rw [mixL_succ hlt]
        have e : rotF M nb k = (ra, rb) := by
          unfold rotF
          rw [hj, List.getD_eq_getElem?_getD, List.getElem?_eq_getElem hjl, ← hra, ← hrb]; rfl
        rw [e])
      have hnr : ¬M.reads = [] := by intro e; rw [e] at hjl; exact absurd hjl (by simp)
      have HC := Lib.hid (fun y (h : Ext wr y) => (⟨h.cell (cell_of_heap q0 1), h.cell (cell_of_heap q7 1), h.cell hc0, h.cell hc1⟩ :
        y.cell? ⟨s0, 1, none⟩ = some (.slice (some ⟨b, o, none⟩) M.reads.length d) ∧ y.cell? ⟨s7, 1, none⟩ = some (.slice (some ⟨g2, 0, none⟩) M.reads.length c2) ∧ y.cell? ⟨b, o + j * 2, none⟩ = some (.int .i64 ra) ∧ y.cell? ⟨b, o + j * 2 + 1, none⟩ = some (.int .i64 rb)))
      have HJL := Lib.hid hjl
      have hjl' : (j : Int) < (M.reads.length : Int) := by omega
      have hw0 : wr.cell? ⟨s0, 1, none⟩ = some (.slice (some ⟨b, o, none⟩) M.reads.length d) := cell_of_heap q0 1
      clear hF hO q0 q1 q7 hEr hg1p hj hc0 hc1 hra hrb hjl
      go_upto_region 7 with (fail)
      clear hw0
      refine wp_region_facts 14 [[], [0], [], [], [3], [], [], [5, 6], [], [8], [9], [7, 10], [4, 11], [12]] [1, 2, 13] Ext (FL [Is (.pointer (some ⟨s7, 1, none⟩)), Is (.slice (some ⟨g2, 0, none⟩) M.reads.length c2), Is (.int .i64 (k : Int)), Is (.pointer (some ⟨s0, 1, none⟩)), Is (.slice (some ⟨b, o, none⟩) M.reads.length d), Is (.int .i64 (k : Int)), Is (.int .i64 (nb : Int)), Is (.int .i64 ((k : Int) + (nb : Int))), Is (.pointer (some ⟨s0, 1, none⟩)), Is (.slice (some ⟨b, o, none⟩) M.reads.length d), Is (.int .i64 (M.reads.length : Int)), Is (.int .i64 (j : Int)), Is (.pointer (some ⟨b, o + j * 2, none⟩)), Is (.agg #[.int .i64 ra, .int .i64 rb])]) (by kernel_rfl) (by kernel_rfl) Ext.refl (fun _ _ _ => Ext.trans) (fun _ _ => Ext.size) (FL.mono ⟨Is.mono, Is.mono, Is.mono, Is.mono, Is.mono, Is.mono, Is.mono, Is.mono, Is.mono, Is.mono, Is.mono, Is.mono, Is.mono, Is.mono, trivial⟩) ⟨?_, ?_, ?_, ?_, ?_, ?_, ?_, ?_, ?_, ?_, ?_, ?_, ?_, ?_, trivial⟩ ?_
      · refine opF_step ?_
        intro ys l0 h0 w' hr hf K hK
        clear hf
        simp only [fill, Act.put, dstO, List.take_succ_cons, List.take_zero, List.setIfInBounds_toArray, List.set_cons_zero, List.set_cons_succ, List.getElem?_cons_zero, Nat.zero_add, Nat.reduceAdd] at hK ⊢
        refine OpB.mk' ?_
        go_simp
        exact hK.out _ _ rfl (Ext.refl _)
      · refine opF_step ?_
        intro ys l0 h0 w' hr hf K hK
        obtain ⟨f0, -⟩ := hf
        have e0 : ys 0 = _ := f0
        obtain ⟨j0, j1, j2, j3⟩ := HC.out w' ((Ext.refl wr).drew.trans hr)
        simp only [fill, Act.put, dstO, List.take_succ_cons, List.take_zero, List.setIfInBounds_toArray, List.set_cons_zero, List.set_cons_succ, List.getElem?_cons_zero, List.getElem?_cons_succ, Nat.zero_add, Nat.reduceAdd] at hK ⊢
        simp only [e0] at hK ⊢
        clear e0 f0
        refine OpB.mk' ?_
        go_simp
        exact hK.out _ _ rfl (Ext.refl _)
      · refine opF_step ?_
        intro ys l0 h0 w' hr hf K hK
        clear hf
        simp only [fill, Act.put, dstO, List.take_succ_cons, List.take_zero, List.setIfInBounds_toArray, List.set_cons_zero, List.set_cons_succ, List.getElem?_cons_zero, List.getElem?_cons_succ, Nat.zero_add, Nat.reduceAdd] at hK ⊢
        refine OpB.mk' ?_
        go_simp
        exact hK.out _ _ rfl (Ext.refl _)
      · refine opF_step ?_
        intro ys l0 h0 w' hr hf K hK
        clear hf
        simp only [fill, Act.put, dstO, List.take_succ_cons, List.take_zero, List.setIfInBounds_toArray, List.set_cons_zero, List.set_cons_succ, List.getElem?_cons_zero, List.getElem?_cons_succ, Nat.zero_add, Nat.reduceAdd] at hK ⊢
        refine OpB.mk' ?_
        go_simp
        exact hK.out _ _ rfl (Ext.refl _)
      · refine opF_step ?_
        intro ys l0 h0 w' hr hf K hK
        obtain ⟨f0, -⟩ := hf
        have e0 : ys 3 = _ := f0
        obtain ⟨j0, j1, j2, j3⟩ := HC.out w' ((Ext.refl wr).drew.trans hr)
        simp only [fill, Act.put, dstO, List.take_succ_cons, List.take_zero, List.setIfInBounds_toArray, List.set_cons_zero, List.set_cons_succ, List.getElem?_cons_zero, List.getElem?_cons_succ, Nat.zero_add, Nat.reduceAdd] at hK ⊢
        simp only [e0] at hK ⊢
        clear e0 f0
        refine OpB.mk' ?_
        go_simp
        exact hK.out _ _ rfl (Ext.refl _)
      · refine opF_step ?_
        intro ys l0 h0 w' hr hf K hK
        clear hf
        simp only [fill, Act.put, dstO, List.take_succ_cons, List.take_zero, List.setIfInBounds_toArray, List.set_cons_zero, List.set_cons_succ, List.getElem?_cons_zero, List.getElem?_cons_succ, Nat.zero_add, Nat.reduceAdd] at hK ⊢
        refine OpB.mk' ?_
        go_simp
        exact hK.out _ _ rfl (Ext.refl _)
      · refine opF_step ?_
        intro ys l0 h0 w' hr hf K hK
        clear hf
        simp only [fill, Act.put, dstO, List.take_succ_cons, List.take_zero, List.setIfInBounds_toArray, List.set_cons_zero, List.set_cons_succ, List.getElem?_cons_zero, List.getElem?_cons_succ, Nat.zero_add, Nat.reduceAdd] at hK ⊢
        refine OpB.mk' ?_
        go_simp
        exact hK.out _ _ rfl (Ext.refl _)
      · refine opF_step ?_
        intro ys l0 h0 w' hr hf K hK
        obtain ⟨f0, f1, -⟩ := hf
        have e0 : ys 5 = _ := f0
        have e1 : ys 6 = _ := f1
        simp only [fill, Act.put, dstO, List.take_succ_cons, List.take_zero, List.setIfInBounds_toArray, List.set_cons_zero, List.set_cons_succ, List.getElem?_cons_zero, List.getElem?_cons_succ, Nat.zero_add, Nat.reduceAdd] at hK ⊢
        simp only [e0, e1] at hK ⊢
        clear e0 e1 f0 f1
        refine OpB.mk' ?_
        go_simp
        exact hK.out _ _ rfl (Ext.refl _)
      · refine opF_step ?_
        intro ys l0 h0 w' hr hf K hK
        clear hf
        simp only [fill, Act.put, dstO, List.take_succ_cons, List.take_zero, List.setIfInBounds_toArray, List.set_cons_zero, List.set_cons_succ, List.getElem?_cons_zero, List.getElem?_cons_succ, Nat.zero_add, Nat.reduceAdd] at hK ⊢
        refine OpB.mk' ?_
        go_simp
        exact hK.out _ _ rfl (Ext.refl _)
      · refine opF_step ?_
        intro ys l0 h0 w' hr hf K hK
        obtain ⟨f0, -⟩ := hf
        have e0 : ys 8 = _ := f0
        obtain ⟨j0, j1, j2, j3⟩ := HC.out w' ((Ext.refl wr).drew.trans hr)
        simp only [fill, Act.put, dstO, List.take_succ_cons, List.take_zero, List.setIfInBounds_toArray, List.set_cons_zero, List.set_cons_succ, List.getElem?_cons_zero, List.getElem?_cons_succ, Nat.zero_add, Nat.reduceAdd] at hK ⊢
        simp only [e0] at hK ⊢
        clear e0 f0
        refine OpB.mk' ?_
        go_simp
        exact hK.out _ _ rfl (Ext.refl _)
      · refine opF_step ?_
        intro ys l0 h0 w' hr hf K hK
        obtain ⟨f0, -⟩ := hf
        have e0 : ys 9 = _ := f0
        simp only [fill, Act.put, dstO, List.take_succ_cons, List.take_zero, List.setIfInBounds_toArray, List.set_cons_zero, List.set_cons_succ, List.getElem?_cons_zero, List.getElem?_cons_succ, Nat.zero_add, Nat.reduceAdd] at hK ⊢
        simp only [e0] at hK ⊢
        clear e0 f0
        refine OpB.mk' ?_
        go_simp
        exact hK.out _ _ rfl (Ext.refl _)
      · refine opF_step ?_
        intro ys l0 h0 w' hr hf K hK
        obtain ⟨f0, f1, -⟩ := hf
        have e0 : ys 7 = _ := f0
        have e1 : ys 10 = _ := f1
        simp only [fill, Act.put, dstO, List.take_succ_cons, List.take_zero, List.setIfInBounds_toArray, List.set_cons_zero, List.set_cons_succ, List.getElem?_cons_zero, List.getElem?_cons_succ, Nat.zero_add, Nat.reduceAdd] at hK ⊢
        simp only [e0, e1] at hK ⊢
        clear e0 e1 f0 f1
        refine OpB.mk' ?_
        go_simp
        exact hK.out _ _ rfl (Ext.refl _)
      · refine opF_step ?_
        intro ys l0 h0 w' hr hf K hK
        obtain ⟨f0, f1, -⟩ := hf
        have e0 : ys 4 = _ := f0
        have e1 : ys 11 = _ := f1
        simp only [fill, Act.put, dstO, List.take_succ_cons, List.take_zero, List.setIfInBounds_toArray, List.set_cons_zero, List.set_cons_succ, List.getElem?_cons_zero, List.getElem?_cons_succ, Nat.zero_add, Nat.reduceAdd] at hK ⊢
        simp only [e0, e1] at hK ⊢
        clear e0 e1 f0 f1
        refine OpB.mk' ?_
        go_simp
        exact hK.out _ _ rfl (Ext.refl _)
      · refine opF_step ?_
        intro ys l0 h0 w' hr hf K hK
        obtain ⟨f0, -⟩ := hf
        have e0 : ys 12 = _ := f0
        obtain ⟨j0, j1, j2, j3⟩ := HC.out w' ((Ext.refl wr).drew.trans hr)
        simp only [fill, Act.put, dstO, List.take_succ_cons, List.take_zero, List.setIfInBounds_toArray, List.set_cons_zero, List.set_cons_succ, List.getElem?_cons_zero, List.getElem?_cons_succ, Nat.zero_add, Nat.reduceAdd] at hK ⊢
        simp only [e0] at hK ⊢
        clear e0 f0
        refine OpB.mk' ?_
        go_simp
        exact hK.out _ _ rfl (Ext.refl _)
      intro ys l0 h0 w2 hr hf hsp
      obtain ⟨f1, f2, f13, -⟩ := hf
      have e1 : ys 1 = _ := f1
      have e2 : ys 2 = _ := f2
      have e13 : ys 13 = _ := f13
      simp only [fill, Act.put, List.take_succ_cons, List.take_zero, List.setIfInBounds_toArray, List.set_cons_zero, List.set_cons_succ, Nat.zero_add, Nat.reduceAdd, List.drop_succ_cons, List.drop_zero]
      rw [e1, e2, e13]
      clear e1 f1 e2 f2 e13 f13 hsp
      have hlm : k < (mixL M.reads (rotF M nb) k).length := by rw [mixL_len]; exact hlt
      have hO2 := ownsRow_ext HOR.out ((Ext.refl wr).drew.trans hr)
      obtain ⟨u0, u1⟩ := row_cells hO2 hlm
      have v0 : w2.frozen? ⟨g2, k * 2, none⟩ = false := ownsRow_frozen hO2
      have v1 : w2.frozen? ⟨g2, k * 2 + 1, none⟩ = false := ownsRow_frozen hO2
      have HNO := Lib.hid (show ((w2.setCell ⟨g2, k * 2, none⟩ (.int .i64 ra)).setCell ⟨g2, k * 2 + 1, none⟩ (.int .i64 rb)).ownsRow _ _ _ _ _ _ from row_sets (k := k) (x := ra) (y := rb) hO2)
      have HNF := Lib.hid (show Fr (fun j => j = g2) W3 ((w2.setCell ⟨g2, k * 2, none⟩ (.int .i64 ra)).setCell ⟨g2, k * 2 + 1, none⟩ (.int .i64 rb)) from ((HFR.out.trans (((Ext.refl wr).drew.trans hr).fr _)).set rfl).set rfl)
      clear hO2 hr HOR HFR HC
      go_wp2
      go_roundw
      case rel => exact ⟨k + 1, by omega, by simp, HNF.out, by rw [HF.out]; exact HNO.out⟩
      case measure => simp [intOf]; omega
    · obtain rfl : k = M.reads.length := by omega
      obtain ⟨WF, hWF⟩ : ∃ WF, WF = wr := ⟨_, rfl⟩
      rw [← hWF] at hO q0 q1 q7 hEr hg1p ⊢
      have HVO := Lib.hid (show MtV WF (.agg #[.slice (some ⟨g1, 0, none⟩) M.weeks.length c1, .slice (some ⟨g2, 0, none⟩) M.reads.length c2, .int .i64 M.wrong]) (rotM M nb) from ⟨_, _, _, _, by show _ = Value.agg #[.slice _ M.weeks.length _, .slice _ (mixL M.reads (rotF M nb) M.reads.length).length _, .int .i64 M.wrong]; rw [mixL_len], hg1p, row_pairs hO⟩)
      have HEF := Lib.hid hEr
      obtain ⟨hN, e1, e2, e3, e4, e5, e6, e7⟩ := rotM_law HVM.out nb
      have HVN := Lib.hid hN
      have HVMF := Lib.hid (fun y (h : Ext WF y) => HV.out.ext (hEr.trans h))
      have HVNF := Lib.hid (fun y (h : Ext WF y) => HVO.out.ext h)
      have HTF := Lib.hid (fun y (h : Ext WF y) => HT.out.ext (hEr.trans h))
      have HQ0 := Lib.hid q0
      have HQ1 := Lib.hid q1
      have HQ7 := Lib.hid q7
      have a0 := ExtW.cell (v := .slice p M.weeks.length c) (cell_of_heap q0 0)
      have a1 := ExtW.cell (v := .slice qq M.reads.length d) (cell_of_heap q0 1)
      have a2 := ExtW.cell (v := .int .i64 M.wrong) (cell_of_heap q0 2)
      have b0 := ExtW.cell (v := .slice (some ⟨g1, 0, none⟩) M.weeks.length c1) (cell_of_heap q7 0)
      have b1 := ExtW.cell (v := .slice (some ⟨g2, 0, none⟩) M.reads.length c2) (cell_of_heap q7 1)
      have b2 := ExtW.cell (v := .int .i64 M.wrong) (cell_of_heap q7 2)
      have k0 := ExtW.cell (v := .int .i64 x0) (cell_of_heap q1 0)
      have k1 := ExtW.cell (v := .int .i64 x1) (cell_of_heap q1 1)
      have k2 := ExtW.cell (v := .int .i64 x2) (cell_of_heap q1 2)
      have k3 := ExtW.cell (v := .int .i64 x3) (cell_of_heap q1 3)
      have HF1 := Lib.hid (fun x : ExtW WF => ExtW.callX (x := x) (few_valid HVM.out (HVMF.out x.w x.h)))
      have HF2 := Lib.hid (fun x : ExtW WF => ExtW.callX (x := x) (few_valid HVN.out (HVNF.out x.w x.h)))
      rw [← e1] at HF2
      obtain ⟨lw, hlw⟩ : ∃ lw, lw = leastTo M 100 := ⟨_, rfl⟩
      rw [← hlw] at HF1 HF2
      have hsl := sumsA_len M x1 x2
      have HS1 := Lib.hid (fun x : ExtW WF => ExtW.callL (l := sumsA M x1 x2) (n := askV M (areB x1 x2 M.weeks.length)) (x := x) (Sums04 M x1 x2 _ x.w (HVMF.out x.w x.h) (by omega) (by omega) (HTF.out x.w x.h)))
      have HS2 := Lib.hid (fun x : ExtW WF => ExtW.callL (l := sumsA (rotM M nb) x1 x2) (n := askV (rotM M nb) (areB x1 x2 M.weeks.length)) (x := x) (Sums04 (rotM M nb) x1 x2 _ x.w (HVNF.out x.w x.h) (by have := hN.nw; omega) (by have := hN.nr; omega) (HTF.out x.w x.h)))
      rw [← e3, ← e2] at HS2
      obtain ⟨ls, hls⟩ : ∃ l, l = sumsA M x1 x2 := ⟨_, rfl⟩
      obtain ⟨ns, hns⟩ : ∃ n, n = askV M (areB x1 x2 M.weeks.length) := ⟨_, rfl⟩
      rw [← hls, ← hns] at HS1 HS2
      rw [← hls] at hsl
      have HLW := Lib.hid e4
      have hsh := showsA_len M x3
      have HH1 := Lib.hid (fun x : ExtW WF => ExtW.callL (l := showsA M x3) (n := askV M (isAf x3 M.weeks.length)) (x := x) (Shows04 M x3 _ x.w (HVMF.out x.w x.h) (by omega) (by omega)))
      have HH2 := Lib.hid (fun x : ExtW WF => ExtW.callL (l := showsA (rotM M nb) x3) (n := askV (rotM M nb) (isAf x3 M.weeks.length)) (x := x) (Shows04 (rotM M nb) x3 _ x.w (HVNF.out x.w x.h) (by have := hN.nw; omega) (by have := hN.nr; omega)))
      rw [← e4, ← e2] at HH2
      obtain ⟨lh, hlh⟩ : ∃ l, l = showsA M x3 := ⟨_, rfl⟩
      obtain ⟨nh, hnh⟩ : ∃ n, n = askV M (isAf x3 M.weeks.length) := ⟨_, rfl⟩
      rw [← hlh, ← hnh] at HH1 HH2
      rw [← hlh] at hsh
      obtain ⟨nt, hnt⟩ : ∃ n, n = askV M true := ⟨_, rfl⟩
      have HR1 := Lib.hid (fun y (h : Ext WF y) => Rounds04 M _ y (HVMF.out y h) (by omega) (by omega) (HTF.out y h))
      have HR2 := Lib.hid (fun y (h : Ext WF y) => Rounds04 (rotM M nb) _ y (HVNF.out y h) (by have := hN.nw; omega) (by have := hN.nr; omega) (HTF.out y h))
      rw [e5, e6, ← e2] at HR2
      obtain ⟨rlo, hrlo⟩ : ∃ r, r = roundLo M := ⟨_, rfl⟩
      obtain ⟨rhi, hrhi⟩ : ∃ r, r = roundHi M := ⟨_, rfl⟩
      rw [← hrlo, ← hrhi, ← hnt] at HR1 HR2
      have HX1 := Lib.hid (fun y (h : Ext WF y) => (show Calls Tryd.prog 24 #[_] y (RetE (.tuple #[.int .i64 (nextA M), .int .i64 (askV M true)]) y) from Next04 totalsSay M _ y (HVMF.out y h) (by omega) (by omega) (HTF.out y h)))
      have HX2 := Lib.hid (fun y (h : Ext WF y) => (show Calls Tryd.prog 24 #[_] y (RetE (.tuple #[.int .i64 (nextA (rotM M nb)), .int .i64 (askV (rotM M nb) true)]) y) from Next04 totalsSay (rotM M nb) _ y (HVNF.out y h) (by have := hN.nw; omega) (by have := hN.nr; omega) (HTF.out y h)))
      rw [← e7, ← e2] at HX2
      obtain ⟨nx, hnx⟩ : ∃ r, r = nextA M := ⟨_, rfl⟩
      rw [← hnx, ← hnt] at HX1 HX2
      obtain ⟨y0, hy0⟩ := ExtW.of (Ext.refl WF)
      clear hF hO q0 q1 q7 hEr hg1p hWF hN e1 e2 e3 e4 e5 e6 e7 hlw hls hns hlh hnh hnt hrlo hrhi hnx
      conv => arg 5; rw [hy0]
      clear hy0
      go_upto_region 9 with (go_at_call 28; refine (HF1.out _).mono ?_; rintro e w2 ⟨rfl, y1, rfl, -⟩)
      go_upto_region 10 with (go_at_call 28; refine (HF2.out _).mono ?_; rintro e w2 ⟨rfl, y2, rfl, -⟩)
      go_upto_region 11 with (go_at_call 17; refine (HS1.out _).mono ?_; rintro e w2 ⟨pl, cl, rfl, y3, rfl, -, hI3, -⟩)
      have HI3 := Lib.hid hI3
      clear hI3
      go_upto_region 12 with (go_at_call 17; refine (HS2.out _).mono ?_; rintro e w2 ⟨ql, dl, rfl, y4, rfl, hA4, hI4, -⟩)
      have HSI := Lib.hid (sameX (x := y4) (c := cl) (d := dl) (by omega) (HI3.out.ext hA4) hI4)
      clear hA4 hI4
      go_upto_region 14 with (go_at_call 19; refine HSI.out.mono ?_; rintro e w2 ⟨rfl, y5, rfl, -⟩)
      go_upto_region 15 with (go_at_call 29; refine (HH1.out _).mono ?_; rintro e w2 ⟨ph, ch, rfl, y6, rfl, -, hI6, -⟩)
      have HI6 := Lib.hid hI6
      clear hI6
      go_upto_region 16 with (go_at_call 29; refine (HH2.out _).mono ?_; rintro e w2 ⟨qh, dh, rfl, y7, rfl, hA7, hI7, -⟩)
      have HI6 := Lib.hid (HI6.out.ext hA7)
      have HI7 := Lib.hid hI7
      clear hA7 hI7
      have HRA := Lib.hid (HR1.out y7.w y7.h)
      go_upto_region 17 with (go_at_call 30; refine HRA.out.mono ?_; rintro e w2 ⟨rfl, hE8⟩)
      obtain ⟨s17, hs17⟩ : ∃ s17, s17 = w2.heap.size := ⟨_, rfl⟩
      obtain ⟨WG, hWG⟩ : ∃ WG, WG = w2.alloc (.cells #[.int .i64 rlo, .int .i64 rhi] 39) := ⟨_, rfl⟩
      have hEG : Ext y7.w WG := by rw [hWG]; exact hE8.alloc _
      have m17 : WG.heap[s17]? = some (.cells #[.int .i64 rlo, .int .i64 rhi] 39) := by rw [hWG, hs17]; exact heap_new _ _
      rw [← hs17, ← hWG]
      have HEG := Lib.hid (y7.h.trans hEG)
      have HI6 := Lib.hid (HI6.out.ext hEG)
      have HI7 := Lib.hid (HI7.out.ext hEG)
      have HM17 := Lib.hid m17
      have q0 := heap_ext3 HQ0.out HEG.out
      have q7 := heap_ext3 HQ7.out HEG.out
      have q1 := heap_ext3 HQ1.out HEG.out
      have a0 := ExtW.cell (v := .slice p M.weeks.length c) (cell_of_heap q0 0)
      have a1 := ExtW.cell (v := .slice qq M.reads.length d) (cell_of_heap q0 1)
      have a2 := ExtW.cell (v := .int .i64 M.wrong) (cell_of_heap q0 2)
      have b0 := ExtW.cell (v := .slice (some ⟨g1, 0, none⟩) M.weeks.length c1) (cell_of_heap q7 0)
      have b1 := ExtW.cell (v := .slice (some ⟨g2, 0, none⟩) M.reads.length c2) (cell_of_heap q7 1)
      have b2 := ExtW.cell (v := .int .i64 M.wrong) (cell_of_heap q7 2)
      have k0 := ExtW.cell (v := .int .i64 x0) (cell_of_heap q1 0)
      have k1 := ExtW.cell (v := .int .i64 x1) (cell_of_heap q1 1)
      have k2 := ExtW.cell (v := .int .i64 x2) (cell_of_heap q1 2)
      have k3 := ExtW.cell (v := .int .i64 x3) (cell_of_heap q1 3)
      have HRB := Lib.hid (HR2.out WG HEG.out)
      clear hE8 hs17 hWG hEG m17 q0 q7 q1
      obtain ⟨y8, hy8⟩ := ExtW.of (Ext.refl WG)
      have HRB : Hid (Calls Tryd.prog 30 #[.agg #[.slice (some ⟨g1, 0, none⟩) M.weeks.length c1, .slice (some ⟨g2, 0, none⟩) M.reads.length c2, .int .i64 M.wrong]] y8.w (RetSp rlo rhi nt y8.w)) := hy8 ▸ HRB
      conv => arg 5; rw [hy8]
      clear hy8
      go_upto_region 18 with (go_at_call 30; refine HRB.out.mono ?_; rintro e w2 ⟨rfl, hE8⟩)
      obtain ⟨s19, hs19⟩ : ∃ s19, s19 = w2.heap.size := ⟨_, rfl⟩
      obtain ⟨WH, hWH⟩ : ∃ WH, WH = w2.alloc (.cells #[.int .i64 rlo, .int .i64 rhi] 39) := ⟨_, rfl⟩
      have hEH : Ext WG WH := by rw [hWH]; exact (y8.h.trans hE8).alloc _
      have m19 : WH.heap[s19]? = some (.cells #[.int .i64 rlo, .int .i64 rhi] 39) := by rw [hWH, hs19]; exact heap_new _ _
      rw [← hs19, ← hWH]
      have HEH := Lib.hid (HEG.out.trans hEH)
      have HI6 := Lib.hid (HI6.out.ext hEH)
      have HI7 := Lib.hid (HI7.out.ext hEH)
      have m17 := heap_ext3 HM17.out hEH
      have q0 := heap_ext3 HQ0.out HEH.out
      have q7 := heap_ext3 HQ7.out HEH.out
      have q1 := heap_ext3 HQ1.out HEH.out
      have a0 := ExtW.cell (v := .slice p M.weeks.length c) (cell_of_heap q0 0)
      have a1 := ExtW.cell (v := .slice qq M.reads.length d) (cell_of_heap q0 1)
      have a2 := ExtW.cell (v := .int .i64 M.wrong) (cell_of_heap q0 2)
      have b0 := ExtW.cell (v := .slice (some ⟨g1, 0, none⟩) M.weeks.length c1) (cell_of_heap q7 0)
      have b1 := ExtW.cell (v := .slice (some ⟨g2, 0, none⟩) M.reads.length c2) (cell_of_heap q7 1)
      have b2 := ExtW.cell (v := .int .i64 M.wrong) (cell_of_heap q7 2)
      have k0 := ExtW.cell (v := .int .i64 x0) (cell_of_heap q1 0)
      have k1 := ExtW.cell (v := .int .i64 x1) (cell_of_heap q1 1)
      have k2 := ExtW.cell (v := .int .i64 x2) (cell_of_heap q1 2)
      have k3 := ExtW.cell (v := .int .i64 x3) (cell_of_heap q1 3)
      have d0 := ExtW.cell (v := .int .i64 rlo) (cell_of_heap m17 0)
      have d1 := ExtW.cell (v := .int .i64 rhi) (cell_of_heap m17 1)
      have f0 := ExtW.cell (v := .int .i64 rlo) (cell_of_heap m19 0)
      have f1 := ExtW.cell (v := .int .i64 rhi) (cell_of_heap m19 1)
      have HX1 := Lib.hid (fun x : ExtW WH => ExtW.callX (x := x) (HX1.out x.w (HEH.out.trans x.h)))
      have HX2 := Lib.hid (fun x : ExtW WH => ExtW.callX (x := x) (HX2.out x.w (HEH.out.trans x.h)))
      clear hE8 hs19 hWH hEH m17 m19 q0 q7 q1
      obtain ⟨z0, hz0⟩ := ExtW.of (Ext.refl WH)
      conv => arg 5; rw [hz0]
      clear hz0
      go_upto_region 19 with (go_at_call 24; refine (HX1.out _).mono ?_; rintro e w2 ⟨rfl, z1, rfl, -⟩)
      go_upto_region 20 with (go_at_call 24; refine (HX2.out _).mono ?_; rintro e w2 ⟨rfl, z2, rfl, -⟩)
      have HSJ := Lib.hid (sameX (x := z2) (c := ch) (d := dh) (by omega) (HI6.out.ext z2.h) (HI7.out.ext z2.h))
      have HWZ := Lib.hid (fun x : ExtW WH => ExtW.callX (x := x) (works04 x.w (HTF.out x.w (HEH.out.trans x.h))))
      go_wp2_with (first
        | (go_at_call 19; refine HSJ.out.mono ?_; rintro e w2 ⟨rfl, z3, rfl, -⟩)
        | (go_at_call 16; refine (HWZ.out _).mono ?_; rintro e w2 ⟨rfl, z4, rfl, -⟩))
      go_ret
      exact RetE.fin ((HEF.out.trans HEH.out).trans z4.h) rfl
end Go.Proofs.YtimelbcfaniifaaDoor
