
/- Charts: the walks of titles, Top and May. -/
import Derived.Test.YtaoamnhchidjfaaDoorC7e
namespace Go.Proofs.YtaoamnhchidjfaaDoor
open Go.RowKit

noncomputable def topA (C : Ch) (n : Int) : List Int := okL (errF C n) (topL (tabC C) n)
noncomputable def mayA (C : Ch) (n : Int) : List Int := okL (errF C n) (mayL (tabC C) n)

set_option maxRecDepth 20000 in
theorem topFn06 (lo hi f : Int) (b : Nat) (w : World) (hc : w.cell? ⟨b, 0, none⟩ = some (.int .i64 f)) :
    Calls Tryd.prog 31 #[.agg #[.int .i64 lo, .int .i64 hi], .pointer (some ⟨b, 0, none⟩)] w (RetE (.bool (decide (hi ≤ f))) w) := by
  go_enter Tryd.func31, Tryd.ntmps31
  go_upto_region 1 with (fail)
  obtain ⟨s0, hs0⟩ : ∃ s0, s0 = w.heap.size := ⟨_, rfl⟩
  obtain ⟨W, hW⟩ : ∃ W, W = w.alloc (.cells #[.int .i64 lo, .int .i64 hi] 32) := ⟨_, rfl⟩
  have m0 : W.heap[s0]? = some (.cells #[.int .i64 lo, .int .i64 hi] 32) := by rw [hs0, hW]; exact heap_new _ _
  have hE : Ext w W := by rw [hW]; exact Ext.alloc (Ext.refl _) _
  rw [← hs0, ← hW]
  have d0 := cell_of_heap m0 0
  have d1 := cell_of_heap m0 1
  have e0 := hE.cell hc
  have HE := Lib.hid hE
  clear hW m0 hE hs0 hc
  by_cases h : hi ≤ f
  · have HB := Lib.hid (decide_eq_true h)
    go_wp2
    go_ret
    exact RetE.fin HE.out (by rw [HB.out]; rfl)
  · have HB := Lib.hid (decide_eq_false h)
    go_wp2
    go_ret
    exact RetE.fin HE.out (by rw [HB.out]; rfl)

set_option maxRecDepth 20000 in
set_option maxHeartbeats 3200000 in
theorem titlesTop06 (C : Ch) (n : Int) (bf : Nat) (v : Value) (w : World) (hv : ChV w v C) (hs : ChSm C) (hT : TabW w) (hwf : (Lit.int .i64 n).wf = true) (hbf : w.cell? ⟨bf, 0, none⟩ = some (.int .i64 n)) :
    Calls Tryd.prog 30 #[v, .int .i64 n, .func (.func 31) #[] #[.pointer (some ⟨bf, 0, none⟩)]] w (RetL (topA C n) (errF C n) w) := by
  have HBF := Lib.hid hbf
  clear hbf
  have HV := Lib.hid hv
  have HS := Lib.hid hs
  have HT := Lib.hid hT
  obtain ⟨p, c, q, d, rfl, hp, hq⟩ := hv
  clear hp hq hT hs
  go_enter Tryd.func30, Tryd.ntmps30
  go_upto_region 1 with (fail)
  obtain ⟨s0, hs0⟩ : ∃ s0, s0 = w.heap.size := ⟨_, rfl⟩
  obtain ⟨W, hW⟩ : ∃ W, W = w.alloc (.cells #[.slice p C.meters.length c, .slice q C.extra.length d, .int .i64 C.frm, .int .i64 C.tto] 25) := ⟨_, rfl⟩
  have m0 : W.heap[s0]? = some (.cells #[.slice p C.meters.length c, .slice q C.extra.length d, .int .i64 C.frm, .int .i64 C.tto] 25) := by rw [hs0, hW]; exact heap_new _ _
  have hE : Ext w W := by rw [hW]; exact Ext.alloc (Ext.refl _) _
  rw [← hs0, ← hW]
  have HKC := Lib.hid (fun y (h : Ext W y) => (⟨h.cell (cell_of_heap m0 0), h.cell (cell_of_heap m0 1), h.cell (cell_of_heap m0 2), h.cell (cell_of_heap m0 3)⟩ :
    y.cell? ⟨s0, 0, none⟩ = some (.slice p C.meters.length c) ∧ y.cell? ⟨s0, 1, none⟩ = some (.slice q C.extra.length d) ∧ y.cell? ⟨s0, 2, none⟩ = some (.int .i64 C.frm) ∧ y.cell? ⟨s0, 3, none⟩ = some (.int .i64 C.tto)))
  have HE := Lib.hid hE
  have HVW := Lib.hid (fun y (h : Ext W y) => HV.out.ext (HE.out.trans h))
  obtain ⟨b, hb⟩ : ∃ b, b = isFB C n := ⟨_, rfl⟩
  have HIS := Lib.hid (fun y (h : Ext W y) => (show Calls Tryd.prog 34 #[.agg #[.slice p C.meters.length c, .slice q C.extra.length d, .int .i64 C.frm, .int .i64 C.tto], .int .i64 n] y (RetE (.bool b) y) from by rw [hb]; exact isFirst06 C n _ y (HVW.out y h) hwf (by have := HS.out.nm; omega)))
  have HB := Lib.hid hb
  clear hb hwf
  clear hW m0 hE hs0
  obtain ⟨T, hTT⟩ : ∃ T, T = askT C b := ⟨_, rfl⟩
  obtain ⟨z, hz⟩ : ∃ z, z = errC C b := ⟨_, rfl⟩
  have HAK := Lib.hid (fun y (h : Ext W y) => (show Calls Tryd.prog 27 #[.agg #[.slice p C.meters.length c, .slice q C.extra.length d, .int .i64 C.frm, .int .i64 C.tto], .bool b] y (RetTb T z y) from by rw [hTT, hz]; exact ask06 C b _ y (HV.out.ext (HE.out.trans h)) HS.out (HT.out.ext (HE.out.trans h))))
  have HTZ := Lib.hid (⟨hTT, hz⟩ : T = askT C b ∧ z = errC C b)
  clear hTT hz
  refine wp_region_facts 9 [[], [], [], [1, 2], [0, 3], [4], [5], [5], [6]] [8, 7] Ext (FL [Is (.agg #[.slice p C.meters.length c, .slice q C.extra.length d, .int .i64 C.frm, .int .i64 C.tto]), Is (.agg #[.slice p C.meters.length c, .slice q C.extra.length d, .int .i64 C.frm, .int .i64 C.tto]), Is (.int .i64 n), Is (.bool b), TabF T z W.heap.size, TabF T z W.heap.size, RowF T W.heap.size, Is (.int .i64 z), RowF T W.heap.size]) (by kernel_rfl) (by kernel_rfl) Ext.refl (fun _ _ _ => Ext.trans) (fun _ _ => Ext.size) (FL.mono ⟨Is.mono, Is.mono, Is.mono, Is.mono, TabF.mono, TabF.mono, RowF.mono, Is.mono, RowF.mono, trivial⟩) ⟨?_, ?_, ?_, ?_, ?_, ?_, ?_, ?_, ?_, trivial⟩ ?_
  · refine opF_step ?_
    intro ys l0 h0 w' hr hf K hK
    clear hf
    obtain ⟨j0, j1, j2, j3⟩ := HKC.out w' ((Ext.refl W).drew.trans hr)
    simp only [fill, Act.put, dstO, List.take_succ_cons, List.take_zero, List.setIfInBounds_toArray, List.set_cons_zero, List.set_cons_succ, List.getElem?_cons_zero, Nat.zero_add, Nat.reduceAdd] at hK ⊢
    refine OpB.mk' ?_
    go_simp
    exact hK.out _ _ rfl (Ext.refl _)
  · refine opF_step ?_
    intro ys l0 h0 w' hr hf K hK
    clear hf
    obtain ⟨j0, j1, j2, j3⟩ := HKC.out w' ((Ext.refl W).drew.trans hr)
    simp only [fill, Act.put, dstO, List.take_succ_cons, List.take_zero, List.setIfInBounds_toArray, List.set_cons_zero, List.set_cons_succ, List.getElem?_cons_zero, List.getElem?_cons_succ, Nat.zero_add, Nat.reduceAdd] at hK ⊢
    refine OpB.mk' ?_
    go_simp
    exact hK.out _ _ rfl (Ext.refl _)
  · refine opF_step ?_
    intro ys l0 h0 w' hr hf K hK
    clear hf
    simp only [fill, Act.put, dstO, List.take_succ_cons, List.take_zero, List.setIfInBounds_toArray, List.set_cons_zero, List.set_cons_succ, List.getElem?_cons_zero, List.getElem?_cons_succ, Nat.zero_add, Nat.reduceAdd] at hK ⊢
    refine OpB.mk' ?_
    go_simp
    exact hK.out _ _ rfl (Ext.refl _)
  · refine opF_step ?_
    intro ys l0 h0 w' hr hf K hK
    obtain ⟨f0, f1, -⟩ := hf
    have e0 : ys 1 = _ := f0
    have e1 : ys 2 = _ := f1
    simp only [fill, Act.put, dstO, List.take_succ_cons, List.take_zero, List.setIfInBounds_toArray, List.set_cons_zero, List.set_cons_succ, List.getElem?_cons_zero, List.getElem?_cons_succ, Nat.zero_add, Nat.reduceAdd] at hK ⊢
    simp only [e0, e1] at hK ⊢
    clear e0 e1 f0 f1
    refine OpB.mk' ?_
    go_simp
    refine (HIS.out w' ((Ext.refl W).drew.trans hr)).mono ?_
    rintro e w2 ⟨rfl, hE2⟩
    exact hK.out _ _ rfl hE2
  · refine opF_step ?_
    intro ys l0 h0 w' hr hf K hK
    obtain ⟨f0, f1, -⟩ := hf
    have e0 : ys 0 = _ := f0
    have e1 : ys 3 = _ := f1
    simp only [fill, Act.put, dstO, List.take_succ_cons, List.take_zero, List.setIfInBounds_toArray, List.set_cons_zero, List.set_cons_succ, List.getElem?_cons_zero, List.getElem?_cons_succ, Nat.zero_add, Nat.reduceAdd] at hK ⊢
    simp only [e0, e1] at hK ⊢
    clear e0 e1 f0 f1
    refine OpB.mk' ?_
    go_simp
    refine (HAK.out w' ((Ext.refl W).drew.trans hr)).mono ?_
    rintro e w2 ⟨u, vs, rfl, hR, hE2, hcp⟩
    exact hK.out _ _ ⟨u, vs, rfl, hR.base (Ext.size ((Ext.refl W).drew.trans hr)), hcp⟩ hE2
  · refine opF_step ?_
    intro ys l0 h0 w' hr hf K hK
    obtain ⟨f0, -⟩ := hf
    obtain ⟨u, vs, e0, hR, hcp⟩ := f0
    simp only [fill, Act.put, dstO, List.take_succ_cons, List.take_zero, List.setIfInBounds_toArray, List.set_cons_zero, List.set_cons_succ, List.getElem?_cons_zero, List.getElem?_cons_succ, Nat.zero_add, Nat.reduceAdd] at hK ⊢
    simp only [e0] at hK ⊢
    clear e0
    refine OpB.mk' ?_
    go_simp
    exact hK.out _ _ ⟨u, vs, rfl, hR, hcp⟩ (Ext.refl _)
  · refine opF_step ?_
    intro ys l0 h0 w' hr hf K hK
    obtain ⟨f0, -⟩ := hf
    obtain ⟨u, vs, e0, hR, hcp⟩ := f0
    simp only [fill, Act.put, dstO, List.take_succ_cons, List.take_zero, List.setIfInBounds_toArray, List.set_cons_zero, List.set_cons_succ, List.getElem?_cons_zero, List.getElem?_cons_succ, Nat.zero_add, Nat.reduceAdd] at hK ⊢
    simp only [e0] at hK ⊢
    clear e0
    refine OpB.mk' ?_
    go_simp
    exact hK.out _ _ ⟨vs, hR, hcp⟩ (Ext.refl _)
  · refine opF_step ?_
    intro ys l0 h0 w' hr hf K hK
    obtain ⟨f0, -⟩ := hf
    obtain ⟨u, vs, e0, hR, hcp⟩ := f0
    simp only [fill, Act.put, dstO, List.take_succ_cons, List.take_zero, List.setIfInBounds_toArray, List.set_cons_zero, List.set_cons_succ, List.getElem?_cons_zero, List.getElem?_cons_succ, Nat.zero_add, Nat.reduceAdd] at hK ⊢
    simp only [e0] at hK ⊢
    clear e0
    refine OpB.mk' ?_
    go_simp
    exact hK.out _ _ rfl (Ext.refl _)
  · refine opF_step ?_
    intro ys l0 h0 w' hr hf K hK
    obtain ⟨f0, -⟩ := hf
    simp only [fill, Act.put, dstO, List.take_succ_cons, List.take_zero, List.setIfInBounds_toArray, List.set_cons_zero, List.set_cons_succ, List.getElem?_cons_zero, List.getElem?_cons_succ, Nat.zero_add, Nat.reduceAdd] at hK ⊢
    refine OpB.mk' ?_
    go_simp
    exact hK.out _ _ f0 (Ext.refl _)
  intro ys l0 h0 w2 hr hf hsp
  obtain ⟨f8, f7, -⟩ := hf
  obtain ⟨vs, hR, hcp⟩ := f8
  have e7 : ys 7 = _ := f7
  simp only [fill, Act.put, List.take_succ_cons, List.take_zero, List.setIfInBounds_toArray, List.set_cons_zero, List.set_cons_succ, Nat.zero_add, Nat.reduceAdd, List.drop_succ_cons, List.drop_zero]
  rw [e7]
  clear e7 f7
  generalize ys 8 = u at hR ⊢
  clear hsp
  have hEW : Ext W w2 := (Ext.refl W).drew.trans hr
  have HR := Lib.hid hR
  have HCP := Lib.hid hcp
  have HEW := Lib.hid hEW
  obtain ⟨qt, ct, rfl, hLT⟩ := hR.lists
  have HLT := Lib.hid hLT
  clear hr hEW hR hcp hLT HAK
  by_cases hz0 : z = 0
  case neg =>
    have hg : (z == 0) = false := by simpa using hz0
    have HZ := Lib.hid (show errF C n = z from by unfold errF; rw [← HB.out, HTZ.out.2])
    have HNA := Lib.hid (show topA C n = [] from by unfold topA; rw [HZ.out]; exact if_neg hz0)
    clear hz0
    go_wp2
    go_ret2
    exact ⟨_, by rw [HZ.out]; rfl, by rw [HNA.out]; exact World.ownsRow_nil _ _ _ _, HE.out.trans HEW.out⟩
  subst hz0
  obtain ⟨hC, hbt, hso⟩ := errC_0 HTZ.out.2.symm
  have hTC : T = tabC C := by rw [HTZ.out.1, askT_0 HTZ.out.2.symm]
  have hG : TabG T := by rw [hTC]; exact tabC_ok hC hso
  have hn6 := hG.len
  have HZ := Lib.hid (show errF C n = 0 from by unfold errF; rw [← HB.out, ← HTZ.out.2])
  have HNA := Lib.hid (show topA C n = pickTo (topF T n) T.length from by unfold topA; rw [HZ.out, hTC]; exact if_pos rfl)
  have HRK := Lib.hid (fun j (hj : j < T.length) y (h : Ext w2 y) => rank06 T hG.ok j hj hG.ls (by omega) qt ct y (HLT.out.ext h))
  have HFN := Lib.hid (fun lo hi y (h : Ext w2 y) => topFn06 lo hi n bf y (((HE.out.trans HEW.out).trans h).cell HBF.out))
  obtain ⟨i0, hi, hz0, hz1, hz2⟩ := info_parts info_a
  clear hC hbt hso hTC hG
  go_wp2
  go_loopw [10, 25] (fun u i wr => ∃ j : Nat, j ≤ T.length ∧ i = .int .i64 j ∧ Ext w2 wr ∧ wr.ownsRow w2.heap.size 3 1 u (pickTo (topF T n) j).length (intVs (pickTo (topF T n) j))) (fun _ i _ => T.length - (intOf i).toNat)
  case atStart => exact ⟨0, Nat.zero_le _, rfl, Ext.refl _, World.ownsRow_nil _ _ _ _⟩
  case round =>
    obtain ⟨j, hj, rfl, hE2, hO⟩ := hrel
    have HE2 := Lib.hid hE2
    have HO := Lib.hid hO
    clear hE2 hO
    by_cases hlt : j < T.length
    · have hlt' : (j : Int) < (T.length : Int) := by omega
      have HRJ := Lib.hid (HRK.out j hlt wr HE2.out)
      unfold rkV at HRJ
      have HPS := Lib.hid (pickTo_succ (topF T n) j)
      have hpl := pickTo_len (topF T n) j
      have hfv : topF T n j = decide (((rkHi T j : Nat) : Int) ≤ n) := rfl
      obtain ⟨x1, hx1⟩ : ∃ x : Nat, x = rkLo T j := ⟨_, rfl⟩
      obtain ⟨x2, hx2⟩ : ∃ x : Nat, x = rkHi T j := ⟨_, rfl⟩
      rw [← hx1, ← hx2] at HRJ
      rw [← hx2] at hfv
      obtain ⟨L, hL⟩ : ∃ L, L = pickTo (topF T n) j := ⟨_, rfl⟩
      rw [← hL] at HO HPS hpl
      have HFJ := Lib.hid (fun y (h : Ext w2 y) => HFN.out x1 x2 y h)
      have HFV := Lib.hid hfv
      clear hfv hx1 hx2 hL
      by_cases hb : ((x2 : Nat) : Int) ≤ n
      · rw [decide_eq_true hb] at HFV HFJ
        have HPN := Lib.hid (show pickTo (topF T n) (j + 1) = L ++ [(j : Int)] from by rw [HPS.out, HFV.out]; rfl)
        go_wp2_with (first
          | (go_at_call 29; refine HRJ.out.mono ?_; rintro e w3 ⟨rfl, hE3⟩)
          | (go_at_call 31; refine (HFJ.out _ (HE2.out.trans hE3)).mono ?_; rintro e w4 ⟨rfl, hE4⟩)
          | (at_builtin; refine wpList_append_lies _ rfl (.tmp 33) (.tmp 35) 23 rfl w2.heap.size 3 i0 (.int .i64 0) 1 8 Tryd.underlying23 hi hz0 hz1 hz2 rfl (by decide) _ L.length _ rfl (ownsRow_ext HO.out ((hE3.trans hE4).alloc _)) ⟨w4.heap.size, 0, none⟩ 1 1 [.int .i64 j] rfl rfl (hnewsE (Ext.refl _) rfl) (one_int _) (by decide) ?c3 ?c4 ?c5 (w4.heap.size + 1) (size_alloc _ _) ?_))
        case c3 => unfold maxLen; omega
        case c4 => omega
        case c5 => have := HE2.out.size; have := (hE3.trans hE4).size; first | omega | (rw [size_alloc]; omega)
        intro g4 cap4 w5 hown4 hgr4 hat4 hlt4
        have hE5 : Ext w2 w5 := Below.grown (HE2.out.trans ((hE3.trans hE4).alloc _)) hgr4 (HE2.out.trans ((hE3.trans hE4).alloc _)).size (fun i hi => (HO.out.lt i hi).1)
        have HO5 := Lib.hid hown4
        have HE5 := Lib.hid hE5
        clear hown4 hgr4 hat4 hlt4 hE5 hE3 hE4
        go_wp2
        go_roundw
        case rel => exact ⟨j + 1, by omega, by simp, HE5.out, by rw [HPN.out, intVs_snoc, List.length_append]; exact HO5.out⟩
        case measure => simp [intOf]; omega
      · rw [decide_eq_false hb] at HFV HFJ
        have HPN := Lib.hid (show pickTo (topF T n) (j + 1) = L from by rw [HPS.out, HFV.out]; exact List.append_nil _)
        go_wp2_with (first
          | (go_at_call 29; refine HRJ.out.mono ?_; rintro e w3 ⟨rfl, hE3⟩)
          | (go_at_call 31; refine (HFJ.out _ (HE2.out.trans hE3)).mono ?_; rintro e w4 ⟨rfl, hE4⟩))
        go_roundw
        case rel => exact ⟨j + 1, by omega, by simp, HE2.out.trans (hE3.trans hE4), by rw [HPN.out]; exact ownsRow_ext HO.out (hE3.trans hE4)⟩
        case measure => simp [intOf]; omega
    · obtain rfl : j = T.length := by omega
      have hge : ¬(T.length : Int) < (T.length : Int) := by omega
      rw [← HNA.out] at HO
      go_wp2
      go_ret2
      exact ⟨_, by rw [HZ.out]; rfl, ownsRow_base HO.out (HE.out.trans HEW.out).size, HE.out.trans (HEW.out.trans HE2.out)⟩

set_option maxRecDepth 20000 in
set_option maxHeartbeats 1600000 in
theorem Top06 (C : Ch) (n : Int) (v : Value) (w : World) (hv : ChV w v C) (hs : ChSm C) (hT : TabW w) (hwf : (Lit.int .i64 n).wf = true) :
    Calls Tryd.prog 11 #[v, .int .i64 n] w (RetL (topA C n) (errF C n) w) := by
  have HV := Lib.hid hv
  have HS := Lib.hid hs
  have HT := Lib.hid hT
  have HWF := Lib.hid hwf
  obtain ⟨p, c, q, d, rfl, hp, hq⟩ := hv
  clear hp hq hT hs hwf
  go_enter Tryd.func11, Tryd.ntmps11
  go_upto_region 1 with (fail)
  obtain ⟨s0, hs0⟩ : ∃ s0, s0 = w.heap.size := ⟨_, rfl⟩
  obtain ⟨W, hW⟩ : ∃ W, W = (w.alloc (.cells #[.slice p C.meters.length c, .slice q C.extra.length d, .int .i64 C.frm, .int .i64 C.tto] 25)).alloc (.cells #[.int .i64 n] 3) := ⟨_, rfl⟩
  have m0 : W.heap[s0]? = some (.cells #[.slice p C.meters.length c, .slice q C.extra.length d, .int .i64 C.frm, .int .i64 C.tto] 25) := by rw [hs0, hW, Below.heap_alloc _ _ _ (by rw [size_alloc]; omega)]; exact heap_new _ _
  have m1 : W.heap[s0 + 1]? = some (.cells #[.int .i64 n] 3) := by rw [hs0, hW]; exact heap_new2 _ _ _
  have hE : Ext w W := by rw [hW]; exact Ext.alloc (Ext.alloc (Ext.refl _) _) _
  rw [← hs0, ← hW]
  have HTI := Lib.hid (titlesTop06 C n (s0 + 1) _ W (HV.out.ext hE) HS.out (HT.out.ext hE) HWF.out (cell_of_heap m1 0))
  have d0 := cell_of_heap m0 0
  have d1 := cell_of_heap m0 1
  have d2 := cell_of_heap m0 2
  have d3 := cell_of_heap m0 3
  have e0 := cell_of_heap m1 0
  have HE := Lib.hid hE
  clear hW m0 m1 hE hs0
  go_wp2_with (go_at_call 30; refine HTI.out.mono ?_; rintro e w2 ⟨u, rfl, hO, hE2⟩)
  go_ret2
  exact ⟨_, rfl, ownsRow_base hO HE.out.size, HE.out.trans hE2⟩

set_option maxRecDepth 20000 in
theorem mayFn06 (lo hi f : Int) (b : Nat) (w : World) (hc : w.cell? ⟨b, 0, none⟩ = some (.int .i64 f)) :
    Calls Tryd.prog 32 #[.agg #[.int .i64 lo, .int .i64 hi], .pointer (some ⟨b, 0, none⟩)] w (RetE (.bool (decide (lo ≤ f))) w) := by
  go_enter Tryd.func32, Tryd.ntmps32
  go_upto_region 1 with (fail)
  obtain ⟨s0, hs0⟩ : ∃ s0, s0 = w.heap.size := ⟨_, rfl⟩
  obtain ⟨W, hW⟩ : ∃ W, W = w.alloc (.cells #[.int .i64 lo, .int .i64 hi] 32) := ⟨_, rfl⟩
  have m0 : W.heap[s0]? = some (.cells #[.int .i64 lo, .int .i64 hi] 32) := by rw [hs0, hW]; exact heap_new _ _
  have hE : Ext w W := by rw [hW]; exact Ext.alloc (Ext.refl _) _
  rw [← hs0, ← hW]
  have d0 := cell_of_heap m0 0
  have d1 := cell_of_heap m0 1
  have e0 := hE.cell hc
  have HE := Lib.hid hE
  clear hW m0 hE hs0 hc
  by_cases h : lo ≤ f
  · have HB := Lib.hid (decide_eq_true h)
    go_wp2
    go_ret
    exact RetE.fin HE.out (by rw [HB.out]; rfl)
  · have HB := Lib.hid (decide_eq_false h)
    go_wp2
    go_ret
    exact RetE.fin HE.out (by rw [HB.out]; rfl)

set_option maxRecDepth 20000 in
set_option maxHeartbeats 3200000 in
theorem titlesMay06 (C : Ch) (n : Int) (bf : Nat) (v : Value) (w : World) (hv : ChV w v C) (hs : ChSm C) (hT : TabW w) (hwf : (Lit.int .i64 n).wf = true) (hbf : w.cell? ⟨bf, 0, none⟩ = some (.int .i64 n)) :
    Calls Tryd.prog 30 #[v, .int .i64 n, .func (.func 32) #[] #[.pointer (some ⟨bf, 0, none⟩)]] w (RetL (mayA C n) (errF C n) w) := by
  have HBF := Lib.hid hbf
  clear hbf
  have HV := Lib.hid hv
  have HS := Lib.hid hs
  have HT := Lib.hid hT
  obtain ⟨p, c, q, d, rfl, hp, hq⟩ := hv
  clear hp hq hT hs
  go_enter Tryd.func30, Tryd.ntmps30
  go_upto_region 1 with (fail)
  obtain ⟨s0, hs0⟩ : ∃ s0, s0 = w.heap.size := ⟨_, rfl⟩
  obtain ⟨W, hW⟩ : ∃ W, W = w.alloc (.cells #[.slice p C.meters.length c, .slice q C.extra.length d, .int .i64 C.frm, .int .i64 C.tto] 25) := ⟨_, rfl⟩
  have m0 : W.heap[s0]? = some (.cells #[.slice p C.meters.length c, .slice q C.extra.length d, .int .i64 C.frm, .int .i64 C.tto] 25) := by rw [hs0, hW]; exact heap_new _ _
  have hE : Ext w W := by rw [hW]; exact Ext.alloc (Ext.refl _) _
  rw [← hs0, ← hW]
  have HKC := Lib.hid (fun y (h : Ext W y) => (⟨h.cell (cell_of_heap m0 0), h.cell (cell_of_heap m0 1), h.cell (cell_of_heap m0 2), h.cell (cell_of_heap m0 3)⟩ :
    y.cell? ⟨s0, 0, none⟩ = some (.slice p C.meters.length c) ∧ y.cell? ⟨s0, 1, none⟩ = some (.slice q C.extra.length d) ∧ y.cell? ⟨s0, 2, none⟩ = some (.int .i64 C.frm) ∧ y.cell? ⟨s0, 3, none⟩ = some (.int .i64 C.tto)))
  have HE := Lib.hid hE
  have HVW := Lib.hid (fun y (h : Ext W y) => HV.out.ext (HE.out.trans h))
  obtain ⟨b, hb⟩ : ∃ b, b = isFB C n := ⟨_, rfl⟩
  have HIS := Lib.hid (fun y (h : Ext W y) => (show Calls Tryd.prog 34 #[.agg #[.slice p C.meters.length c, .slice q C.extra.length d, .int .i64 C.frm, .int .i64 C.tto], .int .i64 n] y (RetE (.bool b) y) from by rw [hb]; exact isFirst06 C n _ y (HVW.out y h) hwf (by have := HS.out.nm; omega)))
  have HB := Lib.hid hb
  clear hb hwf
  clear hW m0 hE hs0
  obtain ⟨T, hTT⟩ : ∃ T, T = askT C b := ⟨_, rfl⟩
  obtain ⟨z, hz⟩ : ∃ z, z = errC C b := ⟨_, rfl⟩
  have HAK := Lib.hid (fun y (h : Ext W y) => (show Calls Tryd.prog 27 #[.agg #[.slice p C.meters.length c, .slice q C.extra.length d, .int .i64 C.frm, .int .i64 C.tto], .bool b] y (RetTb T z y) from by rw [hTT, hz]; exact ask06 C b _ y (HV.out.ext (HE.out.trans h)) HS.out (HT.out.ext (HE.out.trans h))))
  have HTZ := Lib.hid (⟨hTT, hz⟩ : T = askT C b ∧ z = errC C b)
  clear hTT hz
  refine wp_region_facts 9 [[], [], [], [1, 2], [0, 3], [4], [5], [5], [6]] [8, 7] Ext (FL [Is (.agg #[.slice p C.meters.length c, .slice q C.extra.length d, .int .i64 C.frm, .int .i64 C.tto]), Is (.agg #[.slice p C.meters.length c, .slice q C.extra.length d, .int .i64 C.frm, .int .i64 C.tto]), Is (.int .i64 n), Is (.bool b), TabF T z W.heap.size, TabF T z W.heap.size, RowF T W.heap.size, Is (.int .i64 z), RowF T W.heap.size]) (by kernel_rfl) (by kernel_rfl) Ext.refl (fun _ _ _ => Ext.trans) (fun _ _ => Ext.size) (FL.mono ⟨Is.mono, Is.mono, Is.mono, Is.mono, TabF.mono, TabF.mono, RowF.mono, Is.mono, RowF.mono, trivial⟩) ⟨?_, ?_, ?_, ?_, ?_, ?_, ?_, ?_, ?_, trivial⟩ ?_
  · refine opF_step ?_
    intro ys l0 h0 w' hr hf K hK
    clear hf
    obtain ⟨j0, j1, j2, j3⟩ := HKC.out w' ((Ext.refl W).drew.trans hr)
    simp only [fill, Act.put, dstO, List.take_succ_cons, List.take_zero, List.setIfInBounds_toArray, List.set_cons_zero, List.set_cons_succ, List.getElem?_cons_zero, Nat.zero_add, Nat.reduceAdd] at hK ⊢
    refine OpB.mk' ?_
    go_simp
    exact hK.out _ _ rfl (Ext.refl _)
  · refine opF_step ?_
    intro ys l0 h0 w' hr hf K hK
    clear hf
    obtain ⟨j0, j1, j2, j3⟩ := HKC.out w' ((Ext.refl W).drew.trans hr)
    simp only [fill, Act.put, dstO, List.take_succ_cons, List.take_zero, List.setIfInBounds_toArray, List.set_cons_zero, List.set_cons_succ, List.getElem?_cons_zero, List.getElem?_cons_succ, Nat.zero_add, Nat.reduceAdd] at hK ⊢
    refine OpB.mk' ?_
    go_simp
    exact hK.out _ _ rfl (Ext.refl _)
  · refine opF_step ?_
    intro ys l0 h0 w' hr hf K hK
    clear hf
    simp only [fill, Act.put, dstO, List.take_succ_cons, List.take_zero, List.setIfInBounds_toArray, List.set_cons_zero, List.set_cons_succ, List.getElem?_cons_zero, List.getElem?_cons_succ, Nat.zero_add, Nat.reduceAdd] at hK ⊢
    refine OpB.mk' ?_
    go_simp
    exact hK.out _ _ rfl (Ext.refl _)
  · refine opF_step ?_
    intro ys l0 h0 w' hr hf K hK
    obtain ⟨f0, f1, -⟩ := hf
    have e0 : ys 1 = _ := f0
    have e1 : ys 2 = _ := f1
    simp only [fill, Act.put, dstO, List.take_succ_cons, List.take_zero, List.setIfInBounds_toArray, List.set_cons_zero, List.set_cons_succ, List.getElem?_cons_zero, List.getElem?_cons_succ, Nat.zero_add, Nat.reduceAdd] at hK ⊢
    simp only [e0, e1] at hK ⊢
    clear e0 e1 f0 f1
    refine OpB.mk' ?_
    go_simp
    refine (HIS.out w' ((Ext.refl W).drew.trans hr)).mono ?_
    rintro e w2 ⟨rfl, hE2⟩
    exact hK.out _ _ rfl hE2
  · refine opF_step ?_
    intro ys l0 h0 w' hr hf K hK
    obtain ⟨f0, f1, -⟩ := hf
    have e0 : ys 0 = _ := f0
    have e1 : ys 3 = _ := f1
    simp only [fill, Act.put, dstO, List.take_succ_cons, List.take_zero, List.setIfInBounds_toArray, List.set_cons_zero, List.set_cons_succ, List.getElem?_cons_zero, List.getElem?_cons_succ, Nat.zero_add, Nat.reduceAdd] at hK ⊢
    simp only [e0, e1] at hK ⊢
    clear e0 e1 f0 f1
    refine OpB.mk' ?_
    go_simp
    refine (HAK.out w' ((Ext.refl W).drew.trans hr)).mono ?_
    rintro e w2 ⟨u, vs, rfl, hR, hE2, hcp⟩
    exact hK.out _ _ ⟨u, vs, rfl, hR.base (Ext.size ((Ext.refl W).drew.trans hr)), hcp⟩ hE2
  · refine opF_step ?_
    intro ys l0 h0 w' hr hf K hK
    obtain ⟨f0, -⟩ := hf
    obtain ⟨u, vs, e0, hR, hcp⟩ := f0
    simp only [fill, Act.put, dstO, List.take_succ_cons, List.take_zero, List.setIfInBounds_toArray, List.set_cons_zero, List.set_cons_succ, List.getElem?_cons_zero, List.getElem?_cons_succ, Nat.zero_add, Nat.reduceAdd] at hK ⊢
    simp only [e0] at hK ⊢
    clear e0
    refine OpB.mk' ?_
    go_simp
    exact hK.out _ _ ⟨u, vs, rfl, hR, hcp⟩ (Ext.refl _)
  · refine opF_step ?_
    intro ys l0 h0 w' hr hf K hK
    obtain ⟨f0, -⟩ := hf
    obtain ⟨u, vs, e0, hR, hcp⟩ := f0
    simp only [fill, Act.put, dstO, List.take_succ_cons, List.take_zero, List.setIfInBounds_toArray, List.set_cons_zero, List.set_cons_succ, List.getElem?_cons_zero, List.getElem?_cons_succ, Nat.zero_add, Nat.reduceAdd] at hK ⊢
    simp only [e0] at hK ⊢
    clear e0
    refine OpB.mk' ?_
    go_simp
    exact hK.out _ _ ⟨vs, hR, hcp⟩ (Ext.refl _)
  · refine opF_step ?_
    intro ys l0 h0 w' hr hf K hK
    obtain ⟨f0, -⟩ := hf
    obtain ⟨u, vs, e0, hR, hcp⟩ := f0
    simp only [fill, Act.put, dstO, List.take_succ_cons, List.take_zero, List.setIfInBounds_toArray, List.set_cons_zero, List.set_cons_succ, List.getElem?_cons_zero, List.getElem?_cons_succ, Nat.zero_add, Nat.reduceAdd] at hK ⊢
    simp only [e0] at hK ⊢
    clear e0
    refine OpB.mk' ?_
    go_simp
    exact hK.out _ _ rfl (Ext.refl _)
  · refine opF_step ?_
    intro ys l0 h0 w' hr hf K hK
    obtain ⟨f0, -⟩ := hf
    simp only [fill, Act.put, dstO, List.take_succ_cons, List.take_zero, List.setIfInBounds_toArray, List.set_cons_zero, List.set_cons_succ, List.getElem?_cons_zero, List.getElem?_cons_succ, Nat.zero_add, Nat.reduceAdd] at hK ⊢
    refine OpB.mk' ?_
    go_simp
    exact hK.out _ _ f0 (Ext.refl _)
  intro ys l0 h0 w2 hr hf hsp
  obtain ⟨f8, f7, -⟩ := hf
  obtain ⟨vs, hR, hcp⟩ := f8
  have e7 : ys 7 = _ := f7
  simp only [fill, Act.put, List.take_succ_cons, List.take_zero, List.setIfInBounds_toArray, List.set_cons_zero, List.set_cons_succ, Nat.zero_add, Nat.reduceAdd, List.drop_succ_cons, List.drop_zero]
  rw [e7]
  clear e7 f7
  generalize ys 8 = u at hR ⊢
  clear hsp
  have hEW : Ext W w2 := (Ext.refl W).drew.trans hr
  have HR := Lib.hid hR
  have HCP := Lib.hid hcp
  have HEW := Lib.hid hEW
  obtain ⟨qt, ct, rfl, hLT⟩ := hR.lists
  have HLT := Lib.hid hLT
  clear hr hEW hR hcp hLT HAK
  by_cases hz0 : z = 0
  case neg =>
    have hg : (z == 0) = false := by simpa using hz0
    have HZ := Lib.hid (show errF C n = z from by unfold errF; rw [← HB.out, HTZ.out.2])
    have HNA := Lib.hid (show mayA C n = [] from by unfold mayA; rw [HZ.out]; exact if_neg hz0)
    clear hz0
    go_wp2
    go_ret2
    exact ⟨_, by rw [HZ.out]; rfl, by rw [HNA.out]; exact World.ownsRow_nil _ _ _ _, HE.out.trans HEW.out⟩
  subst hz0
  obtain ⟨hC, hbt, hso⟩ := errC_0 HTZ.out.2.symm
  have hTC : T = tabC C := by rw [HTZ.out.1, askT_0 HTZ.out.2.symm]
  have hG : TabG T := by rw [hTC]; exact tabC_ok hC hso
  have hn6 := hG.len
  have HZ := Lib.hid (show errF C n = 0 from by unfold errF; rw [← HB.out, ← HTZ.out.2])
  have HNA := Lib.hid (show mayA C n = pickTo (mayF T n) T.length from by unfold mayA; rw [HZ.out, hTC]; exact if_pos rfl)
  have HRK := Lib.hid (fun j (hj : j < T.length) y (h : Ext w2 y) => rank06 T hG.ok j hj hG.ls (by omega) qt ct y (HLT.out.ext h))
  have HFN := Lib.hid (fun lo hi y (h : Ext w2 y) => mayFn06 lo hi n bf y (((HE.out.trans HEW.out).trans h).cell HBF.out))
  obtain ⟨i0, hi, hz0, hz1, hz2⟩ := info_parts info_a
  clear hC hbt hso hTC hG
  go_wp2
  go_loopw [10, 25] (fun u i wr => ∃ j : Nat, j ≤ T.length ∧ i = .int .i64 j ∧ Ext w2 wr ∧ wr.ownsRow w2.heap.size 3 1 u (pickTo (mayF T n) j).length (intVs (pickTo (mayF T n) j))) (fun _ i _ => T.length - (intOf i).toNat)
  case atStart => exact ⟨0, Nat.zero_le _, rfl, Ext.refl _, World.ownsRow_nil _ _ _ _⟩
  case round =>
    obtain ⟨j, hj, rfl, hE2, hO⟩ := hrel
    have HE2 := Lib.hid hE2
    have HO := Lib.hid hO
    clear hE2 hO
    by_cases hlt : j < T.length
    · have hlt' : (j : Int) < (T.length : Int) := by omega
      have HRJ := Lib.hid (HRK.out j hlt wr HE2.out)
      unfold rkV at HRJ
      have HPS := Lib.hid (pickTo_succ (mayF T n) j)
      have hpl := pickTo_len (mayF T n) j
      have hfv : mayF T n j = decide (((rkLo T j : Nat) : Int) ≤ n) := rfl
      obtain ⟨x1, hx1⟩ : ∃ x : Nat, x = rkLo T j := ⟨_, rfl⟩
      obtain ⟨x2, hx2⟩ : ∃ x : Nat, x = rkHi T j := ⟨_, rfl⟩
      rw [← hx1, ← hx2] at HRJ
      rw [← hx1] at hfv
      obtain ⟨L, hL⟩ : ∃ L, L = pickTo (mayF T n) j := ⟨_, rfl⟩
      rw [← hL] at HO HPS hpl
      have HFJ := Lib.hid (fun y (h : Ext w2 y) => HFN.out x1 x2 y h)
      have HFV := Lib.hid hfv
      clear hfv hx1 hx2 hL
      by_cases hb : ((x1 : Nat) : Int) ≤ n
      · rw [decide_eq_true hb] at HFV HFJ
        have HPN := Lib.hid (show pickTo (mayF T n) (j + 1) = L ++ [(j : Int)] from by rw [HPS.out, HFV.out]; rfl)
        go_wp2_with (first
          | (go_at_call 29; refine HRJ.out.mono ?_; rintro e w3 ⟨rfl, hE3⟩)
          | (go_at_call 32; refine (HFJ.out _ (HE2.out.trans hE3)).mono ?_; rintro e w4 ⟨rfl, hE4⟩)
          | (at_builtin; refine wpList_append_lies _ rfl (.tmp 33) (.tmp 35) 23 rfl w2.heap.size 3 i0 (.int .i64 0) 1 8 Tryd.underlying23 hi hz0 hz1 hz2 rfl (by decide) _ L.length _ rfl (ownsRow_ext HO.out ((hE3.trans hE4).alloc _)) ⟨w4.heap.size, 0, none⟩ 1 1 [.int .i64 j] rfl rfl (hnewsE (Ext.refl _) rfl) (one_int _) (by decide) ?c3 ?c4 ?c5 (w4.heap.size + 1) (size_alloc _ _) ?_))
        case c3 => unfold maxLen; omega
        case c4 => omega
        case c5 => have := HE2.out.size; have := (hE3.trans hE4).size; first | omega | (rw [size_alloc]; omega)
        intro g4 cap4 w5 hown4 hgr4 hat4 hlt4
        have hE5 : Ext w2 w5 := Below.grown (HE2.out.trans ((hE3.trans hE4).alloc _)) hgr4 (HE2.out.trans ((hE3.trans hE4).alloc _)).size (fun i hi => (HO.out.lt i hi).1)
        have HO5 := Lib.hid hown4
        have HE5 := Lib.hid hE5
        clear hown4 hgr4 hat4 hlt4 hE5 hE3 hE4
        go_wp2
        go_roundw
        case rel => exact ⟨j + 1, by omega, by simp, HE5.out, by rw [HPN.out, intVs_snoc, List.length_append]; exact HO5.out⟩
        case measure => simp [intOf]; omega
      · rw [decide_eq_false hb] at HFV HFJ
        have HPN := Lib.hid (show pickTo (mayF T n) (j + 1) = L from by rw [HPS.out, HFV.out]; exact List.append_nil _)
        go_wp2_with (first
          | (go_at_call 29; refine HRJ.out.mono ?_; rintro e w3 ⟨rfl, hE3⟩)
          | (go_at_call 32; refine (HFJ.out _ (HE2.out.trans hE3)).mono ?_; rintro e w4 ⟨rfl, hE4⟩))
        go_roundw
        case rel => exact ⟨j + 1, by omega, by simp, HE2.out.trans (hE3.trans hE4), by rw [HPN.out]; exact ownsRow_ext HO.out (hE3.trans hE4)⟩
        case measure => simp [intOf]; omega
    · obtain rfl : j = T.length := by omega
      have hge : ¬(T.length : Int) < (T.length : Int) := by omega
      rw [← HNA.out] at HO
      go_wp2
      go_ret2
      exact ⟨_, by rw [HZ.out]; rfl, ownsRow_base HO.out (HE.out.trans HEW.out).size, HE.out.trans (HEW.out.trans HE2.out)⟩

set_option maxRecDepth 20000 in
set_option maxHeartbeats 1600000 in
theorem May06 (C : Ch) (n : Int) (v : Value) (w : World) (hv : ChV w v C) (hs : ChSm C) (hT : TabW w) (hwf : (Lit.int .i64 n).wf = true) :
    Calls Tryd.prog 12 #[v, .int .i64 n] w (RetL (mayA C n) (errF C n) w) := by
  have HV := Lib.hid hv
  have HS := Lib.hid hs
  have HT := Lib.hid hT
  have HWF := Lib.hid hwf
  obtain ⟨p, c, q, d, rfl, hp, hq⟩ := hv
  clear hp hq hT hs hwf
  go_enter Tryd.func12, Tryd.ntmps12
  go_upto_region 1 with (fail)
  obtain ⟨s0, hs0⟩ : ∃ s0, s0 = w.heap.size := ⟨_, rfl⟩
  obtain ⟨W, hW⟩ : ∃ W, W = (w.alloc (.cells #[.slice p C.meters.length c, .slice q C.extra.length d, .int .i64 C.frm, .int .i64 C.tto] 25)).alloc (.cells #[.int .i64 n] 3) := ⟨_, rfl⟩
  have m0 : W.heap[s0]? = some (.cells #[.slice p C.meters.length c, .slice q C.extra.length d, .int .i64 C.frm, .int .i64 C.tto] 25) := by rw [hs0, hW, Below.heap_alloc _ _ _ (by rw [size_alloc]; omega)]; exact heap_new _ _
  have m1 : W.heap[s0 + 1]? = some (.cells #[.int .i64 n] 3) := by rw [hs0, hW]; exact heap_new2 _ _ _
  have hE : Ext w W := by rw [hW]; exact Ext.alloc (Ext.alloc (Ext.refl _) _) _
  rw [← hs0, ← hW]
  have HTI := Lib.hid (titlesMay06 C n (s0 + 1) _ W (HV.out.ext hE) HS.out (HT.out.ext hE) HWF.out (cell_of_heap m1 0))
  have d0 := cell_of_heap m0 0
  have d1 := cell_of_heap m0 1
  have d2 := cell_of_heap m0 2
  have d3 := cell_of_heap m0 3
  have e0 := cell_of_heap m1 0
  have HE := Lib.hid hE
  clear hW m0 m1 hE hs0
  go_wp2_with (go_at_call 30; refine HTI.out.mono ?_; rintro e w2 ⟨u, rfl, hO, hE2⟩)
  go_ret2
  exact ⟨_, rfl, ownsRow_base hO HE.out.size, HE.out.trans hE2⟩
end Go.Proofs.YtaoamnhchidjfaaDoor
