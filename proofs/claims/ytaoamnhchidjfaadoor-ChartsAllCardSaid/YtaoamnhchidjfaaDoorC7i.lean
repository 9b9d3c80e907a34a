
/- Charts: the walk of Needs. -/
import Derived.Test.YtaoamnhchidjfaaDoorC7e
import Derived.Test.YtaoamnhchidjfaaDoorC7s
namespace Go.Proofs.YtaoamnhchidjfaaDoor
open Go.RowKit

open Classical in
noncomputable def needV (T : Tab) (i : Nat) (f : Int) : Int := if h : ∃ a, IsNeed T i f a then h.choose else 0
theorem needV_eq {T : Tab} {i : Nat} {f a : Int} (h : IsNeed T i f a) : needV T i f = a := by
  unfold needV
  have he : ∃ a, IsNeed T i f a := ⟨a, h⟩
  rw [dif_pos he]
  exact he.choose_spec.uniq h
noncomputable def errN (C : Ch) (t f : Int) : Int := errC C (isTB C t && isFB C f)
noncomputable def needsA (C : Ch) (t f : Int) : Int := okN (errN C t f) (needV (tabC C) t.toNat f)
theorem errC_f (C : Ch) : ¬errC C false = 0 := by
  unfold errC
  split
  · rw [if_neg (by decide)]; decide
  · decide
theorem want_bd {T : Tab} (hG : TabG T) (i : Nat) {k : Nat} (hk : k ≤ T.length) : ∀ v ∈ wantTo T i k, 0 ≤ v ∧ v ≤ 2500 := by
  intro v hv
  obtain ⟨j, hj, rfl⟩ := List.mem_map.1 hv
  have hj' := List.mem_range.1 (List.mem_filter.1 hj).1
  have h1 := hi_mem hG.ok (show j < T.length by omega)
  rw [rowT_get (show j < T.length by omega)] at h1
  have := hG.bd _ (List.getElem_mem (show j < T.length by omega)) _ h1
  split <;> omega
theorem lo_bd {T : Tab} (hG : TabG T) {j : Nat} (hj : j < T.length) : 0 ≤ loT T j ∧ loT T j ≤ 2499 := by
  have h1 := lo_mem hG.ok hj
  rw [rowT_get hj] at h1
  exact hG.bd _ (List.getElem_mem hj) _ h1
theorem hi_bd {T : Tab} (hG : TabG T) {j : Nat} (hj : j < T.length) : 0 ≤ hiT T j ∧ hiT T j ≤ 2499 := by
  have h1 := hi_mem hG.ok hj
  rw [rowT_get hj] at h1
  exact hG.bd _ (List.getElem_mem hj) _ h1

set_option maxRecDepth 20000 in
set_option maxHeartbeats 6400000 in
theorem Needs06 (C : Ch) (t f : Int) (v : Value) (w : World) (hv : ChV w v C) (hs : ChSm C) (hT : TabW w) (hwf : (Lit.int .i64 f).wf = true) :
    Calls Tryd.prog 17 #[v, .int .i64 t, .int .i64 f] w (RetE (.tuple #[.int .i64 (needsA C t f), .int .i64 (errN C t f)]) w) := by
  have HV := Lib.hid hv
  have HS := Lib.hid hs
  have HT := Lib.hid hT
  obtain ⟨p, c, q, d, rfl, hp, hq⟩ := hv
  clear hp hq hT hs
  go_enter Tryd.func17, Tryd.ntmps17
  go_upto_region 1 with (fail)
  obtain ⟨s0, hs0⟩ : ∃ s0, s0 = w.heap.size := ⟨_, rfl⟩
  obtain ⟨W, hW⟩ : ∃ W, W = w.alloc (.cells #[.slice p C.meters.length c, .slice q C.extra.length d, .int .i64 C.frm, .int .i64 C.tto] 25) := ⟨_, rfl⟩
  have m0 : W.heap[s0]? = some (.cells #[.slice p C.meters.length c, .slice q C.extra.length d, .int .i64 C.frm, .int .i64 C.tto] 25) := by rw [hs0, hW]; exact heap_new _ _
  have hE : Ext w W := by rw [hW]; exact Ext.alloc (Ext.refl _) _
  rw [← hs0, ← hW]
  have HKC := Lib.hid (fun y (h : Ext W y) => (⟨h.cell (cell_of_heap m0 0), h.cell (cell_of_heap m0 1), h.cell (cell_of_heap m0 2), h.cell (cell_of_heap m0 3)⟩ :
    y.cell? ⟨s0, 0, none⟩ = some (.slice p C.meters.length c) ∧ y.cell? ⟨s0, 1, none⟩ = some (.slice q C.extra.length d) ∧ y.cell? ⟨s0, 2, none⟩ = some (.int .i64 C.frm) ∧ y.cell? ⟨s0, 3, none⟩ = some (.int .i64 C.tto)))
  have HE := Lib.hid hE
  have HVW := Lib.hid (fun y (h : Ext W y) => HV.out.ext (HE.out.trans h))
  obtain ⟨bt, hbt⟩ : ∃ b, b = isTB C t := ⟨_, rfl⟩
  obtain ⟨bf, hbf⟩ : ∃ b, b = isFB C f := ⟨_, rfl⟩
  have HIS := Lib.hid (fun y (h : Ext W y) => (show Calls Tryd.prog 28 #[.agg #[.slice p C.meters.length c, .slice q C.extra.length d, .int .i64 C.frm, .int .i64 C.tto], .int .i64 t] y (RetE (.bool bt) y) from by rw [hbt]; exact isTitle06 C t _ y (HVW.out y h)))
  have HIF := Lib.hid (fun y (h : Ext W y) => (show Calls Tryd.prog 34 #[.agg #[.slice p C.meters.length c, .slice q C.extra.length d, .int .i64 C.frm, .int .i64 C.tto], .int .i64 f] y (RetE (.bool bf) y) from by rw [hbf]; exact isFirst06 C f _ y (HVW.out y h) hwf (by have := HS.out.nm; omega)))
  have HB := Lib.hid (⟨hbt, hbf⟩ : bt = isTB C t ∧ bf = isFB C f)
  clear hW m0 hE hs0 hbt hbf hwf
  cases bt
  case false =>
    obtain ⟨T, hTT⟩ : ∃ T, T = askT C false := ⟨_, rfl⟩
    obtain ⟨z, hz⟩ : ∃ z, z = errC C false := ⟨_, rfl⟩
    have HAK := Lib.hid (fun y (h : Ext W y) => (show Calls Tryd.prog 27 #[.agg #[.slice p C.meters.length c, .slice q C.extra.length d, .int .i64 C.frm, .int .i64 C.tto], .bool false] y (RetTb T z y) from by rw [hTT, hz]; exact ask06 C false _ y (HV.out.ext (HE.out.trans h)) HS.out (HT.out.ext (HE.out.trans h))))
    have HTZ := Lib.hid (⟨hTT, hz⟩ : T = askT C false ∧ z = errC C false)
    clear hTT hz
    refine wp_region_facts 14 [[], [], [], [1, 2], [3], [4], [4], [5, 6, 4], [4, 7], [0, 8], [9], [10], [10], [11]] [13, 12] Ext (FL [Is (.agg #[.slice p C.meters.length c, .slice q C.extra.length d, .int .i64 C.frm, .int .i64 C.tto]), Is (.agg #[.slice p C.meters.length c, .slice q C.extra.length d, .int .i64 C.frm, .int .i64 C.tto]), Is (.int .i64 t), Is (.bool false), Is (.bool false), Is (undef), Is (undef), Is (undef), Is (.bool false), TabF T z W.heap.size, TabF T z W.heap.size, RowF T W.heap.size, Is (.int .i64 z), RowF T W.heap.size]) (by kernel_rfl) (by kernel_rfl) Ext.refl (fun _ _ _ => Ext.trans) (fun _ _ => Ext.size) (FL.mono ⟨Is.mono, Is.mono, Is.mono, Is.mono, Is.mono, Is.mono, Is.mono, Is.mono, Is.mono, TabF.mono, TabF.mono, RowF.mono, Is.mono, RowF.mono, trivial⟩) ⟨?_, ?_, ?_, ?_, ?_, ?_, ?_, ?_, ?_, ?_, ?_, ?_, ?_, ?_, trivial⟩ ?_
    · refine opF_step ?_
      intro ys l0 h0 w' hr hf K hK
      clear hf
      obtain ⟨j0, j1, j2, j3⟩ := HKC.out w' ((Ext.refl W).drew.trans hr)
      simp only [fill, Act.put, dstO, List.take_succ_cons, List.take_zero, List.setIfInBounds_toArray, List.set_cons_zero, List.set_cons_succ, List.getElem?_cons_zero, Nat.zero_add, Nat.reduceAdd] at hK ⊢
      refine OpB.mk' ?_
      go_simp
      exact hK.out _ _ rfl (Ext.refl _)
    · refine opF_step ?_
      intro ys l0 h0 w' hr hf K hK
      clear hf
      obtain ⟨j0, j1, j2, j3⟩ := HKC.out w' ((Ext.refl W).drew.trans hr)
      simp only [fill, Act.put, dstO, List.take_succ_cons, List.take_zero, List.setIfInBounds_toArray, List.set_cons_zero, List.set_cons_succ, List.getElem?_cons_zero, List.getElem?_cons_succ, Nat.zero_add, Nat.reduceAdd] at hK ⊢
      refine OpB.mk' ?_
      go_simp
      exact hK.out _ _ rfl (Ext.refl _)
    · refine opF_step ?_
      intro ys l0 h0 w' hr hf K hK
      clear hf
      simp only [fill, Act.put, dstO, List.take_succ_cons, List.take_zero, List.setIfInBounds_toArray, List.set_cons_zero, List.set_cons_succ, List.getElem?_cons_zero, List.getElem?_cons_succ, Nat.zero_add, Nat.reduceAdd] at hK ⊢
      refine OpB.mk' ?_
      go_simp
      exact hK.out _ _ rfl (Ext.refl _)
    · refine opF_step ?_
      intro ys l0 h0 w' hr hf K hK
      obtain ⟨f0, f1, -⟩ := hf
      have e0 : ys 1 = _ := f0
      have e1 : ys 2 = _ := f1
      simp only [fill, Act.put, dstO, List.take_succ_cons, List.take_zero, List.setIfInBounds_toArray, List.set_cons_zero, List.set_cons_succ, List.getElem?_cons_zero, List.getElem?_cons_succ, Nat.zero_add, Nat.reduceAdd] at hK ⊢
      simp only [e0, e1] at hK ⊢
      clear e0 e1 f0 f1
      refine OpB.mk' ?_
      go_simp
      refine (HIS.out w' ((Ext.refl W).drew.trans hr)).mono ?_
      rintro e w2 ⟨rfl, hE2⟩
      exact hK.out _ _ rfl hE2
    · refine opF_step ?_
      intro ys l0 h0 w' hr hf K hK
      obtain ⟨f0, -⟩ := hf
      have e0 : ys 3 = _ := f0
      simp only [fill, Act.put, dstO, List.take_succ_cons, List.take_zero, List.setIfInBounds_toArray, List.set_cons_zero, List.set_cons_succ, List.getElem?_cons_zero, List.getElem?_cons_succ, Nat.zero_add, Nat.reduceAdd] at hK ⊢
      simp only [e0] at hK ⊢
      clear e0 f0
      refine OpB.mk' ?_
      go_simp
      exact hK.out _ _ rfl (Ext.refl _)
    · refine opF_step ?_
      intro ys l0 h0 w' hr hf K hK
      obtain ⟨f0, -⟩ := hf
      have e0 : ys 4 = _ := f0
      simp only [fill, Act.put, dstO, List.take_succ_cons, List.take_zero, List.setIfInBounds_toArray, List.set_cons_zero, List.set_cons_succ, List.getElem?_cons_zero, List.getElem?_cons_succ, Nat.zero_add, Nat.reduceAdd] at hK ⊢
      simp only [e0] at hK ⊢
      clear e0 f0
      refine OpB.mk' ?_
      go_simp
      exact hK.out _ _ rfl (Ext.refl _)
    · refine opF_step ?_
      intro ys l0 h0 w' hr hf K hK
      obtain ⟨f0, -⟩ := hf
      have e0 : ys 4 = _ := f0
      simp only [fill, Act.put, dstO, List.take_succ_cons, List.take_zero, List.setIfInBounds_toArray, List.set_cons_zero, List.set_cons_succ, List.getElem?_cons_zero, List.getElem?_cons_succ, Nat.zero_add, Nat.reduceAdd] at hK ⊢
      simp only [e0] at hK ⊢
      clear e0 f0
      refine OpB.mk' ?_
      go_simp
      exact hK.out _ _ rfl (Ext.refl _)
    · refine opF_step ?_
      intro ys l0 h0 w' hr hf K hK
      obtain ⟨f0, f1, f2, -⟩ := hf
      have e0 : ys 5 = _ := f0
      have e1 : ys 6 = _ := f1
      have e2 : ys 4 = _ := f2
      simp only [fill, Act.put, dstO, List.take_succ_cons, List.take_zero, List.setIfInBounds_toArray, List.set_cons_zero, List.set_cons_succ, List.getElem?_cons_zero, List.getElem?_cons_succ, Nat.zero_add, Nat.reduceAdd] at hK ⊢
      simp only [e0, e1, e2] at hK ⊢
      clear e0 e1 e2 f0 f1 f2
      refine OpB.mk' ?_
      go_simp
      exact hK.out _ _ rfl (Ext.refl _)
    · refine opF_step ?_
      intro ys l0 h0 w' hr hf K hK
      obtain ⟨f0, f1, -⟩ := hf
      have e0 : ys 4 = _ := f0
      have e1 : ys 7 = _ := f1
      simp only [fill, Act.put, dstO, List.take_succ_cons, List.take_zero, List.setIfInBounds_toArray, List.set_cons_zero, List.set_cons_succ, List.getElem?_cons_zero, List.getElem?_cons_succ, Nat.zero_add, Nat.reduceAdd] at hK ⊢
      simp only [e0, e1] at hK ⊢
      clear e0 e1 f0 f1
      refine OpB.mk' ?_
      go_simp
      exact hK.out _ _ rfl (Ext.refl _)
    · refine opF_step ?_
      intro ys l0 h0 w' hr hf K hK
      obtain ⟨f0, f1, -⟩ := hf
      have e0 : ys 0 = _ := f0
      have e1 : ys 8 = _ := f1
      simp only [fill, Act.put, dstO, List.take_succ_cons, List.take_zero, List.setIfInBounds_toArray, List.set_cons_zero, List.set_cons_succ, List.getElem?_cons_zero, List.getElem?_cons_succ, Nat.zero_add, Nat.reduceAdd] at hK ⊢
      simp only [e0, e1] at hK ⊢
      clear e0 e1 f0 f1
      refine OpB.mk' ?_
      go_simp
      refine (HAK.out w' ((Ext.refl W).drew.trans hr)).mono ?_
      rintro e w2 ⟨u, vs, rfl, hR, hE2, hcp⟩
      exact hK.out _ _ ⟨u, vs, rfl, hR.base (Ext.size ((Ext.refl W).drew.trans hr)), hcp⟩ hE2
    · refine opF_step ?_
      intro ys l0 h0 w' hr hf K hK
      obtain ⟨f0, -⟩ := hf
      obtain ⟨u, vs, e0, hR, hcp⟩ := f0
      simp only [fill, Act.put, dstO, List.take_succ_cons, List.take_zero, List.setIfInBounds_toArray, List.set_cons_zero, List.set_cons_succ, List.getElem?_cons_zero, List.getElem?_cons_succ, Nat.zero_add, Nat.reduceAdd] at hK ⊢
      simp only [e0] at hK ⊢
      clear e0
      refine OpB.mk' ?_
      go_simp
      exact hK.out _ _ ⟨u, vs, rfl, hR, hcp⟩ (Ext.refl _)
    · refine opF_step ?_
      intro ys l0 h0 w' hr hf K hK
      obtain ⟨f0, -⟩ := hf
      obtain ⟨u, vs, e0, hR, hcp⟩ := f0
      simp only [fill, Act.put, dstO, List.take_succ_cons, List.take_zero, List.setIfInBounds_toArray, List.set_cons_zero, List.set_cons_succ, List.getElem?_cons_zero, List.getElem?_cons_succ, Nat.zero_add, Nat.reduceAdd] at hK ⊢
      simp only [e0] at hK ⊢
      clear e0
      refine OpB.mk' ?_
      go_simp
      exact hK.out _ _ ⟨vs, hR, hcp⟩ (Ext.refl _)
    · refine opF_step ?_
      intro ys l0 h0 w' hr hf K hK
      obtain ⟨f0, -⟩ := hf
      obtain ⟨u, vs, e0, hR, hcp⟩ := f0
      simp only [fill, Act.put, dstO, List.take_succ_cons, List.take_zero, List.setIfInBounds_toArray, List.set_cons_zero, List.set_cons_succ, List.getElem?_cons_zero, List.getElem?_cons_succ, Nat.zero_add, Nat.reduceAdd] at hK ⊢
      simp only [e0] at hK ⊢
      clear e0
      refine OpB.mk' ?_
      go_simp
      exact hK.out _ _ rfl (Ext.refl _)
    · refine opF_step ?_
      intro ys l0 h0 w' hr hf K hK
      obtain ⟨f0, -⟩ := hf
      simp only [fill, Act.put, dstO, List.take_succ_cons, List.take_zero, List.setIfInBounds_toArray, List.set_cons_zero, List.set_cons_succ, List.getElem?_cons_zero, List.getElem?_cons_succ, Nat.zero_add, Nat.reduceAdd] at hK ⊢
      refine OpB.mk' ?_
      go_simp
      exact hK.out _ _ f0 (Ext.refl _)
    intro ys l0 h0 w2 hr hf hsp
    obtain ⟨f13, f12, -⟩ := hf
    obtain ⟨vs, hR, hcp⟩ := f13
    have e12 : ys 12 = _ := f12
    simp only [fill, Act.put, List.take_succ_cons, List.take_zero, List.setIfInBounds_toArray, List.set_cons_zero, List.set_cons_succ, Nat.zero_add, Nat.reduceAdd, List.drop_succ_cons, List.drop_zero]
    rw [e12]
    clear e12 f12
    generalize ys 13 = u at hR ⊢
    clear hsp
    have hEW : Ext W w2 := (Ext.refl W).drew.trans hr
    have HR := Lib.hid hR
    have HEW := Lib.hid hEW
    obtain ⟨qt, ct, rfl, hLT⟩ := hR.lists
    have HLT := Lib.hid hLT
    clear hr hEW hR hcp hLT HAK
    have hz0 : ¬z = 0 := by rw [HTZ.out.2]; exact errC_f C
    have hg : (z == 0) = false := by simpa using hz0
    have HZ := Lib.hid (show errN C t f = z from by unfold errN; rw [← HB.out.1, ← HB.out.2, HTZ.out.2]; rfl)
    have HNA := Lib.hid (show needsA C t f = 0 from by unfold needsA; rw [HZ.out, okN_ne hz0])
    clear hz0
    go_wp2
    go_ret2
    exact RetE.fin (HE.out.trans HEW.out) (by rw [HNA.out, HZ.out]; rfl)
  case true =>
    obtain ⟨T, hTT⟩ : ∃ T, T = askT C bf := ⟨_, rfl⟩
    obtain ⟨z, hz⟩ : ∃ z, z = errC C bf := ⟨_, rfl⟩
    have HAK := Lib.hid (fun y (h : Ext W y) => (show Calls Tryd.prog 27 #[.agg #[.slice p C.meters.length c, .slice q C.extra.length d, .int .i64 C.frm, .int .i64 C.tto], .bool bf] y (RetTb T z y) from by rw [hTT, hz]; exact ask06 C bf _ y (HV.out.ext (HE.out.trans h)) HS.out (HT.out.ext (HE.out.trans h))))
    have HTZ := Lib.hid (⟨hTT, hz⟩ : T = askT C bf ∧ z = errC C bf)
    clear hTT hz
    refine wp_region_facts 14 [[], [], [], [1, 2], [3], [4], [4], [5, 6, 4], [4, 7], [0, 8], [9], [10], [10], [11]] [13, 12] Ext (FL [Is (.agg #[.slice p C.meters.length c, .slice q C.extra.length d, .int .i64 C.frm, .int .i64 C.tto]), Is (.agg #[.slice p C.meters.length c, .slice q C.extra.length d, .int .i64 C.frm, .int .i64 C.tto]), Is (.int .i64 t), Is (.bool true), Is (.bool true), Is (.agg #[.slice p C.meters.length c, .slice q C.extra.length d, .int .i64 C.frm, .int .i64 C.tto]), Is (.int .i64 f), Is (.bool bf), Is (.bool bf), TabF T z W.heap.size, TabF T z W.heap.size, RowF T W.heap.size, Is (.int .i64 z), RowF T W.heap.size]) (by kernel_rfl) (by kernel_rfl) Ext.refl (fun _ _ _ => Ext.trans) (fun _ _ => Ext.size) (FL.mono ⟨Is.mono, Is.mono, Is.mono, Is.mono, Is.mono, Is.mono, Is.mono, Is.mono, Is.mono, TabF.mono, TabF.mono, RowF.mono, Is.mono, RowF.mono, trivial⟩) ⟨?_, ?_, ?_, ?_, ?_, ?_, ?_, ?_, ?_, ?_, ?_, ?_, ?_, ?_, trivial⟩ ?_
    · refine opF_step ?_
      intro ys l0 h0 w' hr hf K hK
      clear hf
      obtain ⟨j0, j1, j2, j3⟩ := HKC.out w' ((Ext.refl W).drew.trans hr)
      simp only [fill, Act.put, dstO, List.take_succ_cons, List.take_zero, List.setIfInBounds_toArray, List.set_cons_zero, List.set_cons_succ, List.getElem?_cons_zero, Nat.zero_add, Nat.reduceAdd] at hK ⊢
      refine OpB.mk' ?_
      go_simp
      exact hK.out _ _ rfl (Ext.refl _)
    · refine opF_step ?_
      intro ys l0 h0 w' hr hf K hK
      clear hf
      obtain ⟨j0, j1, j2, j3⟩ := HKC.out w' ((Ext.refl W).drew.trans hr)
      simp only [fill, Act.put, dstO, List.take_succ_cons, List.take_zero, List.setIfInBounds_toArray, List.set_cons_zero, List.set_cons_succ, List.getElem?_cons_zero, List.getElem?_cons_succ, Nat.zero_add, Nat.reduceAdd] at hK ⊢
      refine OpB.mk' ?_
      go_simp
      exact hK.out _ _ rfl (Ext.refl _)
    · refine opF_step ?_
      intro ys l0 h0 w' hr hf K hK
      clear hf
      simp only [fill, Act.put, dstO, List.take_succ_cons, List.take_zero, List.setIfInBounds_toArray, List.set_cons_zero, List.set_cons_succ, List.getElem?_cons_zero, List.getElem?_cons_succ, Nat.zero_add, Nat.reduceAdd] at hK ⊢
      refine OpB.mk' ?_
      go_simp
      exact hK.out _ _ rfl (Ext.refl _)
    · refine opF_step ?_
      intro ys l0 h0 w' hr hf K hK
      obtain ⟨f0, f1, -⟩ := hf
      have e0 : ys 1 = _ := f0
      have e1 : ys 2 = _ := f1
      simp only [fill, Act.put, dstO, List.take_succ_cons, List.take_zero, List.setIfInBounds_toArray, List.set_cons_zero, List.set_cons_succ, List.getElem?_cons_zero, List.getElem?_cons_succ, Nat.zero_add, Nat.reduceAdd] at hK ⊢
      simp only [e0, e1] at hK ⊢
      clear e0 e1 f0 f1
      refine OpB.mk' ?_
      go_simp
      refine (HIS.out w' ((Ext.refl W).drew.trans hr)).mono ?_
      rintro e w2 ⟨rfl, hE2⟩
      exact hK.out _ _ rfl hE2
    · refine opF_step ?_
      intro ys l0 h0 w' hr hf K hK
      obtain ⟨f0, -⟩ := hf
      have e0 : ys 3 = _ := f0
      simp only [fill, Act.put, dstO, List.take_succ_cons, List.take_zero, List.setIfInBounds_toArray, List.set_cons_zero, List.set_cons_succ, List.getElem?_cons_zero, List.getElem?_cons_succ, Nat.zero_add, Nat.reduceAdd] at hK ⊢
      simp only [e0] at hK ⊢
      clear e0 f0
      refine OpB.mk' ?_
      go_simp
      exact hK.out _ _ rfl (Ext.refl _)
    · refine opF_step ?_
      intro ys l0 h0 w' hr hf K hK
      obtain ⟨f0, -⟩ := hf
      have e0 : ys 4 = _ := f0
      obtain ⟨j0, j1, j2, j3⟩ := HKC.out w' ((Ext.refl W).drew.trans hr)
      simp only [fill, Act.put, dstO, List.take_succ_cons, List.take_zero, List.setIfInBounds_toArray, List.set_cons_zero, List.set_cons_succ, List.getElem?_cons_zero, List.getElem?_cons_succ, Nat.zero_add, Nat.reduceAdd] at hK ⊢
      simp only [e0] at hK ⊢
      clear e0 f0
      refine OpB.mk' ?_
      go_simp
      exact hK.out _ _ rfl (Ext.refl _)
    · refine opF_step ?_
      intro ys l0 h0 w' hr hf K hK
      obtain ⟨f0, -⟩ := hf
      have e0 : ys 4 = _ := f0
      simp only [fill, Act.put, dstO, List.take_succ_cons, List.take_zero, List.setIfInBounds_toArray, List.set_cons_zero, List.set_cons_succ, List.getElem?_cons_zero, List.getElem?_cons_succ, Nat.zero_add, Nat.reduceAdd] at hK ⊢
      simp only [e0] at hK ⊢
      clear e0 f0
      refine OpB.mk' ?_
      go_simp
      exact hK.out _ _ rfl (Ext.refl _)
    · refine opF_step ?_
      intro ys l0 h0 w' hr hf K hK
      obtain ⟨f0, f1, f2, -⟩ := hf
      have e0 : ys 5 = _ := f0
      have e1 : ys 6 = _ := f1
      have e2 : ys 4 = _ := f2
      simp only [fill, Act.put, dstO, List.take_succ_cons, List.take_zero, List.setIfInBounds_toArray, List.set_cons_zero, List.set_cons_succ, List.getElem?_cons_zero, List.getElem?_cons_succ, Nat.zero_add, Nat.reduceAdd] at hK ⊢
      simp only [e0, e1, e2] at hK ⊢
      clear e0 e1 e2 f0 f1 f2
      refine OpB.mk' ?_
      go_simp
      refine (HIF.out w' ((Ext.refl W).drew.trans hr)).mono ?_
      rintro e w2 ⟨rfl, hE2⟩
      exact hK.out _ _ rfl hE2
    · refine opF_step ?_
      intro ys l0 h0 w' hr hf K hK
      obtain ⟨f0, f1, -⟩ := hf
      have e0 : ys 4 = _ := f0
      have e1 : ys 7 = _ := f1
      simp only [fill, Act.put, dstO, List.take_succ_cons, List.take_zero, List.setIfInBounds_toArray, List.set_cons_zero, List.set_cons_succ, List.getElem?_cons_zero, List.getElem?_cons_succ, Nat.zero_add, Nat.reduceAdd] at hK ⊢
      simp only [e0, e1] at hK ⊢
      clear e0 e1 f0 f1
      refine OpB.mk' ?_
      go_simp
      exact hK.out _ _ rfl (Ext.refl _)
    · refine opF_step ?_
      intro ys l0 h0 w' hr hf K hK
      obtain ⟨f0, f1, -⟩ := hf
      have e0 : ys 0 = _ := f0
      have e1 : ys 8 = _ := f1
      simp only [fill, Act.put, dstO, List.take_succ_cons, List.take_zero, List.setIfInBounds_toArray, List.set_cons_zero, List.set_cons_succ, List.getElem?_cons_zero, List.getElem?_cons_succ, Nat.zero_add, Nat.reduceAdd] at hK ⊢
      simp only [e0, e1] at hK ⊢
      clear e0 e1 f0 f1
      refine OpB.mk' ?_
      go_simp
      refine (HAK.out w' ((Ext.refl W).drew.trans hr)).mono ?_
      rintro e w2 ⟨u, vs, rfl, hR, hE2, hcp⟩
      exact hK.out _ _ ⟨u, vs, rfl, hR.base (Ext.size ((Ext.refl W).drew.trans hr)), hcp⟩ hE2
    · refine opF_step ?_
      intro ys l0 h0 w' hr hf K hK
      obtain ⟨f0, -⟩ := hf
      obtain ⟨u, vs, e0, hR, hcp⟩ := f0
      simp only [fill, Act.put, dstO, List.take_succ_cons, List.take_zero, List.setIfInBounds_toArray, List.set_cons_zero, List.set_cons_succ, List.getElem?_cons_zero, List.getElem?_cons_succ, Nat.zero_add, Nat.reduceAdd] at hK ⊢
      simp only [e0] at hK ⊢
      clear e0
      refine OpB.mk' ?_
      go_simp
      exact hK.out _ _ ⟨u, vs, rfl, hR, hcp⟩ (Ext.refl _)
    · refine opF_step ?_
      intro ys l0 h0 w' hr hf K hK
      obtain ⟨f0, -⟩ := hf
      obtain ⟨u, vs, e0, hR, hcp⟩ := f0
      simp only [fill, Act.put, dstO, List.take_succ_cons, List.take_zero, List.setIfInBounds_toArray, List.set_cons_zero, List.set_cons_succ, List.getElem?_cons_zero, List.getElem?_cons_succ, Nat.zero_add, Nat.reduceAdd] at hK ⊢
      simp only [e0] at hK ⊢
      clear e0
      refine OpB.mk' ?_
      go_simp
      exact hK.out _ _ ⟨vs, hR, hcp⟩ (Ext.refl _)
    · refine opF_step ?_
      intro ys l0 h0 w' hr hf K hK
      obtain ⟨f0, -⟩ := hf
      obtain ⟨u, vs, e0, hR, hcp⟩ := f0
      simp only [fill, Act.put, dstO, List.take_succ_cons, List.take_zero, List.setIfInBounds_toArray, List.set_cons_zero, List.set_cons_succ, List.getElem?_cons_zero, List.getElem?_cons_succ, Nat.zero_add, Nat.reduceAdd] at hK ⊢
      simp only [e0] at hK ⊢
      clear e0
      refine OpB.mk' ?_
      go_simp
      exact hK.out _ _ rfl (Ext.refl _)
    · refine opF_step ?_
      intro ys l0 h0 w' hr hf K hK
      obtain ⟨f0, -⟩ := hf
      simp only [fill, Act.put, dstO, List.take_succ_cons, List.take_zero, List.setIfInBounds_toArray, List.set_cons_zero, List.set_cons_succ, List.getElem?_cons_zero, List.getElem?_cons_succ, Nat.zero_add, Nat.reduceAdd] at hK ⊢
      refine OpB.mk' ?_
      go_simp
      exact hK.out _ _ f0 (Ext.refl _)
    intro ys l0 h0 w2 hr hf hsp
    obtain ⟨f13, f12, -⟩ := hf
    obtain ⟨vs, hR, hcp⟩ := f13
    have e12 : ys 12 = _ := f12
    simp only [fill, Act.put, List.take_succ_cons, List.take_zero, List.setIfInBounds_toArray, List.set_cons_zero, List.set_cons_succ, Nat.zero_add, Nat.reduceAdd, List.drop_succ_cons, List.drop_zero]
    rw [e12]
    clear e12 f12
    generalize ys 13 = u at hR ⊢
    clear hsp
    have hEW : Ext W w2 := (Ext.refl W).drew.trans hr
    have HR := Lib.hid hR
    have HEW := Lib.hid hEW
    obtain ⟨qt, ct, rfl, hLT⟩ := hR.lists
    have HLT := Lib.hid hLT
    clear hr hEW hR hcp hLT HAK
    by_cases hz0 : z = 0
    case neg =>
      have hg : (z == 0) = false := by simpa using hz0
      have HZ := Lib.hid (show errN C t f = z from by unfold errN; rw [← HB.out.1, ← HB.out.2, HTZ.out.2]; rfl)
      have HNA := Lib.hid (show needsA C t f = 0 from by unfold needsA; rw [HZ.out, okN_ne hz0])
      clear hz0
      go_wp2
      go_ret2
      exact RetE.fin (HE.out.trans HEW.out) (by rw [HNA.out, HZ.out]; rfl)
    subst hz0
    obtain ⟨hC, hbt, hso⟩ := errC_0 HTZ.out.2.symm
    have hTC : T = tabC C := by rw [HTZ.out.1, askT_0 HTZ.out.2.symm]
    have htl : T.length = C.meters.length := by rw [hTC, tabC_len]
    obtain ⟨h0, h1⟩ := isTB_iff.1 HB.out.1.symm
    obtain ⟨h2, h3⟩ := isFB_iff.1 (HB.out.2.symm.trans hbt)
    obtain ⟨i, rfl⟩ : ∃ i : Nat, t = i := ⟨t.toNat, by omega⟩
    obtain ⟨k, rfl⟩ : ∃ k : Nat, f = k := ⟨f.toNat, by omega⟩
    have hG : TabG T := by rw [hTC]; exact tabC_ok hC hso
    have hn6 := hG.len
    have HZ := Lib.hid (show errN C i k = 0 from by unfold errN; rw [← HB.out.1, ← HB.out.2]; exact HTZ.out.2.symm)
    have HNA := Lib.hid (show needsA C i k = needV T i k from by unfold needsA; rw [HZ.out, okN_0 rfl, hTC]; rfl)
    have hiI : i < T.length := by omega
    have hk1 : 1 ≤ k := by omega
    have hkn : k ≤ T.length := by omega
    have HHI := Lib.hid (fun j (hj : j < T.length) y (h : Ext w2 y) => high06 T hG.ok j hj hG.ls qt ct y (HLT.out.ext h))
    have HLO := Lib.hid (fun y (h : Ext w2 y) => low06 T hG.ok i hiI qt ct y (HLT.out.ext h))
    have HG := Lib.hid hG
    obtain ⟨i0, hi, hz0, hz1, hz2⟩ := info_parts info_a
    clear hC hbt hso hTC htl h0 h1 h2 h3 hG
    go_wp2
    go_loopw [10, 30] (fun u a wr => ∃ j : Nat, j ≤ T.length ∧ a = .int .i64 j ∧ Ext w2 wr ∧ wr.ownsRow w2.heap.size 3 1 u (wantTo T i j).length (intVs (wantTo T i j))) (fun _ a _ => T.length - (intOf a).toNat)
    case atStart => exact ⟨0, Nat.zero_le _, rfl, Ext.refl _, World.ownsRow_nil _ _ _ _⟩
    case round =>
      obtain ⟨j, hj, rfl, hE2, hO⟩ := hrel
      have HE2 := Lib.hid hE2
      have HO := Lib.hid hO
      clear hE2 hO
      by_cases hlt : j < T.length
      · have hlt' : (j : Int) < (T.length : Int) := by omega
        have HC := Lib.hid (HHI.out j hlt wr HE2.out)
        have hbd := hi_bd HG.out hlt
        have hwl := wantTo_len T i j
        have hws := wantTo_succ T i j
        obtain ⟨x, hx⟩ : ∃ x, x = hiT T j := ⟨_, rfl⟩
        rw [← hx] at HC hbd hws
        obtain ⟨L, hL⟩ : ∃ L, L = wantTo T i j := ⟨_, rfl⟩
        rw [← hL] at HO hwl hws
        have hLl : L.length ≤ 6 := by rw [hwl]; split <;> omega
        have HWS := Lib.hid hws
        clear hwl hws hx hL
        by_cases hji : j < i
        · have hji' : (j : Int) < (i : Int) := by omega
          have hwx : IntKind.i64.wrap (x + 1) = x + 1 := IntWalk.i64_in _ (by omega)
          have HWN := Lib.hid (show wantTo T i (j + 1) = L ++ [x + 1] from by rw [HWS.out, if_neg (by omega), if_pos hji])
          clear HWS
          go_wp2_with (first
            | (go_at_call 35; refine HC.out.mono ?_; rintro e w3 ⟨rfl, hE3⟩)
            | (at_builtin; refine wpList_append_lies _ rfl (.tmp 37) (.tmp 42) 23 rfl w2.heap.size 3 i0 (.int .i64 0) 1 8 Tryd.underlying23 hi hz0 hz1 hz2 rfl (by decide) _ L.length _ rfl (ownsRow_ext HO.out (hE3.alloc _)) ⟨w3.heap.size, 0, none⟩ 1 1 [.int .i64 (x + 1)] rfl rfl (hnewsE (Ext.refl _) rfl) (one_int _) (by decide) ?c3 ?c4 ?c5 (w3.heap.size + 1) (size_alloc _ _) ?_))
          case c3 => unfold maxLen; omega
          case c4 => omega
          case c5 => have := HE2.out.size; have := hE3.size; first | omega | (rw [size_alloc]; omega)
          intro g4 cap4 w5 hown4 hgr4 hat4 hlt4
          have hE5 : Ext w2 w5 := Below.grown (HE2.out.trans (hE3.alloc _)) hgr4 (HE2.out.trans (hE3.alloc _)).size (fun i hi => (HO.out.lt i hi).1)
          have HO5 := Lib.hid hown4
          have HE5 := Lib.hid hE5
          clear hown4 hgr4 hat4 hlt4 hE5 hE3
          go_wp2
          go_roundw
          case rel => exact ⟨j + 1, by omega, by simp, HE5.out, by rw [HWN.out, intVs_snoc, List.length_append]; exact HO5.out⟩
          case measure => simp [intOf]; omega
        · have hji' : ¬(j : Int) < (i : Int) := by omega
          by_cases hij : i < j
          · have hij' : (i : Int) < (j : Int) := by omega
            have HWN := Lib.hid (show wantTo T i (j + 1) = L ++ [x] from by rw [HWS.out, if_neg (by omega), if_neg hji, Int.add_zero])
            clear HWS
            go_wp2_with (first
              | (go_at_call 35; refine HC.out.mono ?_; rintro e w3 ⟨rfl, hE3⟩)
              | (at_builtin; refine wpList_append_lies _ rfl (.tmp 48) (.tmp 52) 23 rfl w2.heap.size 3 i0 (.int .i64 0) 1 8 Tryd.underlying23 hi hz0 hz1 hz2 rfl (by decide) _ L.length _ rfl (ownsRow_ext HO.out (hE3.alloc _)) ⟨w3.heap.size, 0, none⟩ 1 1 [.int .i64 x] rfl rfl (hnewsE (Ext.refl _) rfl) (one_int _) (by decide) ?c3 ?c4 ?c5 (w3.heap.size + 1) (size_alloc _ _) ?_))
            case c3 => unfold maxLen; omega
            case c4 => omega
            case c5 => have := HE2.out.size; have := hE3.size; first | omega | (rw [size_alloc]; omega)
            intro g4 cap4 w5 hown4 hgr4 hat4 hlt4
            have hE5 : Ext w2 w5 := Below.grown (HE2.out.trans (hE3.alloc _)) hgr4 (HE2.out.trans (hE3.alloc _)).size (fun i hi => (HO.out.lt i hi).1)
            have HO5 := Lib.hid hown4
            have HE5 := Lib.hid hE5
            clear hown4 hgr4 hat4 hlt4 hE5 hE3
            go_wp2
            go_roundw
            case rel => exact ⟨j + 1, by omega, by simp, HE5.out, by rw [HWN.out, intVs_snoc, List.length_append]; exact HO5.out⟩
            case measure => simp [intOf]; omega
          · have hij' : ¬(i : Int) < (j : Int) := by omega
            have HWN := Lib.hid (show wantTo T i (j + 1) = L from by rw [HWS.out, if_pos (by omega), List.append_nil])
            clear HWS
            go_wp2
            go_roundw
            case rel => exact ⟨j + 1, by omega, by simp, HE2.out, by rw [HWN.out]; exact HO.out⟩
            case measure => simp [intOf]; omega
      · obtain rfl : j = T.length := by omega
        have hge : ¬(T.length : Int) < (T.length : Int) := by omega
        have hwl := wantTo_len T i T.length
        rw [if_pos hiI] at hwl
        have HNS := Lib.hid (fun (l : List Int) hs hp h2 hl => need_sorted (T := T) (i := i) (l := l) (f := k) hs hp hk1 h2 hl)
        have HNZ := Lib.hid (fun h => need_zero (T := T) (i := i) (f := (k : Int)) h)
        have hbd := want_bd HG.out i (Nat.le_refl T.length)
        have hlb := lo_bd HG.out hiI
        obtain ⟨lo, hlo⟩ : ∃ x, x = loT T i := ⟨_, rfl⟩
        rw [← hlo] at HNS HLO hlb
        obtain ⟨L, hL⟩ : ∃ L, L = wantTo T i T.length := ⟨_, rfl⟩
        rw [← hL] at HO hwl HNS HNZ hbd
        obtain ⟨m, hm⟩ : ∃ m, m = L.length := ⟨_, rfl⟩
        rw [← hm] at HO hwl HNZ
        have HM : EqS m L.length := ⟨hm⟩
        have HBD := Lib.hid hbd
        have HWL : EqS m (T.length - 1) := ⟨hwl⟩
        clear hlo hL hm hbd hlt hwl
        obtain ⟨qu, cu, rfl⟩ := own_shape HO.out
        by_cases hkm : m < k
        · have hkm' : (m : Int) < (k : Int) := by omega
          have HA := Lib.hid (needV_eq (HNZ.out hkm'))
          rw [← HNA.out] at HA
          go_wp2
          go_ret2
          exact RetE.fin (HE.out.trans (HEW.out.trans HE2.out)) (by rw [HA.out, HZ.out]; rfl)
        · have hkm' : ¬(m : Int) < (k : Int) := by omega
          obtain ⟨g, cg, he, -⟩ := ownsRow_at HO.out 0 (by omega)
          cases he
          have HSO := Lib.hid (Sort_i w2.heap.size g m cu L HM.out.symm (by have := HWL.out; omega) wr HO.out)
          have HGB := Lib.hid (HO.out.lt g rfl).1
          go_upto_region 16 with (go_at_call 36; refine HSO.out.mono ?_; rintro e w3 ⟨rfl, l', hp, hs, hU, hO3⟩)
          have hll : l'.length = m := by rw [hp.length_eq, HM.out]
          obtain ⟨r, hr⟩ : ∃ r, r = m - k := ⟨_, rfl⟩
          have hrl : r < l'.length := by omega
          obtain ⟨hc, -⟩ := ownsRow_cell hO3 (i := r) hrl
          have hns := HNS.out l' hs hp (by omega) (by omega)
          have e : l'[l'.length - k]'(by omega) = l'[r] := by congr 1; omega
          rw [e] at hns
          have hab := HBD.out l'[r] (hp.subset (List.getElem_mem hrl))
          obtain ⟨a, ha⟩ : ∃ a, a = l'[r] := ⟨_, rfl⟩
          rw [← ha] at hc hns hab
          have HA := Lib.hid (needV_eq hns)
          rw [← HNA.out] at HA
          have hw : IntKind.i64.wrap ((m : Int) - (k : Int)) = (r : Int) := by have := HWL.out; rw [IntKind.wrap_i64]; omega
          have hr0 : (r : Int) < (m : Int) := by omega
          have hwd : IntKind.i64.wrap (a - lo) = a - lo := IntWalk.i64_in _ (by omega)
          have HEE := Lib.hid (HE2.out.ups hU HGB.out)
          have HLX := Lib.hid (fun x : ExtW w3 => ExtW.call (x := x) (HLO.out x.w ((HE2.out.ups hU HGB.out).trans x.h)))
          have k1 := ExtW.cell hc
          clear hp hs hU hO3 hll hns e hr hrl HSO ha hc
          obtain ⟨x0, hx0⟩ := ExtW.of (Ext.refl w3)
          conv => arg 5; rw [hx0]
          clear hx0
          refine wp_region_extW (by kernel_rfl) (by kernel_rfl) ?_
          repeat (go_big_quiet_step ((go_at_call 37; exact HLX.out _)))
          refine wpQuiet_nil ?_
          rintro _ ⟨x2, rfl⟩
          go_wp2
          all_goals
            go_ret2
            refine RetE.fin (HE.out.trans (HEW.out.trans (HEE.out.trans x2.h))) ?_
            rw [HA.out, HZ.out]
            first
              | (rw [show max 0 (a - lo) = a - lo by omega]; rfl)
              | (rw [show max 0 (a - lo) = 0 by omega]; rfl)
              | (rw [show max 0 (a - lo) = if 0 < a - lo then a - lo else 0 by split <;> omega]; rfl)
end Go.Proofs.YtaoamnhchidjfaaDoor
