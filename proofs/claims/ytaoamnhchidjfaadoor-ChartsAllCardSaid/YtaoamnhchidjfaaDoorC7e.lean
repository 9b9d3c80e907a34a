
/- Charts: the walks of Numbers and Rank; which tables there are. -/
import Derived.Test.YtaoamnhchidjfaaDoorC7d
namespace Go.Proofs.YtaoamnhchidjfaaDoor
open Go.RowKit

theorem someN_at {C : Ch} {n k : Nat} (h : someN C n = false) (hk : k < n) : askV (mtC C k) true = 0 := by
  refine Classical.byContradiction fun ha => ?_
  rw [someN_mono hk ha] at h
  cases h
theorem errC_0 {C : Ch} {is : Bool} (h : errC C is = 0) : ValidC C ∧ is = true ∧ someN C C.meters.length = false := by
  unfold errC at h
  by_cases h1 : okC C = true
  · rw [if_pos h1] at h
    cases is with
    | false => simp at h
    | true =>
      refine ⟨(okC_iff C).1 h1, rfl, ?_⟩
      rw [if_pos rfl] at h
      cases hn : someN C C.meters.length with
      | false => rfl
      | true => rw [hn] at h; simp at h
  · rw [if_neg h1] at h; cases h
theorem tabC_len (C : Ch) : (tabC C).length = C.meters.length := tabTo_len C _
theorem tabC_row {C : Ch} {i : Nat} (h : i < C.meters.length) : rowT (tabC C) i = rowC C i := by
  rw [rowT_get (by rw [tabC_len]; exact h)]
  simp [tabC, tabTo]
theorem mem_tabC {C : Ch} {l : List Int} (h : l ∈ tabC C) : ∃ i, i < C.meters.length ∧ l = rowC C i := by
  obtain ⟨i, hi, rfl⟩ := List.mem_map.1 h
  exact ⟨i, List.mem_range.1 hi, rfl⟩
/-- what a table of a chart is -/
structure TabG (T : Tab) : Prop where
  ok : TabOK T
  len : T.length ≤ 6
  ls : ∀ l ∈ T, l.length ≤ 2000
  bd : ∀ l ∈ T, ∀ v ∈ l, 0 ≤ v ∧ v ≤ 2499
theorem tabC_ok {C : Ch} (h : ValidC C) (hn : someN C C.meters.length = false) : TabG (tabC C) := by
  have key : ∀ i, i < C.meters.length → (rowC C i ≠ [] ∧ (rowC C i).Pairwise (· < ·)) ∧ (rowC C i).length ≤ 2000 ∧ ∀ v ∈ rowC C i, 0 ≤ v ∧ v ≤ 2499 := by
    intro i hi
    obtain ⟨hM, har⟩ := h.mtI hi
    have hz := someN_at hn hi
    have hx := h.ex _ (List.getElem_mem (show i < C.extra.length by rw [h.nx]; exact hi))
    rw [← exC_get (by rw [h.nx]; exact hi)] at hx
    have hs : (sumsA (mtC C i) C.frm C.tto).Pairwise (· < ·) := by
      rw [(sumsA_list hM har hz).1, List.pairwise_map]
      exact (bitsN_rises _).imp fun h => by omega
    refine ⟨map_add_ok _ ⟨sumsA_ne hM har hz, hs⟩, ?_, fun v hv => ?_⟩
    · unfold rowC
      have := sumsA_len (mtC C i) C.frm C.tto
      rw [List.length_map]
      omega
    · obtain ⟨y, hy, rfl⟩ := List.mem_map.1 hv
      have := sumsA_bound hM har hz hy
      omega
  refine ⟨fun l hl => ?_, by rw [tabC_len]; exact h.nm, fun l hl => ?_, fun l hl => ?_⟩ <;> obtain ⟨i, hi, rfl⟩ := mem_tabC hl
  · exact (key i hi).1
  · exact (key i hi).2.1
  · exact (key i hi).2.2
def TabF (T : Tab) (z : Int) (B : Nat) (v : Value) (_ _ : Nat) (w : World) : Prop := ∃ u vs, v = .tuple #[u, .int .i64 z] ∧ RwV w B u vs T none ∧ CapOK vs
theorem TabF.mono {T : Tab} {z : Int} {B : Nat} : ∀ v s t w w', Ext w w' → TabF T z B v s t w → TabF T z B v s t w' := fun _ _ _ _ _ hE ⟨u, vs, h1, h2, h3⟩ => ⟨u, vs, h1, h2.ext hE, h3⟩
def RowF (T : Tab) (B : Nat) (v : Value) (_ _ : Nat) (w : World) : Prop := ∃ vs, RwV w B v vs T none ∧ CapOK vs
theorem RowF.mono {T : Tab} {B : Nat} : ∀ v s t w w', Ext w w' → RowF T B v s t w → RowF T B v s t w' := fun _ _ _ _ _ hE ⟨vs, h2, h3⟩ => ⟨vs, h2.ext hE, h3⟩
/-- numbers that can be read, and an error -/
def RetN (l : List Int) (n : Int) (w : World) (e : Ending) (w' : World) : Prop := ∃ p c, e = .returned (.tuple #[.slice p l.length c, .int .i64 n]) ∧ IntsAt w' p l ∧ Ext w w'
noncomputable def numsA (C : Ch) (n : Int) : List Int := rowT (askT C (isTB C n)) n.toNat
noncomputable def errT (C : Ch) (n : Int) : Int := errC C (isTB C n)
noncomputable def errF (C : Ch) (n : Int) : Int := errC C (isFB C n)
theorem rowT_nil (i : Nat) : rowT [] i = [] := by simp [rowT]
noncomputable def rankLoA (C : Ch) (n : Int) : Int := okN (errT C n) (rkLo (tabC C) n.toNat : Nat)
noncomputable def rankHiA (C : Ch) (n : Int) : Int := okN (errT C n) (rkHi (tabC C) n.toNat : Nat)

set_option maxRecDepth 20000 in
set_option maxHeartbeats 3200000 in
theorem Numbers06 (C : Ch) (n : Int) (v : Value) (w : World) (hv : ChV w v C) (hs : ChSm C) (hT : TabW w) :
    Calls Tryd.prog 26 #[v, .int .i64 n] w (RetN (numsA C n) (errT C n) w) := by
  have HV := Lib.hid hv
  have HS := Lib.hid hs
  have HT := Lib.hid hT
  obtain ⟨p, c, q, d, rfl, hp, hq⟩ := hv
  clear hp hq hT hs
  go_enter Tryd.func26, Tryd.ntmps26
  go_upto_region 1 with (fail)
  obtain ⟨s0, hs0⟩ : ∃ s0, s0 = w.heap.size := ⟨_, rfl⟩
  obtain ⟨W, hW⟩ : ∃ W, W = w.alloc (.cells #[.slice p C.meters.length c, .slice q C.extra.length d, .int .i64 C.frm, .int .i64 C.tto] 25) := ⟨_, rfl⟩
  have m0 : W.heap[s0]? = some (.cells #[.slice p C.meters.length c, .slice q C.extra.length d, .int .i64 C.frm, .int .i64 C.tto] 25) := by rw [hs0, hW]; exact heap_new _ _
  have hE : Ext w W := by rw [hW]; exact Ext.alloc (Ext.refl _) _
  rw [← hs0, ← hW]
  have HKC := Lib.hid (fun y (h : Ext W y) => (⟨h.cell (cell_of_heap m0 0), h.cell (cell_of_heap m0 1), h.cell (cell_of_heap m0 2), h.cell (cell_of_heap m0 3)⟩ :
    y.cell? ⟨s0, 0, none⟩ = some (.slice p C.meters.length c) ∧ y.cell? ⟨s0, 1, none⟩ = some (.slice q C.extra.length d) ∧ y.cell? ⟨s0, 2, none⟩ = some (.int .i64 C.frm) ∧ y.cell? ⟨s0, 3, none⟩ = some (.int .i64 C.tto)))
  have HE := Lib.hid hE
  have HVW := Lib.hid (fun y (h : Ext W y) => HV.out.ext (HE.out.trans h))
  obtain ⟨b, hb⟩ : ∃ b, b = isTB C n := ⟨_, rfl⟩
  have HIS := Lib.hid (fun y (h : Ext W y) => (show Calls Tryd.prog 28 #[.agg #[.slice p C.meters.length c, .slice q C.extra.length d, .int .i64 C.frm, .int .i64 C.tto], .int .i64 n] y (RetE (.bool b) y) from by rw [hb]; exact isTitle06 C n _ y (HVW.out y h)))
  have HB := Lib.hid hb
  clear hb
  clear hW m0 hE hs0
  obtain ⟨T, hTT⟩ : ∃ T, T = askT C b := ⟨_, rfl⟩
  obtain ⟨z, hz⟩ : ∃ z, z = errC C b := ⟨_, rfl⟩
  have HAK := Lib.hid (fun y (h : Ext W y) => (show Calls Tryd.prog 27 #[.agg #[.slice p C.meters.length c, .slice q C.extra.length d, .int .i64 C.frm, .int .i64 C.tto], .bool b] y (RetTb T z y) from by rw [hTT, hz]; exact ask06 C b _ y (HV.out.ext (HE.out.trans h)) HS.out (HT.out.ext (HE.out.trans h))))
  have HTZ := Lib.hid (⟨hTT, hz⟩ : T = askT C b ∧ z = errC C b)
  clear hTT hz
  refine wp_region_facts 9 [[], [], [], [1, 2], [0, 3], [4], [5], [5], [6]] [8, 7] Ext (FL [Is (.agg #[.slice p C.meters.length c, .slice q C.extra.length d, .int .i64 C.frm, .int .i64 C.tto]), Is (.agg #[.slice p C.meters.length c, .slice q C.extra.length d, .int .i64 C.frm, .int .i64 C.tto]), Is (.int .i64 n), Is (.bool b), TabF T z W.heap.size, TabF T z W.heap.size, RowF T W.heap.size, Is (.int .i64 z), RowF T W.heap.size]) (by kernel_rfl) (by kernel_rfl) Ext.refl (fun _ _ _ => Ext.trans) (fun _ _ => Ext.size) (FL.mono ⟨Is.mono, Is.mono, Is.mono, Is.mono, TabF.mono, TabF.mono, RowF.mono, Is.mono, RowF.mono, trivial⟩) ⟨?_, ?_, ?_, ?_, ?_, ?_, ?_, ?_, ?_, trivial⟩ ?_
  · refine opF_step ?_
    intro ys l0 h0 w' hr hf K hK
    clear hf
    obtain ⟨j0, j1, j2, j3⟩ := HKC.out w' ((Ext.refl W).drew.trans hr)
    simp only [fill, Act.put, dstO, List.take_succ_cons, List.take_zero, List.setIfInBounds_toArray, List.set_cons_zero, List.set_cons_succ, List.getElem?_cons_zero, Nat.zero_add, Nat.reduceAdd] at hK ⊢
    refine OpB.mk' ?_
    go_simp
    exact hK.out _ _ rfl (Ext.refl _)
  · refine opF_step ?_
    intro ys l0 h0 w' hr hf K hK
    clear hf
    obtain ⟨j0, j1, j2, j3⟩ := HKC.out w' ((Ext.refl W).drew.trans hr)
    simp only [fill, Act.put, dstO, List.take_succ_cons, List.take_zero, List.setIfInBounds_toArray, List.set_cons_zero, List.set_cons_succ, List.getElem?_cons_zero, List.getElem?_cons_succ, Nat.zero_add, Nat.reduceAdd] at hK ⊢
    refine OpB.mk' ?_
    go_simp
    exact hK.out _ _ rfl (Ext.refl _)
  · refine opF_step ?_
    intro ys l0 h0 w' hr hf K hK
    clear hf
    simp only [fill, Act.put, dstO, List.take_succ_cons, List.take_zero, List.setIfInBounds_toArray, List.set_cons_zero, List.set_cons_succ, List.getElem?_cons_zero, List.getElem?_cons_succ, Nat.zero_add, Nat.reduceAdd] at hK ⊢
    refine OpB.mk' ?_
    go_simp
    exact hK.out _ _ rfl (Ext.refl _)
  · refine opF_step ?_
    intro ys l0 h0 w' hr hf K hK
    obtain ⟨f0, f1, -⟩ := hf
    have e0 : ys 1 = _ := f0
    have e1 : ys 2 = _ := f1
    simp only [fill, Act.put, dstO, List.take_succ_cons, List.take_zero, List.setIfInBounds_toArray, List.set_cons_zero, List.set_cons_succ, List.getElem?_cons_zero, List.getElem?_cons_succ, Nat.zero_add, Nat.reduceAdd] at hK ⊢
    simp only [e0, e1] at hK ⊢
    clear e0 e1 f0 f1
    refine OpB.mk' ?_
    go_simp
    refine (HIS.out w' ((Ext.refl W).drew.trans hr)).mono ?_
    rintro e w2 ⟨rfl, hE2⟩
    exact hK.out _ _ rfl hE2
  · refine opF_step ?_
    intro ys l0 h0 w' hr hf K hK
    obtain ⟨f0, f1, -⟩ := hf
    have e0 : ys 0 = _ := f0
    have e1 : ys 3 = _ := f1
    simp only [fill, Act.put, dstO, List.take_succ_cons, List.take_zero, List.setIfInBounds_toArray, List.set_cons_zero, List.set_cons_succ, List.getElem?_cons_zero, List.getElem?_cons_succ, Nat.zero_add, Nat.reduceAdd] at hK ⊢
    simp only [e0, e1] at hK ⊢
    clear e0 e1 f0 f1
    refine OpB.mk' ?_
    go_simp
    refine (HAK.out w' ((Ext.refl W).drew.trans hr)).mono ?_
    rintro e w2 ⟨u, vs, rfl, hR, hE2, hcp⟩
    exact hK.out _ _ ⟨u, vs, rfl, hR.base (Ext.size ((Ext.refl W).drew.trans hr)), hcp⟩ hE2
  · refine opF_step ?_
    intro ys l0 h0 w' hr hf K hK
    obtain ⟨f0, -⟩ := hf
    obtain ⟨u, vs, e0, hR, hcp⟩ := f0
    simp only [fill, Act.put, dstO, List.take_succ_cons, List.take_zero, List.setIfInBounds_toArray, List.set_cons_zero, List.set_cons_succ, List.getElem?_cons_zero, List.getElem?_cons_succ, Nat.zero_add, Nat.reduceAdd] at hK ⊢
    simp only [e0] at hK ⊢
    clear e0
    refine OpB.mk' ?_
    go_simp
    exact hK.out _ _ ⟨u, vs, rfl, hR, hcp⟩ (Ext.refl _)
  · refine opF_step ?_
    intro ys l0 h0 w' hr hf K hK
    obtain ⟨f0, -⟩ := hf
    obtain ⟨u, vs, e0, hR, hcp⟩ := f0
    simp only [fill, Act.put, dstO, List.take_succ_cons, List.take_zero, List.setIfInBounds_toArray, List.set_cons_zero, List.set_cons_succ, List.getElem?_cons_zero, List.getElem?_cons_succ, Nat.zero_add, Nat.reduceAdd] at hK ⊢
    simp only [e0] at hK ⊢
    clear e0
    refine OpB.mk' ?_
    go_simp
    exact hK.out _ _ ⟨vs, hR, hcp⟩ (Ext.refl _)
  · refine opF_step ?_
    intro ys l0 h0 w' hr hf K hK
    obtain ⟨f0, -⟩ := hf
    obtain ⟨u, vs, e0, hR, hcp⟩ := f0
    simp only [fill, Act.put, dstO, List.take_succ_cons, List.take_zero, List.setIfInBounds_toArray, List.set_cons_zero, List.set_cons_succ, List.getElem?_cons_zero, List.getElem?_cons_succ, Nat.zero_add, Nat.reduceAdd] at hK ⊢
    simp only [e0] at hK ⊢
    clear e0
    refine OpB.mk' ?_
    go_simp
    exact hK.out _ _ rfl (Ext.refl _)
  · refine opF_step ?_
    intro ys l0 h0 w' hr hf K hK
    obtain ⟨f0, -⟩ := hf
    simp only [fill, Act.put, dstO, List.take_succ_cons, List.take_zero, List.setIfInBounds_toArray, List.set_cons_zero, List.set_cons_succ, List.getElem?_cons_zero, List.getElem?_cons_succ, Nat.zero_add, Nat.reduceAdd] at hK ⊢
    refine OpB.mk' ?_
    go_simp
    exact hK.out _ _ f0 (Ext.refl _)
  intro ys l0 h0 w2 hr hf hsp
  obtain ⟨f8, f7, -⟩ := hf
  obtain ⟨vs, hR, hcp⟩ := f8
  have e7 : ys 7 = _ := f7
  simp only [fill, Act.put, List.take_succ_cons, List.take_zero, List.setIfInBounds_toArray, List.set_cons_zero, List.set_cons_succ, Nat.zero_add, Nat.reduceAdd, List.drop_succ_cons, List.drop_zero]
  rw [e7]
  clear e7 f7
  generalize ys 8 = u at hR ⊢
  clear hsp
  have hEW : Ext W w2 := (Ext.refl W).drew.trans hr
  have HR := Lib.hid hR
  have HCP := Lib.hid hcp
  have HEW := Lib.hid hEW
  obtain ⟨qt, ct, rfl, hLT⟩ := hR.lists
  have HLT := Lib.hid hLT
  clear hr hEW hR hcp hLT HAK
  by_cases hz0 : z = 0
  case neg =>
    have hg : (z == 0) = false := by simpa using hz0
    have HNA := Lib.hid (show numsA C n = [] from by unfold numsA; rw [← HB.out, askT_ne (by rw [← HTZ.out.2]; exact hz0)]; exact rowT_nil _)
    have HZ := Lib.hid (show errT C n = z from by unfold errT; rw [← HB.out, HTZ.out.2])
    clear hz0
    go_wp2
    go_ret2
    exact ⟨none, 0, by rw [HNA.out, HZ.out]; rfl, by rw [HNA.out]; exact IntsAt.nil _ _, HE.out.trans HEW.out⟩
  subst hz0
  obtain ⟨hC, hbt, hso⟩ := errC_0 HTZ.out.2.symm
  have hTC : T = tabC C := by rw [HTZ.out.1, askT_0 HTZ.out.2.symm]
  have htl : T.length = C.meters.length := by rw [hTC, tabC_len]
  obtain ⟨h0, h1⟩ := isTB_iff.1 (HB.out.symm.trans hbt)
  obtain ⟨i, rfl⟩ : ∃ i : Nat, n = i := ⟨n.toNat, by omega⟩
  have hi : i < T.length := by omega
  have HNA := Lib.hid (show numsA C i = rowT T i from by unfold numsA; rw [← HB.out, ← HTZ.out.1, Int.toNat_natCast])
  have HZ := Lib.hid (show errT C i = 0 from by unfold errT; rw [← HB.out, ← HTZ.out.2])
  obtain ⟨bb, oo, qq, cc, rfl, c1, c2⟩ := HLT.out.row hi
  have hlt : (i : Int) < (T.length : Int) := by omega
  have HC2 := Lib.hid c2
  obtain ⟨ln, hln⟩ : ∃ ln, ln = (rowT T i).length := ⟨_, rfl⟩
  rw [← hln] at c1
  have HLN := Lib.hid hln
  clear hC hbt hso hTC htl h0 h1 c2 hln
  go_wp2
  go_ret2
  exact ⟨qq, cc, by rw [HNA.out, HZ.out, ← HLN.out]; rfl, by rw [HNA.out]; exact HC2.out, HE.out.trans HEW.out⟩

theorem rankEndA06 {w W : World} {s : Nat} {a : Act} {lo hi z lo' hi' z' : Int} {x y : Value} {t : TypeId} (hk : lo' = lo ∧ hi' = hi ∧ z' = z) (hE : Ext w W)
    (hm : W.heap[s]? = some (.cells #[x, y] t)) (hs : w.heap.size ≤ s) (ha : a.tmps[4]? = some (.pointer (some ⟨s, 0, none⟩))) (hb : a.tmps[5]? = some (.int .i64 z)) (hd : a.defers = []) :
    bodyPost Tryd.prog Tryd.f10 (RetSp lo' hi' z' w) .ret a ((W.setCell ⟨s, 0, none⟩ (.int .i64 lo)).setCell ⟨s, 1, none⟩ (.int .i64 hi)) := by
  have h := heap_pair (y0 := .int .i64 lo) (y1 := .int .i64 hi) hm
  have c0 := cell_of_heap h 0
  have c1 := cell_of_heap h 1
  simp at c0 c1
  refine bodyPost_ret (v := .tuple #[.agg #[.int .i64 lo, .int .i64 hi], .int .i64 z]) ?_ hd ⟨by rw [hk.1, hk.2.1, hk.2.2], Ext.setCell (Ext.setCell hE (p := ⟨s, 0, none⟩) hs _) (p := ⟨s, 1, none⟩) hs _⟩
  cases a with
  | mk tm df =>
    simp only at ha hb
    simp [results, Tryd.results10, go_sem, ha, hb, c0, c1]

set_option maxRecDepth 20000 in
set_option maxHeartbeats 3200000 in
theorem Rank06 (C : Ch) (n : Int) (v : Value) (w : World) (hv : ChV w v C) (hs : ChSm C) (hT : TabW w) :
    Calls Tryd.prog 10 #[v, .int .i64 n] w (RetSp (rankLoA C n) (rankHiA C n) (errT C n) w) := by
  have HV := Lib.hid hv
  have HS := Lib.hid hs
  have HT := Lib.hid hT
  obtain ⟨p, c, q, d, rfl, hp, hq⟩ := hv
  clear hp hq hT hs
  go_enter Tryd.func10, Tryd.ntmps10
  go_upto_region 1 with (fail)
  obtain ⟨s0, hs0⟩ : ∃ s0, s0 = w.heap.size := ⟨_, rfl⟩
  obtain ⟨W, hW⟩ : ∃ W, W = (w.alloc (.cells #[.slice p C.meters.length c, .slice q C.extra.length d, .int .i64 C.frm, .int .i64 C.tto] 25)).alloc (.cells #[.int .i64 0, .int .i64 0] 32) := ⟨_, rfl⟩
  have m0 : W.heap[s0]? = some (.cells #[.slice p C.meters.length c, .slice q C.extra.length d, .int .i64 C.frm, .int .i64 C.tto] 25) := by rw [hs0, hW, Below.heap_alloc _ _ _ (by rw [size_alloc]; omega)]; exact heap_new _ _
  have m1 : W.heap[s0 + 1]? = some (.cells #[.int .i64 0, .int .i64 0] 32) := by rw [hs0, hW]; exact heap_new2 _ _ _
  have HM1 := Lib.hid m1
  have HSZ := Lib.hid (show w.heap.size ≤ s0 + 1 from by omega)
  have hE : Ext w W := by rw [hW]; exact Ext.alloc (Ext.alloc (Ext.refl _) _) _
  rw [← hs0, ← hW]
  have HKC := Lib.hid (fun y (h : Ext W y) => (⟨h.cell (cell_of_heap m0 0), h.cell (cell_of_heap m0 1), h.cell (cell_of_heap m0 2), h.cell (cell_of_heap m0 3)⟩ :
    y.cell? ⟨s0, 0, none⟩ = some (.slice p C.meters.length c) ∧ y.cell? ⟨s0, 1, none⟩ = some (.slice q C.extra.length d) ∧ y.cell? ⟨s0, 2, none⟩ = some (.int .i64 C.frm) ∧ y.cell? ⟨s0, 3, none⟩ = some (.int .i64 C.tto)))
  have HE := Lib.hid hE
  have HVW := Lib.hid (fun y (h : Ext W y) => HV.out.ext (HE.out.trans h))
  obtain ⟨b, hb⟩ : ∃ b, b = isTB C n := ⟨_, rfl⟩
  have HIS := Lib.hid (fun y (h : Ext W y) => (show Calls Tryd.prog 28 #[.agg #[.slice p C.meters.length c, .slice q C.extra.length d, .int .i64 C.frm, .int .i64 C.tto], .int .i64 n] y (RetE (.bool b) y) from by rw [hb]; exact isTitle06 C n _ y (HVW.out y h)))
  have HB := Lib.hid hb
  clear hb
  clear hW m0 m1 hE hs0
  obtain ⟨T, hTT⟩ : ∃ T, T = askT C b := ⟨_, rfl⟩
  obtain ⟨z, hz⟩ : ∃ z, z = errC C b := ⟨_, rfl⟩
  have HAK := Lib.hid (fun y (h : Ext W y) => (show Calls Tryd.prog 27 #[.agg #[.slice p C.meters.length c, .slice q C.extra.length d, .int .i64 C.frm, .int .i64 C.tto], .bool b] y (RetTb T z y) from by rw [hTT, hz]; exact ask06 C b _ y (HV.out.ext (HE.out.trans h)) HS.out (HT.out.ext (HE.out.trans h))))
  have HTZ := Lib.hid (⟨hTT, hz⟩ : T = askT C b ∧ z = errC C b)
  clear hTT hz
  refine wp_region_facts 9 [[], [], [], [1, 2], [0, 3], [4], [5], [5], [6]] [8, 7] Ext (FL [Is (.agg #[.slice p C.meters.length c, .slice q C.extra.length d, .int .i64 C.frm, .int .i64 C.tto]), Is (.agg #[.slice p C.meters.length c, .slice q C.extra.length d, .int .i64 C.frm, .int .i64 C.tto]), Is (.int .i64 n), Is (.bool b), TabF T z W.heap.size, TabF T z W.heap.size, RowF T W.heap.size, Is (.int .i64 z), RowF T W.heap.size]) (by kernel_rfl) (by kernel_rfl) Ext.refl (fun _ _ _ => Ext.trans) (fun _ _ => Ext.size) (FL.mono ⟨Is.mono, Is.mono, Is.mono, Is.mono, TabF.mono, TabF.mono, RowF.mono, Is.mono, RowF.mono, trivial⟩) ⟨?_, ?_, ?_, ?_, ?_, ?_, ?_, ?_, ?_, trivial⟩ ?_
  · refine opF_step ?_
    intro ys l0 h0 w' hr hf K hK
    clear hf
    obtain ⟨j0, j1, j2, j3⟩ := HKC.out w' ((Ext.refl W).drew.trans hr)
    simp only [fill, Act.put, dstO, List.take_succ_cons, List.take_zero, List.setIfInBounds_toArray, List.set_cons_zero, List.set_cons_succ, List.getElem?_cons_zero, Nat.zero_add, Nat.reduceAdd] at hK ⊢
    refine OpB.mk' ?_
    go_simp
    exact hK.out _ _ rfl (Ext.refl _)
  · refine opF_step ?_
    intro ys l0 h0 w' hr hf K hK
    clear hf
    obtain ⟨j0, j1, j2, j3⟩ := HKC.out w' ((Ext.refl W).drew.trans hr)
    simp only [fill, Act.put, dstO, List.take_succ_cons, List.take_zero, List.setIfInBounds_toArray, List.set_cons_zero, List.set_cons_succ, List.getElem?_cons_zero, List.getElem?_cons_succ, Nat.zero_add, Nat.reduceAdd] at hK ⊢
    refine OpB.mk' ?_
    go_simp
    exact hK.out _ _ rfl (Ext.refl _)
  · refine opF_step ?_
    intro ys l0 h0 w' hr hf K hK
    clear hf
    simp only [fill, Act.put, dstO, List.take_succ_cons, List.take_zero, List.setIfInBounds_toArray, List.set_cons_zero, List.set_cons_succ, List.getElem?_cons_zero, List.getElem?_cons_succ, Nat.zero_add, Nat.reduceAdd] at hK ⊢
    refine OpB.mk' ?_
    go_simp
    exact hK.out _ _ rfl (Ext.refl _)
  · refine opF_step ?_
    intro ys l0 h0 w' hr hf K hK
    obtain ⟨f0, f1, -⟩ := hf
    have e0 : ys 1 = _ := f0
    have e1 : ys 2 = _ := f1
    simp only [fill, Act.put, dstO, List.take_succ_cons, List.take_zero, List.setIfInBounds_toArray, List.set_cons_zero, List.set_cons_succ, List.getElem?_cons_zero, List.getElem?_cons_succ, Nat.zero_add, Nat.reduceAdd] at hK ⊢
    simp only [e0, e1] at hK ⊢
    clear e0 e1 f0 f1
    refine OpB.mk' ?_
    go_simp
    refine (HIS.out w' ((Ext.refl W).drew.trans hr)).mono ?_
    rintro e w2 ⟨rfl, hE2⟩
    exact hK.out _ _ rfl hE2
  · refine opF_step ?_
    intro ys l0 h0 w' hr hf K hK
    obtain ⟨f0, f1, -⟩ := hf
    have e0 : ys 0 = _ := f0
    have e1 : ys 3 = _ := f1
    simp only [fill, Act.put, dstO, List.take_succ_cons, List.take_zero, List.setIfInBounds_toArray, List.set_cons_zero, List.set_cons_succ, List.getElem?_cons_zero, List.getElem?_cons_succ, Nat.zero_add, Nat.reduceAdd] at hK ⊢
    simp only [e0, e1] at hK ⊢
    clear e0 e1 f0 f1
    refine OpB.mk' ?_
    go_simp
    refine (HAK.out w' ((Ext.refl W).drew.trans hr)).mono ?_
    rintro e w2 ⟨u, vs, rfl, hR, hE2, hcp⟩
    exact hK.out _ _ ⟨u, vs, rfl, hR.base (Ext.size ((Ext.refl W).drew.trans hr)), hcp⟩ hE2
  · refine opF_step ?_
    intro ys l0 h0 w' hr hf K hK
    obtain ⟨f0, -⟩ := hf
    obtain ⟨u, vs, e0, hR, hcp⟩ := f0
    simp only [fill, Act.put, dstO, List.take_succ_cons, List.take_zero, List.setIfInBounds_toArray, List.set_cons_zero, List.set_cons_succ, List.getElem?_cons_zero, List.getElem?_cons_succ, Nat.zero_add, Nat.reduceAdd] at hK ⊢
    simp only [e0] at hK ⊢
    clear e0
    refine OpB.mk' ?_
    go_simp
    exact hK.out _ _ ⟨u, vs, rfl, hR, hcp⟩ (Ext.refl _)
  · refine opF_step ?_
    intro ys l0 h0 w' hr hf K hK
    obtain ⟨f0, -⟩ := hf
    obtain ⟨u, vs, e0, hR, hcp⟩ := f0
    simp only [fill, Act.put, dstO, List.take_succ_cons, List.take_zero, List.setIfInBounds_toArray, List.set_cons_zero, List.set_cons_succ, List.getElem?_cons_zero, List.getElem?_cons_succ, Nat.zero_add, Nat.reduceAdd] at hK ⊢
    simp only [e0] at hK ⊢
    clear e0
    refine OpB.mk' ?_
    go_simp
    exact hK.out _ _ ⟨vs, hR, hcp⟩ (Ext.refl _)
  · refine opF_step ?_
    intro ys l0 h0 w' hr hf K hK
    obtain ⟨f0, -⟩ := hf
    obtain ⟨u, vs, e0, hR, hcp⟩ := f0
    simp only [fill, Act.put, dstO, List.take_succ_cons, List.take_zero, List.setIfInBounds_toArray, List.set_cons_zero, List.set_cons_succ, List.getElem?_cons_zero, List.getElem?_cons_succ, Nat.zero_add, Nat.reduceAdd] at hK ⊢
    simp only [e0] at hK ⊢
    clear e0
    refine OpB.mk' ?_
    go_simp
    exact hK.out _ _ rfl (Ext.refl _)
  · refine opF_step ?_
    intro ys l0 h0 w' hr hf K hK
    obtain ⟨f0, -⟩ := hf
    simp only [fill, Act.put, dstO, List.take_succ_cons, List.take_zero, List.setIfInBounds_toArray, List.set_cons_zero, List.set_cons_succ, List.getElem?_cons_zero, List.getElem?_cons_succ, Nat.zero_add, Nat.reduceAdd] at hK ⊢
    refine OpB.mk' ?_
    go_simp
    exact hK.out _ _ f0 (Ext.refl _)
  intro ys l0 h0 w2 hr hf hsp
  obtain ⟨f8, f7, -⟩ := hf
  obtain ⟨vs, hR, hcp⟩ := f8
  have e7 : ys 7 = _ := f7
  simp only [fill, Act.put, List.take_succ_cons, List.take_zero, List.setIfInBounds_toArray, List.set_cons_zero, List.set_cons_succ, Nat.zero_add, Nat.reduceAdd, List.drop_succ_cons, List.drop_zero]
  rw [e7]
  clear e7 f7
  generalize ys 8 = u at hR ⊢
  clear hsp
  have hEW : Ext W w2 := (Ext.refl W).drew.trans hr
  have HR := Lib.hid hR
  have HCP := Lib.hid hcp
  have HEW := Lib.hid hEW
  obtain ⟨qt, ct, rfl, hLT⟩ := hR.lists
  have HLT := Lib.hid hLT
  clear hr hEW hR hcp hLT HAK
  by_cases hz0 : z = 0
  case neg =>
    have hg : (z == 0) = false := by simpa using hz0
    have HZ := Lib.hid (show errT C n = z from by unfold errT; rw [← HB.out, HTZ.out.2])
    have HNA := Lib.hid (show rankLoA C n = 0 ∧ rankHiA C n = 0 from ⟨by unfold rankLoA; rw [HZ.out, okN_ne hz0], by unfold rankHiA; rw [HZ.out, okN_ne hz0]⟩)
    clear hz0
    have hm := heap_ext3 HM1.out HEW.out
    have d0 := cell_of_heap hm 0
    have d1 := cell_of_heap hm 1
    have g0 := cell_frozen hm 0
    have g1 := cell_frozen hm 1
    have HMW := Lib.hid hm
    clear hm
    go_wp2
    refine rankEndA06 ⟨HNA.out.1, HNA.out.2, HZ.out⟩ (HE.out.trans HEW.out) HMW.out HSZ.out ?_ ?_ ?_ <;> rfl
  subst hz0
  obtain ⟨hC, hbt, hso⟩ := errC_0 HTZ.out.2.symm
  have hTC : T = tabC C := by rw [HTZ.out.1, askT_0 HTZ.out.2.symm]
  have htl : T.length = C.meters.length := by rw [hTC, tabC_len]
  obtain ⟨h0, h1⟩ := isTB_iff.1 (HB.out.symm.trans hbt)
  obtain ⟨i, rfl⟩ : ∃ i : Nat, n = i := ⟨n.toNat, by omega⟩
  have hi : i < T.length := by omega
  have hG : TabG T := by rw [hTC]; exact tabC_ok hC hso
  have HZ := Lib.hid (show errT C i = 0 from by unfold errT; rw [← HB.out, ← HTZ.out.2])
  have HNA := Lib.hid (show rankLoA C i = (rkLo T i : Nat) ∧ rankHiA C i = (rkHi T i : Nat) from ⟨by unfold rankLoA; rw [HZ.out, okN_0 rfl, hTC]; rfl, by unfold rankHiA; rw [HZ.out, okN_0 rfl, hTC]; rfl⟩)
  have HRK := Lib.hid (rank06 T hG.ok i hi hG.ls (by have := hG.len; omega) qt ct w2 HLT.out)
  unfold rkV at HRK
  obtain ⟨x1, hx1⟩ : ∃ x : Nat, x = rkLo T i := ⟨_, rfl⟩
  obtain ⟨x2, hx2⟩ : ∃ x : Nat, x = rkHi T i := ⟨_, rfl⟩
  rw [← hx1, ← hx2] at HRK HNA
  clear hC hbt hso hTC htl h0 h1 hi hG hx1 hx2
  go_wp2_with (go_at_call 29; refine HRK.out.mono ?_; rintro e w3 ⟨rfl, hE3⟩; have hm := heap_ext3 HM1.out (HEW.out.trans hE3); have d0 := cell_of_heap hm 0; have d1 := cell_of_heap hm 1; have g0 := cell_frozen hm 0; have g1 := cell_frozen hm 1)
  refine rankEndA06 ⟨HNA.out.1, HNA.out.2, HZ.out⟩ (HE.out.trans (HEW.out.trans hE3)) hm HSZ.out ?_ ?_ ?_ <;> rfl
end Go.Proofs.YtaoamnhchidjfaaDoor
