/- The walk of WearPrices. -/
import Derived.Test.YtkcilgjkdiopnaaPr3
import Derived.Test.YtkcilgjkdiopnaaFct
import Derived.Test.YtkcilgjkdiopnaaWWks
namespace Go.Proofs.Ytkcilgjkdiopnaa
open Go.RowKit

/-- a copy of a box in memory of its own -/
def CpF (X : Wr) (v : Value) (lo hi : Nat) (w : World) : Prop := ∃ w2, w2.heap.size = hi ∧ BoxOwn (lo + 3) w2 v X ∧ Ext w2 w
theorem CpF.mono {X : Wr} : ∀ v s t w w', Ext w w' → CpF X v s t w → CpF X v s t w' := fun _ _ _ _ _ hE ⟨w2, h1, h2, h3⟩ => ⟨w2, h1, h2, h3.trans hE⟩
/-- a new block -/
def NewF (o : Obj) (v : Value) (lo hi : Nat) (w : World) : Prop := v = .pointer (some ⟨lo, 0, none⟩) ∧ lo < hi ∧ w.heap[lo]? = some o
theorem NewF.mono {o : Obj} : ∀ v s t w w', Ext w w' → NewF o v s t w → NewF o v s t w' := fun _ _ _ _ _ hE ⟨h1, h2, h3⟩ => ⟨h1, h2, heap_ext h3 hE⟩
def zeroW : Obj := .cells #[.int .i64 0, .int .i64 0, .int .i64 0, .int .i64 0, .slice none 0 0, .slice none 0 0] 25

set_option maxRecDepth 20000 in
set_option maxHeartbeats 8000000 in
theorem WearPrices03 (v : Value) (X : Wr) (more k : Int) (w : World) (hv : WrV w v X) (hM : BigW X) :
    Calls Try.prog 6 #[v, .int .i64 more, .int .i64 k] w (RetE (.bool true) w) := by
  have HV := Lib.hid hv
  have HB := Lib.hid hM
  obtain ⟨p, c, q, d, rfl, h1, h2⟩ := hv
  clear hM h1 h2
  go_enter Try.func6, Try.ntmps6
  go_upto_region 1 with (fail)
  have hg0 := heap_new w (.cells (wrCells X p c q d) 25)
  unfold wrCells at hg0
  obtain ⟨W, hW⟩ : ∃ W, W = w.alloc (.cells #[.int .i64 X.weeks, .int .i64 X.price, .int .i64 X.age, .int .i64 X.step, .slice p X.rough.length c, .slice q X.recs.length d] 25) := ⟨_, rfl⟩
  have hE : Ext w W := by rw [hW]; exact Ext.alloc (Ext.refl w) _
  rw [← hW] at hg0 ⊢
  have q0 := ExtW.cell (v := .int .i64 X.weeks) (cell_of_heap hg0 0)
  have q1 := ExtW.cell (v := .int .i64 X.price) (cell_of_heap hg0 1)
  have q2 := ExtW.cell (v := .int .i64 X.age) (cell_of_heap hg0 2)
  have q3 := ExtW.cell (v := .int .i64 X.step) (cell_of_heap hg0 3)
  have q4 := ExtW.cell (v := .slice p X.rough.length c) (cell_of_heap hg0 4)
  have q5 := ExtW.cell (v := .slice q X.recs.length d) (cell_of_heap hg0 5)
  have HWK := Lib.hid (fun x : ExtW W => ExtW.call (works03 x.w))
  have HR := fun x : ExtW W => ready03 _ X x.w (WrV.mono _ _ _ _ (hE.trans x.h) HV.out) HB.out
  obtain ⟨x0, hx0⟩ := ExtW.of (Ext.refl W)
  clear hW hg0
  conv => arg 5; rw [hx0]
  clear hx0
  by_cases hR : ReadyW X
  case neg =>
    have HR2 := Lib.hid (fun x : ExtW W => ExtW.call (RetE.bf hR (HR x)))
    clear HR hR
    go_wp2_with (first | (go_at_call 32; refine (HR2.out _).mono ?_; rintro e w' ⟨rfl, x1, rfl⟩) | (go_at_call 16; refine (HWK.out _).mono ?_; rintro e w' ⟨rfl, x2, rfl⟩))
    go_ret
    exact RetE.fin (hE.trans x2.h) rfl
  have HR2 := Lib.hid (fun x : ExtW W => ExtW.call (RetE.bt hR (HR x)))
  have HRD := Lib.hid hR
  clear HR hR
  by_cases g1 : more < 0
  · go_wp2_with (first | (go_at_call 32; refine (HR2.out _).mono ?_; rintro e w' ⟨rfl, x1, rfl⟩) | (go_at_call 16; refine (HWK.out _).mono ?_; rintro e w' ⟨rfl, x2, rfl⟩))
    go_ret
    exact RetE.fin (hE.trans x2.h) rfl
  by_cases g2 : 999 < more
  · go_wp2_with (first | (go_at_call 32; refine (HR2.out _).mono ?_; rintro e w' ⟨rfl, x1, rfl⟩) | (go_at_call 16; refine (HWK.out _).mono ?_; rintro e w' ⟨rfl, x2, rfl⟩))
    go_ret
    exact RetE.fin (hE.trans x2.h) rfl
  by_cases g3 : k < 0
  · go_wp2_with (first | (go_at_call 32; refine (HR2.out _).mono ?_; rintro e w' ⟨rfl, x1, rfl⟩) | (go_at_call 16; refine (HWK.out _).mono ?_; rintro e w' ⟨rfl, x2, rfl⟩))
    go_ret
    exact RetE.fin (hE.trans x2.h) rfl
  by_cases g4 : 20 < k
  · go_wp2_with (first | (go_at_call 32; refine (HR2.out _).mono ?_; rintro e w' ⟨rfl, x1, rfl⟩) | (go_at_call 16; refine (HWK.out _).mono ?_; rintro e w' ⟨rfl, x2, rfl⟩))
    go_ret
    exact RetE.fin (hE.trans x2.h) rfl
  obtain ⟨cm, ce, ca, hc1, hc2, hc3, he, b0, b1, b2, b3, b4⟩ := prices_law HRD.out.1 (more := more) (k := k) (by omega) (by omega) (by omega)
  have HA1 := Lib.hid (fun x : ExtW W => ExtW.call (Cheapest03 _ X x.w (WrV.mono _ _ _ _ (hE.trans x.h) HV.out) HRD.out.1 (modest_valid HRD.out.1)))
  rw [hc1] at HA1
  have HC2 := Lib.hid hc2
  have HC3 := Lib.hid hc3
  have HEE := Lib.hid he
  have HB2 := Lib.hid b2
  have HB3 := Lib.hid b3
  have HB4 := Lib.hid b4
  have hi0 : ¬cm < 0 := by omega
  have hi1 : ¬1048576 < cm := by omega
  have HKE := Lib.hid (fun x : ExtW W => ExtW.call (isKnown03 ce he x.w))
  clear hc1 hc2 hc3 he b0 b1 b2 b3 b4
  go_upto_region 6 with (first
    | (go_at_call 32; refine (HR2.out _).mono ?_; rintro e w' ⟨rfl, x1, rfl⟩)
    | (go_at_call 36; refine (HA1.out _).mono ?_; rintro e w' ⟨rfl, x2, rfl⟩)
    | (go_at_call 37; refine (HKE.out _).mono ?_; rintro e w' ⟨rfl, x3, rfl⟩))
  have hm1 : X.rough.length ≤ 1000 := by have := HRD.out.1.rough; omega
  have hm2 : X.recs.length ≤ 1000 := by have := HRD.out.1.recs; omega
  have HM3 := Lib.hid (show ∀ r ∈ X.recs, r.plays.length ≤ 1000 from fun r hr => by
    obtain ⟨i, hi, rfl⟩ := List.mem_iff_getElem.1 hr
    have := (HRD.out.1.rc i hi).len; have := HRD.out.1.weeks; omega)
  have hE3w := hE.trans x3.h
  have r0 := q0 x3
  have r1 := q1 x3
  have r2 := q2 x3
  have r3 := q3 x3
  have r4 := q4 x3
  have r5 := q5 x3
  have HCP := Lib.hid (fun y (h : Ext x3.w y) => Copy03 _ X y (WrV.mono _ _ _ _ (hE3w.trans h) HV.out) hm1 hm2 HM3.out)
  have HS := Lib.hid (fun y (h : Ext x3.w y) => (⟨h.cell r0, h.cell r1, h.cell r2, h.cell r3, h.cell r4, h.cell r5⟩ :
    y.cell? ⟨w.heap.size, 0, none⟩ = some (.int .i64 X.weeks) ∧ y.cell? ⟨w.heap.size, 1, none⟩ = some (.int .i64 X.price) ∧ y.cell? ⟨w.heap.size, 2, none⟩ = some (.int .i64 X.age) ∧ y.cell? ⟨w.heap.size, 3, none⟩ = some (.int .i64 X.step) ∧
    y.cell? ⟨w.heap.size, 4, none⟩ = some (.slice p X.rough.length c) ∧ y.cell? ⟨w.heap.size, 5, none⟩ = some (.slice q X.recs.length d)))
  have HE3 := Lib.hid hE3w
  have hlt3 : w.heap.size < x3.w.heap.size := lt_of_cell r0
  clear q0 q1 q2 q3 q4 q5 r0 r1 r2 r3 r4 r5 hE hE3w HR2 HA1 HKE x0 x1 x2
  obtain ⟨W3, hW3⟩ : ∃ W3, W3 = x3.w := ⟨_, rfl⟩
  rw [← hW3] at HCP HS HE3 hlt3 ⊢
  clear hW3 HWK x3
  refine wp_region_facts 6 [[], [0], [], [2], [], []] [1, 3, 4, 5] Ext (FL [Is (.agg #[.int .i64 X.weeks, .int .i64 X.price, .int .i64 X.age, .int .i64 X.step, .slice p X.rough.length c, .slice q X.recs.length d]), CpF X, Is (.agg #[.int .i64 X.weeks, .int .i64 X.price, .int .i64 X.age, .int .i64 X.step, .slice p X.rough.length c, .slice q X.recs.length d]), CpF X, NewF zeroW, NewF zeroW]) (by kernel_rfl) (by kernel_rfl)
    Ext.refl (fun _ _ _ => Ext.trans) (fun _ _ => Ext.size) (FL.mono ⟨Is.mono, CpF.mono, Is.mono, CpF.mono, NewF.mono, NewF.mono, trivial⟩) ⟨?_, ?_, ?_, ?_, ?_, ?_, trivial⟩ ?_
  · refine opF_step ?_
    intro ys lo hi w' hr hf K hK
    obtain ⟨s0, s1, s2, s3, s4, s5⟩ := HS.out _ ((Ext.refl W3).drew.trans hr)
    clear HS HCP hf
    simp only [fill, Act.put, dstO, List.take_succ_cons, List.take_zero, List.setIfInBounds_toArray, List.set_cons_zero, List.set_cons_succ, List.getElem?_cons_zero, Nat.zero_add, Nat.reduceAdd] at hK ⊢
    refine OpB.mk' ?_
    go_simp
    exact hK.out _ _ rfl (Ext.refl _)
  · refine opF_step ?_
    intro ys lo hi w' hr hf K hK
    obtain ⟨f0, -⟩ := hf
    have e0 : ys 0 = _ := f0
    simp only [fill, Act.put, dstO, List.take_succ_cons, List.take_zero, List.setIfInBounds_toArray, List.set_cons_zero, List.set_cons_succ, List.getElem?_cons_zero, List.getElem?_cons_succ, Nat.zero_add, Nat.reduceAdd] at hK ⊢
    simp only [e0] at hK ⊢
    clear e0 f0
    refine OpB.mk' ?_
    go_simp
    refine (HCP.out _ ((Ext.refl W3).drew.trans hr)).mono ?_
    rintro e w2 ⟨u, rfl, hE2, ho⟩
    exact hK.out u w2 ⟨w2, rfl, ho, Ext.refl _⟩ hE2
  · refine opF_step ?_
    intro ys lo hi w' hr hf K hK
    obtain ⟨s0, s1, s2, s3, s4, s5⟩ := HS.out _ ((Ext.refl W3).drew.trans hr)
    clear HS HCP hf
    simp only [fill, Act.put, dstO, List.take_succ_cons, List.take_zero, List.setIfInBounds_toArray, List.set_cons_zero, List.set_cons_succ, List.getElem?_cons_zero, List.getElem?_cons_succ, Nat.zero_add, Nat.reduceAdd] at hK ⊢
    refine OpB.mk' ?_
    go_simp
    exact hK.out _ _ rfl (Ext.refl _)
  · refine opF_step ?_
    intro ys lo hi w' hr hf K hK
    obtain ⟨f0, -⟩ := hf
    have e0 : ys 2 = _ := f0
    simp only [fill, Act.put, dstO, List.take_succ_cons, List.take_zero, List.setIfInBounds_toArray, List.set_cons_zero, List.set_cons_succ, List.getElem?_cons_zero, List.getElem?_cons_succ, Nat.zero_add, Nat.reduceAdd] at hK ⊢
    simp only [e0] at hK ⊢
    clear e0 f0
    refine OpB.mk' ?_
    go_simp
    refine (HCP.out _ ((Ext.refl W3).drew.trans hr)).mono ?_
    rintro e w2 ⟨u, rfl, hE2, ho⟩
    exact hK.out u w2 ⟨w2, rfl, ho, Ext.refl _⟩ hE2
  · refine opF_step ?_
    intro ys lo hi w' hr hf K hK
    clear HS HCP hf
    simp only [fill, Act.put, dstO, List.take_succ_cons, List.take_zero, List.setIfInBounds_toArray, List.set_cons_zero, List.set_cons_succ, List.getElem?_cons_zero, List.getElem?_cons_succ, Nat.zero_add, Nat.reduceAdd] at hK ⊢
    refine OpB.mk' ?_
    go_simp
    exact hK.out _ _ ⟨rfl, by simp only [size_alloc]; omega, heap_new w' zeroW⟩ (Ext.alloc (Ext.refl _) _)
  · refine opF_step ?_
    intro ys lo hi w' hr hf K hK
    clear HS HCP hf
    simp only [fill, Act.put, dstO, List.take_succ_cons, List.take_zero, List.setIfInBounds_toArray, List.set_cons_zero, List.set_cons_succ, List.getElem?_cons_zero, List.getElem?_cons_succ, Nat.zero_add, Nat.reduceAdd] at hK ⊢
    refine OpB.mk' ?_
    go_simp
    exact hK.out _ _ ⟨rfl, by simp only [size_alloc]; omega, heap_new w' zeroW⟩ (Ext.alloc (Ext.refl _) _)
  intro ys lo hi F hr hf hsp
  obtain ⟨⟨w2, z2, ho2, hE2⟩, ⟨w3, z3, ho3, hE3⟩, ⟨e4, l4, hb4⟩, ⟨e5, l5, hb5⟩, -⟩ := hf
  obtain ⟨p2, c2, q2, d2, e1, ho2⟩ : ∃ p2 c2 q2 d2, ys 1 = .agg (wrCells X p2 c2 q2 d2) ∧ BoxOwn (lo 1 + 3) w2 (.agg (wrCells X p2 c2 q2 d2)) X := by
    obtain ⟨gp, cp, gq, d, xs, g, cc, e, h⟩ := ho2
    exact ⟨_, _, _, _, e, gp, cp, gq, d, xs, g, cc, rfl, h⟩
  obtain ⟨p3, c3, q3, d3, e3, ho3⟩ : ∃ p2 c2 q2 d2, ys 3 = .agg (wrCells X p2 c2 q2 d2) ∧ BoxOwn (lo 3 + 3) w3 (.agg (wrCells X p2 c2 q2 d2)) X := by
    obtain ⟨gp, cp, gq, d, xs, g, cc, e, h⟩ := ho3
    exact ⟨_, _, _, _, e, gp, cp, gq, d, xs, g, cc, rfl, h⟩
  have a1 := hsp.le 1 (by omega)
  have a3 := hsp.le 3 (by omega)
  have a4 := hsp.le 4 (by omega)
  have a5 := hsp.le 5 (by omega)
  have b14 := hsp.apart 1 4 (by omega) (by omega) (by omega)
  have b15 := hsp.apart 1 5 (by omega) (by omega) (by omega)
  have b34 := hsp.apart 3 4 (by omega) (by omega) (by omega)
  have b35 := hsp.apart 3 5 (by omega) (by omega) (by omega)
  have b45 := hsp.apart 4 5 (by omega) (by omega) (by omega)
  have n2 : ∀ i, lo 1 + 3 ≤ i → i < w2.heap.size → i ≠ lo 4 ∧ i ≠ lo 5 := fun i h1 h2 => by omega
  have n3 : ∀ i, lo 3 + 3 ≤ i → i < w3.heap.size → i ≠ lo 4 ∧ i ≠ lo 5 := fun i h1 h2 => by omega
  simp only [fill, Act.put, List.take_succ_cons, List.take_zero, List.setIfInBounds_toArray, List.set_cons_zero, List.set_cons_succ, Nat.zero_add, Nat.reduceAdd, List.drop_succ_cons, List.drop_zero]
  unfold wrCells at e1 e3
  simp only [e1, e3, e4, e5]
  obtain ⟨bo, hbo⟩ : ∃ bo, bo = lo 4 := ⟨_, rfl⟩
  obtain ⟨bp, hbp⟩ : ∃ bp, bp = lo 5 := ⟨_, rfl⟩
  rw [← hbo] at hb4 a4 b14 b34 b45 n2 n3 ⊢
  rw [← hbp] at hb5 a5 b15 b35 b45 n2 n3 ⊢
  unfold zeroW at hb4 hb5
  have hbb : bo ≠ bp := by omega
  have hz3 : W3.heap.size ≤ bo ∧ W3.heap.size ≤ bp ∧ W3.heap.size ≤ lo 3 := by omega
  have HR := Lib.hid hr
  have HO2 := Lib.hid ho2
  have HO3 := Lib.hid ho3
  have HE2 := Lib.hid hE2
  have HEE3 := Lib.hid hE3
  have HN2 := Lib.hid n2
  have HN3 := Lib.hid n3
  have HB4 := Lib.hid hb4
  have HB5 := Lib.hid hb5
  have HBB := Lib.hid hbb
  have HZ3 := Lib.hid hz3
  have cb := fun i => cell_of_heap hb4 i
  have cp5 := fun i => cell_of_heap hb5 i
  have fb := fun i => cell_frozen hb4 i
  have fp := fun i => cell_frozen hb5 i
  have c0 := cb 0
  have c1 := cb 1
  have c2' := cb 2
  have c3' := cb 3
  have c4 := cb 4
  have c5 := cb 5
  have p0 := cp5 0
  have p1 := cp5 1
  have p2' := cp5 2
  have p3' := cp5 3
  have p4 := cp5 4
  have p5 := cp5 5
  simp at c0 c1 c2' c3' c4 c5 p0 p1 p2' p3' p4 p5
  clear cb cp5 hr ho2 ho3 hE2 hE3 n2 n3 hb4 hb5 a1 a3 a4 a5 b14 b15 b34 b35 b45 hsp l4 l5 e1 e3 e4 e5 z2 z3 hbo hbp HS HCP
  have hne1 : bp ≠ bo := fun e => hbb e.symm
  go_upto_region 7 with (fail)
  generalize hW9 : World.setCell _ _ _ = W9
  have hF9 : Fr (fun i => i = bo ∨ i = bp) F W9 := by
    rw [← hW9]
    exact (((((((((((((Fr.refl (fun i => i = bo ∨ i = bp) F).set (Or.inl rfl)).set (Or.inl rfl)).set (Or.inl rfl)).set (Or.inl rfl)).set (Or.inl rfl)).set (Or.inl rfl)).set (Or.inr rfl)).set (Or.inr rfl)).set (Or.inr rfl)).set (Or.inr rfl)).set (Or.inr rfl)).set (Or.inr rfl))
  have ho9 : W9.heap[bo]? = some (.cells (wrCells X p2 c2 q2 d2) 25) := by rw [← hW9]; exact heap_ne6 hbb (heap_set6 HB4.out)
  have hp9 : W9.heap[bp]? = some (.cells (wrCells X p3 c3 q3 d3) 25) := by rw [← hW9]; exact heap_set6 (heap_ne6 hne1 HB5.out)
  obtain ⟨hone, hown⟩ := two_fin (B := W3.heap.size) hF9 ho9 hp9 HO2.out HO3.out HE2.out HEE3.out HN2.out HN3.out (by omega)
  have hE9 : Ext w W9 := HE3.out.trans (Fr.ext ((Ext.refl W3).drew.trans HR.out) hF9 (fun i hi => by rcases hi with rfl | rfl <;> omega))
  clear hW9 hF9 ho9 hp9 HO2 HO3 HE2 HEE3 HN2 HN3 HB4 HB5 HR c0 c1 c2' c3' c4 c5 p0 p1 p2' p3' p4 p5 fb fp
  obtain ⟨po, co, qo, dd, hb9, hfr⟩ := hone
  unfold wrCells at hb9
  have hpr := HRD.out.1.price
  have hb1 : W9.cell? ⟨bo, 1, none⟩ = some (.int .i64 X.price) := (cell_of_heap hb9 1).trans rfl
  have hf1 : W9.frozen? ⟨bo, 1, none⟩ = false := cell_frozen hb9 1
  have HB9 := Lib.hid hb9
  have HFR := Lib.hid hfr
  have HOWN := Lib.hid hown
  have HE9 := Lib.hid hE9
  have HHB := Lib.hid hbb
  clear hb9 hfr hown hE9 hbb
  go_upto_region 8 with (fail)
  generalize hW10 : World.setCell _ _ _ = W10
  have hF10 : Fr (fun i => i = bo) W9 W10 := by rw [← hW10]; exact (Fr.refl _ _).set rfl
  have hb10 : W10.heap[bo]? = some (.cells #[.int .i64 X.weeks, .int .i64 (X.price + more), .int .i64 X.age, .int .i64 X.step, .slice po X.rough.length co, .slice qo X.recs.length dd] 25) := by rw [← hW10]; exact heap_set HB9.out rfl
  have hv10 : WrV W10 (.agg #[.int .i64 X.weeks, .int .i64 (X.price + more), .int .i64 X.age, .int .i64 X.step, .slice po X.rough.length co, .slice qo X.recs.length dd]) (moreX X more) := ⟨po, co, qo, dd, rfl, (HFR.out _ hF10).1, (HFR.out _ hF10).2⟩
  have hp10 := HOWN.out.fr hF10 (fun _ h => h) (Ne.symm HHB.out)
  have hE10 : Ext w W10 := Fr.ext HE9.out hF10 (fun i hi => by have e : i = bo := hi; omega)
  have q0 := ExtW.cell (v := .int .i64 X.weeks) (cell_of_heap hb10 0)
  have q1 := ExtW.cell (v := .int .i64 (X.price + more)) (cell_of_heap hb10 1)
  have q2' := ExtW.cell (v := .int .i64 X.age) (cell_of_heap hb10 2)
  have q3' := ExtW.cell (v := .int .i64 X.step) (cell_of_heap hb10 3)
  have q4 := ExtW.cell (v := .slice po X.rough.length co) (cell_of_heap hb10 4)
  have q5 := ExtW.cell (v := .slice qo X.recs.length dd) (cell_of_heap hb10 5)
  have hBm : BigW (moreX X more) := ⟨HB.out.rough, HB.out.recs, HB.out.plays⟩
  have hR1 := fun x : ExtW W10 => ready03 _ (moreX X more) x.w (WrV.mono _ _ _ _ x.h hv10) hBm
  have HC1 := Lib.hid (fun (h : ValidW (moreX X more)) (x : ExtW W10) => ExtW.call (Cheapest03 _ (moreX X more) x.w (WrV.mono _ _ _ _ x.h hv10) h (modest_valid h)))
  rw [HC2.out] at HC1
  have HP10 := Lib.hid hp10
  have HE10 := Lib.hid hE10
  obtain ⟨x0, hx0⟩ := ExtW.of (Ext.refl W10)
  clear hW10 hF10 hb10 hv10 hp10 hE10 hb1 hf1 HB9 HFR HOWN HE9
  conv => arg 5; rw [hx0]
  clear hx0
  have hge : ¬ca < cm := by have := HB2.out; omega
  by_cases hRo : ReadyW (moreX X more)
  case' pos =>
    have HR1 := Lib.hid (fun x => ExtW.call (RetE.bt hRo (hR1 x)))
    have HC1' := Lib.hid (HC1.out hRo.1)
    clear hR1 hRo HC1
    go_upto_region 12 with (first
      | (go_at_call 32; refine (HR1.out _).mono ?_; rintro e w' ⟨rfl, x1, rfl⟩)
      | (go_at_call 36; refine (HC1'.out _).mono ?_; rintro e w' ⟨rfl, y1, rfl⟩))
    clear HR1 HC1' x1
  case' neg =>
    have HR1 := Lib.hid (fun x => ExtW.call (RetE.bf hRo (hR1 x)))
    clear hR1 hRo HC1
    go_upto_region 12 with (first
      | (go_at_call 32; refine (HR1.out _).mono ?_; rintro e w' ⟨rfl, y1, rfl⟩))
    clear HR1
  all_goals
    obtain ⟨gp, cp', gq, d', xs, g, cc, hb, hr1, hr2, hrc, hpq, hap, hgp, hgq, hgi⟩ := HP10.out.ext y1.h
    obtain ⟨W12, hW12⟩ : ∃ W12, W12 = y1.w := ⟨_, rfl⟩
    have hE12 := HE10.out.trans y1.h
    rw [← hW12] at hb hr1 hr2 hrc hE12 ⊢
    have hb1 : W12.cell? ⟨bp, 1, none⟩ = some (.int .i64 X.price) := (cell_of_heap hb 1).trans rfl
    have hf1 : W12.frozen? ⟨bp, 1, none⟩ = false := cell_frozen hb 1
    have hm0 : 0 ≤ X.price * k := Int.mul_nonneg hpr.1 (by omega)
    have hm3 : X.price * k ≤ 999 * 20 := Int.mul_le_mul hpr.2 (by omega) (by omega) (by decide)
    have HB := Lib.hid hb
    have HR1' := Lib.hid hr1
    have HR2' := Lib.hid hr2
    have HRC := Lib.hid hrc
    have HPQ := Lib.hid hpq
    have HAP := Lib.hid hap
    have HGP := Lib.hid hgp
    have HGQ := Lib.hid hgq
    have HGI := Lib.hid hgi
    have HE12 := Lib.hid hE12
    clear hb hr1 hr2 hrc hpq hap hgp hgq hgi hE12 hW12 HP10 HE10 q0 q1 q2' q3' q4 q5
    go_upto_region 13 with (fail)
    generalize hW13 : World.setCell _ _ _ = W13
    have hF13 : Fr (fun i => i = bp) W12 W13 := by rw [← hW13]; exact (Fr.refl _ _).set rfl
    have hb13 : W13.heap[bp]? = some (.cells #[.int .i64 X.weeks, .int .i64 (X.price * k), .int .i64 X.age, .int .i64 X.step, .slice (some ⟨gp, 0, none⟩) X.rough.length cp', .slice (some ⟨gq, 0, none⟩) X.recs.length d'] 25) := by rw [← hW13]; exact heap_set HB.out rfl
    have hs13 : bp < W13.heap.size := (Array.getElem?_eq_some_iff.1 hb13).1
    have hr13 := ownsRow_fr HR1'.out hF13 (fun e he => by cases he; exact HGP.out.2.2)
    have ho13 := ownsRow_fr HR2'.out hF13 (fun e he => by cases he; exact HGQ.out.2.2)
    have hrw13 : ∀ i (h : i < X.recs.length), W13.ownsRow 0 3 1 (.slice (some ⟨g i, 0, none⟩) X.recs[i].plays.length (cc i)) X.recs[i].plays.length (intVs X.recs[i].plays) := fun i hi =>
      ownsRow_fr (HRC.out.row i hi hi).2 hF13 (fun e he => by cases he; exact (HGI.out i hi).2.2)
    have hmul : MulR 0 k xs X.recs g cc := fun i hi => by
      obtain ⟨f1, f2, f3, -⟩ := HRC.out.fix i hi
      exact ⟨f1, f2, by rw [if_neg (by omega)]; exact f3, (HRC.out.row i hi hi).1⟩
    have hE13 : Ext w W13 := Fr.ext HE12.out hF13 (fun i hi => by have e : i = bp := hi; omega)
    have HB13 := Lib.hid hb13
    have HR13 := Lib.hid hr13
    have HO13 := Lib.hid ho13
    have HRW := Lib.hid hrw13
    have HMUL := Lib.hid hmul
    have HE13 := Lib.hid hE13
    have hgq2 : bp ≠ gq := Ne.symm HGQ.out.2.2
    have HGQ2 := Lib.hid hgq2
    have HGQ3 := Lib.hid (show w.heap.size ≤ gq by have := HGQ.out.1; omega)
    have hrc3 : X.recs.length ≤ 3 := HRD.out.2.2
    clear hW13 hF13 hb13 hr13 ho13 hrw13 hmul hE13 hb1 hf1 HB HR1' HR2' HE12 HGQ hgq2 HGP HGI HRC hm1 hm2 hm3
    go_wp2
    go_loopw [13] (fun i wr => ∃ (j : Nat) (ys : List Value), j ≤ X.recs.length ∧ i = .int .i64 j ∧ MulR j k ys X.recs g cc ∧ wr.ownsRow 0 54 4 (.slice (some ⟨gq, 0, none⟩) X.recs.length d') X.recs.length ys ∧ Fr (fun i => i = gq) W13 wr) (fun i _ => X.recs.length - (intOf i).toNat)
    case atStart => exact ⟨0, xs, by omega, rfl, HMUL.out, HO13.out, Fr.refl _ _⟩
    case round =>
      obtain ⟨j, ys, hj, rfl, hcr, hor, hF⟩ := hrel
      have hbr : wr.heap[bp]? = _ := (hF.block bp hs13 HGQ2.out).trans HB13.out
      have d5 : wr.cell? ⟨bp, 5, none⟩ = some (.slice (some ⟨gq, 0, none⟩) X.recs.length d') := (cell_of_heap hbr 5).trans rfl
      have HCR := Lib.hid hcr
      have HOR := Lib.hid hor
      have HF := Lib.hid hF
      have HBR := Lib.hid hbr
      clear hcr hor hF hbr
      by_cases hlt : j < X.recs.length
      · obtain ⟨-, -, h3, -⟩ := HCR.out j hlt
        obtain ⟨b9, c9, he9, hc9⟩ := ownsRow_cell HOR.out (j * 4 + 2) (by omega)
        cases he9
        rw [h3, if_neg (by omega)] at hc9
        have f9 := ownsRow_frozen (i := j * 4 + 2) HOR.out
        have hbp := (HRD.out.1.rc j hlt).price
        have hn0 : 0 ≤ X.recs[j].price * k := Int.mul_nonneg hbp.1 (by omega)
        have hn3 : X.recs[j].price * k ≤ 999 * 20 := Int.mul_le_mul hbp.2 (by omega) (by omega) (by decide)
        have hlt' : (j : Int) < (X.recs.length : Int) := by omega
        clear h3
        go_wp2
        go_roundw
        case rel => exact ⟨j + 1, _, by omega, by go_num, HCR.out.step hlt HOR.out.1, ownsRow_setV (i := j * 4 + 2) (u := .int .i64 (X.recs[j].price * k)) HOR.out, HF.out.set rfl⟩
        case measure => simp [intOf]; omega
      · obtain rfl : j = X.recs.length := by omega
        have hv := mul_wr (ownsRow_fr HR13.out HF.out (fun e he => by cases he; exact HPQ.out)) HOR.out HCR.out (fun i hi => ownsRow_fr (HRW.out i hi) HF.out (fun e he => by cases he; exact (HAP.out i hi).2))
        have hEw : Ext w wr := Fr.ext HE13.out HF.out (fun i hi => by have e : i = gq := hi; have := HGQ3.out; omega)
        have q0 := ExtW.cell (v := .int .i64 X.weeks) (cell_of_heap HBR.out 0)
        have q1 := ExtW.cell (v := .int .i64 (X.price * k)) (cell_of_heap HBR.out 1)
        have q2' := ExtW.cell (v := .int .i64 X.age) (cell_of_heap HBR.out 2)
        have q3' := ExtW.cell (v := .int .i64 X.step) (cell_of_heap HBR.out 3)
        have q4 := ExtW.cell (v := .slice (some ⟨gp, 0, none⟩) X.rough.length cp') (cell_of_heap HBR.out 4)
        have q5 := ExtW.cell (v := .slice (some ⟨gq, 0, none⟩) X.recs.length d') (cell_of_heap HBR.out 5)
        have hBk : BigW (mulX X k) := by
          have h1 := HRD.out.1.recs
          refine ⟨by have := HRD.out.1.rough; simp only [mulX]; omega, by simp only [mulX, List.length_map]; omega, fun r hr => ?_⟩
          simp only [mulX] at hr
          obtain ⟨r', hr', rfl⟩ := List.mem_map.1 hr
          exact Nat.le_trans (HM3.out r' hr') (by decide)
        have hR1 := fun x : ExtW wr => ready03 _ (mulX X k) x.w (WrV.mono _ _ _ _ x.h hv) hBk
        have HC1 := Lib.hid (fun (h : ValidW (mulX X k)) (x : ExtW wr) => ExtW.call (Cheapest03 _ (mulX X k) x.w (WrV.mono _ _ _ _ x.h hv) h (modest_valid h)))
        rw [HC3.out] at HC1
        have HWK := Lib.hid (fun x : ExtW wr => ExtW.call (works03 x.w))
        obtain ⟨x9, hx9⟩ := ExtW.of (Ext.refl wr)
        have hkm0 := HB3.out
        have hkm1 := HB4.out
        conv => arg 5; rw [hx9]
        clear hx9 d5 HCR HOR HF HBR hv
        by_cases hRo : ReadyW (mulX X k)
        · have HR1 := Lib.hid (fun x => ExtW.call (RetE.bt hRo (hR1 x)))
          have HC1' := Lib.hid (HC1.out hRo.1)
          clear hR1 hRo HC1
          go_wp2_with (first
            | (go_at_call 32; refine (HR1.out _).mono ?_; rintro e w' ⟨rfl, x10, rfl⟩)
            | (go_at_call 16; refine (HWK.out _).mono ?_; rintro e w' ⟨rfl, x12, rfl⟩)
            | (go_at_call 36; refine (HC1'.out _).mono ?_; rintro e w' ⟨rfl, x11, rfl⟩))
          go_ret
          exact RetE.fin (hEw.trans x12.h) rfl
        · have HR1 := Lib.hid (fun x => ExtW.call (RetE.bf hRo (hR1 x)))
          clear hR1 hRo HC1
          go_wp2_with (first
            | (go_at_call 32; refine (HR1.out _).mono ?_; rintro e w' ⟨rfl, x10, rfl⟩)
            | (go_at_call 16; refine (HWK.out _).mono ?_; rintro e w' ⟨rfl, x12, rfl⟩))
          go_ret
          exact RetE.fin (hEw.trans x12.h) rfl
end Go.Proofs.Ytkcilgjkdiopnaa
