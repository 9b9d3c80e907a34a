
/- Charts: the reference's numbers. -/
import Derived.Test.YtaoamnhchidjfaaDoorC8a
import Derived.Test.YtaoamnhchidjfaaDoorQ9c
namespace Go.Proofs.YtaoamnhchidjfaaDoor
open Go.RowKit

def LisF (l : List Int) (z : Int) (B : Nat) (v : Value) (_ _ : Nat) (w : World) : Prop := ∃ u, v = .tuple #[u, .int .i64 z] ∧ w.ownsRow B 3 1 u l.length (intVs l)
theorem LisF.mono {l : List Int} {z : Int} {B : Nat} : ∀ v s t w w', Ext w w' → LisF l z B v s t w → LisF l z B v s t w' := fun _ _ _ _ _ hE ⟨u, h1, h2⟩ => ⟨u, h1, ownsRow_ext h2 hE⟩
def OwnF (l : List Int) (B : Nat) (v : Value) (_ _ : Nat) (w : World) : Prop := w.ownsRow B 3 1 v l.length (intVs l)
theorem OwnF.mono {l : List Int} {B : Nat} : ∀ v s t w w', Ext w w' → OwnF l B v s t w → OwnF l B v s t w' := fun _ _ _ _ _ hE h => ownsRow_ext h hE
/-- a new slice of one element -/
def OneF (x : Value) (v : Value) (_ _ : Nat) (w : World) : Prop := ∃ g, v = .slice (some ⟨g, 0, none⟩) 1 1 ∧ w.cell? ⟨g, 0, none⟩ = some x
theorem OneF.mono {x : Value} : ∀ v s t w w', Ext w w' → OneF x v s t w → OneF x v s t w' := fun _ _ _ _ _ hE ⟨g, h1, h2⟩ => ⟨g, h1, hE.cell h2⟩
theorem one_news {w : World} {g : Nat} {v : Value} (h : w.cell? ⟨g, 0, none⟩ = some v) : ∀ (j : Nat) (u : Value), [v][j]? = some u → w.cell? ((⟨g, 0, none⟩ : Addr).add j) = some u := by
  intro j u hj
  match j, hj with
  | 0, hj =>
    simp at hj
    subst hj
    exact h
theorem mapTo_succ (l : List Int) (x : Int) {j : Nat} (h : j < l.length) : (l.take (j + 1)).map (· + x) = (l.take j).map (· + x) ++ [l[j] + x] := by
  rw [List.take_succ_eq_append_getElem h, List.map_append]
  rfl
theorem mapTo_len (l : List Int) (x : Int) {j : Nat} (h : j ≤ l.length) : ((l.take j).map (· + x)).length = j := by simp; omega

set_option maxRecDepth 20000 in
set_option maxHeartbeats 16000000 in
theorem rNumbers06 (C : Ch) (is : Bool) (v : Value) (w : World) (hv : ChV w v C) (hs : ChSm C) (hf : ∀ M ∈ C.meters, farB M = false) :
    Calls Tryd.prog 52 #[v, .bool is] w (RetTb (askT C is) (errC C is) w) := by
  have HV := Lib.hid hv
  have HS := Lib.hid hs
  have HF := Lib.hid hf
  obtain ⟨p, c, q, d, rfl, hp, hq⟩ := hv
  have HP := Lib.hid hp
  have HQ := Lib.hid hq
  clear hp hq hs hf
  go_enter Tryd.func52, Tryd.ntmps52
  go_upto_region 1 with (fail)
  obtain ⟨s0, hs0⟩ : ∃ s0, s0 = w.heap.size := ⟨_, rfl⟩
  obtain ⟨W, hW⟩ : ∃ W, W = w.alloc (.cells #[.slice p C.meters.length c, .slice q C.extra.length d, .int .i64 C.frm, .int .i64 C.tto] 25) := ⟨_, rfl⟩
  have m0 : W.heap[s0]? = some (.cells #[.slice p C.meters.length c, .slice q C.extra.length d, .int .i64 C.frm, .int .i64 C.tto] 25) := by rw [hs0, hW]; exact heap_new _ _
  have hE : Ext w W := by rw [hW]; exact Ext.alloc (Ext.refl _) _
  rw [← hs0, ← hW]
  have m00 : W.cell? ⟨s0, 0, none⟩ = some (.slice p C.meters.length c) := cell_of_heap m0 0
  have m01 : W.cell? ⟨s0, 1, none⟩ = some (.slice q C.extra.length d) := cell_of_heap m0 1
  have m02 : W.cell? ⟨s0, 2, none⟩ = some (.int .i64 C.frm) := cell_of_heap m0 2
  have m03 : W.cell? ⟨s0, 3, none⟩ = some (.int .i64 C.tto) := cell_of_heap m0 3
  have HCE := Lib.hid (fun y (h : Ext W y) => (⟨h.cell m00, h.cell m01, h.cell m02, h.cell m03, hE.trans h⟩ :
    y.cell? ⟨s0, 0, none⟩ = some (.slice p C.meters.length c) ∧ y.cell? ⟨s0, 1, none⟩ = some (.slice q C.extra.length d) ∧ y.cell? ⟨s0, 2, none⟩ = some (.int .i64 C.frm) ∧ y.cell? ⟨s0, 3, none⟩ = some (.int .i64 C.tto) ∧ Ext w y))
  have HCK := Lib.hid (rCheck06 C _ W (HV.out.ext hE) HS.out)
  have HE := Lib.hid hE
  clear hW m0 hE hs0
  by_cases hC : ValidC C
  case neg =>
    rw [chkC_f hC] at HCK
    have HER := Lib.hid (errC_bad hC is)
    clear hC
    go_wp2_with (go_at_call 23; refine HCK.out.mono ?_; rintro e w2 ⟨rfl, hE2⟩)
    go_ret2
    exact ⟨_, [], by rw [HER.out]; rfl, by rw [askT_ne (by rw [HER.out]; decide)]; exact RwV.nil _ _ _, HE.out.trans hE2, CapOK.nil⟩
  rw [chkC_t hC] at HCK
  cases is
  case false =>
    have HER := Lib.hid (errC_false hC)
    clear hC
    go_wp2_with (go_at_call 23; refine HCK.out.mono ?_; rintro e w2 ⟨rfl, hE2⟩)
    go_ret2
    exact ⟨_, [], by rw [HER.out]; rfl, by rw [askT_ne (by rw [HER.out]; decide)]; exact RwV.nil _ _ _, HE.out.trans hE2, CapOK.nil⟩
  have HVC := Lib.hid hC
  have hn6 := hC.nm
  have hnx := hC.nx
  have hf0 := hC.f0
  have hft := hC.ft
  have ht5 := hC.t5
  rw [hnx] at m01 HCE HCK ⊢
  have HNX : EqS C.extra.length C.meters.length := ⟨hnx⟩
  obtain ⟨i1, hi1, hz1, hy1, hb1⟩ := info_parts info_b
  have HI1 := Lib.hid (⟨hi1, hz1, hy1, hb1⟩ : _ ∧ _ ∧ _ ∧ _)
  obtain ⟨i0, hi0, hz0, hy0, hb0⟩ := info_parts info_a
  have HI0 := Lib.hid (⟨hi0, hz0, hy0, hb0⟩ : _ ∧ _ ∧ _ ∧ _)
  clear hnx hi1 hz1 hy1 hb1 hi0 hz0 hy0 hb0 hC
  go_upto_region 7 with (go_at_call 23; refine HCK.out.mono ?_; rintro e W2 ⟨rfl, hE2⟩; obtain ⟨k0, k1, k2, k3, k4⟩ := HCE.out _ hE2)
  have HE2 := Lib.hid hE2
  clear hE2 m00 m01 m02 m03 k0 k1 k2 k3 k4 HCK
  go_wp2
  go_loopw [7, 8] (fun u i wr => ∃ (k : Nat) (vs : List Value), k ≤ C.meters.length ∧ i = .int .i64 k ∧ Ext W2 wr ∧ RwV wr W2.heap.size u vs (tabTo C k) none ∧ someN C k = false ∧ CapOK vs) (fun _ i _ => C.meters.length - (intOf i).toNat)
  case atStart => exact ⟨0, [], Nat.zero_le _, rfl, Ext.refl _, RwV.nil _ _ _, rfl, CapOK.nil⟩
  case round =>
    obtain ⟨k, vs, hk, rfl, hE, hR, hso, hcp⟩ := hrel
    obtain ⟨wo, rfl⟩ : ∃ wo, wo = wr := ⟨_, rfl⟩
    obtain ⟨k0, k1, k2, k3, k4⟩ := HCE.out wo (HE2.out.trans hE)
    have HEW := Lib.hid hE
    have HR := Lib.hid hR
    have HSO := Lib.hid hso
    have HCP := Lib.hid hcp
    clear hE hR hso hcp
    by_cases hlt : k < C.meters.length
    · have hlt' : (k : Int) < (C.meters.length : Int) := by omega
      obtain ⟨rb, ro, p1, d1, p2, d2, hqq, r0, r1, r2, r3, r4⟩ := HP.out.ext k4 k hlt
      subst hqq
      obtain ⟨xb, xo, hxx, x0⟩ := (HQ.out.ext k4).at k (by have := HNX.out; omega)
      subst hxx
      have hfm := HF.out _ (List.getElem_mem hlt)
      have hex := HVC.out.ex _ (List.getElem_mem (show k < C.extra.length by have := HNX.out; omega))
      obtain ⟨hM, har⟩ := HVC.out.mtI hlt
      rw [← mtC_get hlt] at r0 r1 r2 r3 r4 hfm
      rw [← exC_get (show k < C.extra.length by have := HNX.out; omega)] at x0 hex
      have hrow : rowC C k = (sumsA (mtC C k) C.frm C.tto).map (· + exC C k) := rfl
      have hsn := someN_succ C k
      have hlate := fun ha => someN_mono (C := C) hlt ha
      have hak := ask_known hM
      have hbd := fun hz => fun x (hx : x ∈ sumsA (mtC C k) C.frm C.tto) => sumsA_bound hM har hz hx
      have hnem := fun hz => sumsA_ne hM har hz
      have hsl := sumsA_len (mtC C k) C.frm C.tto
      obtain ⟨M, hMe⟩ : ∃ M, M = mtC C k := ⟨_, rfl⟩
      rw [← hMe] at r0 r1 r2 r3 r4 hM har hrow hsn hlate hak hbd hnem hsl hfm
      obtain ⟨x, hx⟩ : ∃ x, x = exC C k := ⟨_, rfl⟩
      rw [← hx] at x0 hex hrow
      have hsu := fun y (h : Ext wo y) => rSums04 M hfm C.frm C.tto (.agg #[.slice p1 M.weeks.length d1, .slice p2 M.reads.length d2, .int .i64 M.wrong]) y ⟨p1, d1, p2, d2, rfl, r3.ext h, r4.ext h⟩
      rw [har] at hsu
      obtain ⟨l, hl⟩ : ∃ l, l = sumsA M C.frm C.tto := ⟨_, rfl⟩
      rw [← hl] at hsu hrow hbd hnem hsl
      obtain ⟨z, hz⟩ : ∃ z, z = askV M true := ⟨_, rfl⟩
      rw [← hz] at hsu hsn hlate hak hbd hnem
      have HSU := Lib.hid hsu
      have HRO := Lib.hid hrow
      have HSN := Lib.hid hsn
      have HEA := Lib.hid (⟨hak, hlate⟩ : (z = 0 ∨ z = 3) ∧ (¬z = 0 → someN C C.meters.length = true))
      have HRD := Lib.hid (fun y (h : Ext wo y) => (⟨(HCE.out y (HE2.out.trans (HEW.out.trans h))).1, (HCE.out y (HE2.out.trans (HEW.out.trans h))).2.2.1, (HCE.out y (HE2.out.trans (HEW.out.trans h))).2.2.2.1, h.cell r0, h.cell r1, h.cell r2⟩ :
        y.cell? ⟨s0, 0, none⟩ = some (.slice (some ⟨rb, ro, none⟩) C.meters.length c) ∧ y.cell? ⟨s0, 2, none⟩ = some (.int .i64 C.frm) ∧ y.cell? ⟨s0, 3, none⟩ = some (.int .i64 C.tto) ∧
        y.cell? ⟨rb, ro + k * 3, none⟩ = some (.slice p1 M.weeks.length d1) ∧ y.cell? ⟨rb, ro + k * 3 + 1, none⟩ = some (.slice p2 M.reads.length d2) ∧ y.cell? ⟨rb, ro + k * 3 + 2, none⟩ = some (.int .i64 M.wrong)))
      have X0 := Lib.hid x0
      clear hMe hx hl hz hM har r0 r1 r2 r3 r4 hrow hsn hlate hsu x0 hfm
      go_upto_region 10 with (fail)
      refine wp_region_facts 14 [[], [0], [], [1, 2], [3], [], [5], [], [7], [4, 6, 8], [9], [10], [10], [11]] [13, 12] Ext (FL [Is (.pointer (some ⟨s0, 0, none⟩)), Is (.slice (some ⟨rb, ro, none⟩) C.meters.length c), Is (.int .i64 (k : Int)), Is (.pointer (some ⟨rb, ro + k * 3, none⟩)), Is (.agg #[.slice p1 M.weeks.length d1, .slice p2 M.reads.length d2, .int .i64 M.wrong]), Is (.pointer (some ⟨s0, 2, none⟩)), Is (.int .i64 C.frm), Is (.pointer (some ⟨s0, 3, none⟩)), Is (.int .i64 C.tto), LisF l z wo.heap.size, LisF l z wo.heap.size, OwnF l wo.heap.size, Is (.int .i64 z), OwnF l wo.heap.size]) (by kernel_rfl) (by kernel_rfl) Ext.refl (fun _ _ _ => Ext.trans) (fun _ _ => Ext.size) (FL.mono ⟨Is.mono, Is.mono, Is.mono, Is.mono, Is.mono, Is.mono, Is.mono, Is.mono, Is.mono, LisF.mono, LisF.mono, OwnF.mono, Is.mono, OwnF.mono, trivial⟩) ⟨?_, ?_, ?_, ?_, ?_, ?_, ?_, ?_, ?_, ?_, ?_, ?_, ?_, ?_, trivial⟩ ?_
      · refine opF_step ?_
        intro ys l0 h0 w' hr hf K hK
        clear hf
        simp only [fill, Act.put, dstO, List.take_succ_cons, List.take_zero, List.setIfInBounds_toArray, List.set_cons_zero, List.set_cons_succ, List.getElem?_cons_zero, Nat.zero_add, Nat.reduceAdd] at hK ⊢
        refine OpB.mk' ?_
        go_simp
        exact hK.out _ _ rfl (Ext.refl _)
      · refine opF_step ?_
        intro ys l0 h0 w' hr hf K hK
        obtain ⟨f0, -⟩ := hf
        have e0 : ys 0 = _ := f0
        obtain ⟨j0, j1, j2, j3, j4, j5⟩ := HRD.out w' ((Ext.refl wo).drew.trans hr)
        simp only [fill, Act.put, dstO, List.take_succ_cons, List.take_zero, List.setIfInBounds_toArray, List.set_cons_zero, List.set_cons_succ, List.getElem?_cons_zero, List.getElem?_cons_succ, Nat.zero_add, Nat.reduceAdd] at hK ⊢
        simp only [e0] at hK ⊢
        clear e0 f0
        refine OpB.mk' ?_
        go_simp
        exact hK.out _ _ rfl (Ext.refl _)
      · refine opF_step ?_
        intro ys l0 h0 w' hr hf K hK
        clear hf
        simp only [fill, Act.put, dstO, List.take_succ_cons, List.take_zero, List.setIfInBounds_toArray, List.set_cons_zero, List.set_cons_succ, List.getElem?_cons_zero, List.getElem?_cons_succ, Nat.zero_add, Nat.reduceAdd] at hK ⊢
        refine OpB.mk' ?_
        go_simp
        exact hK.out _ _ rfl (Ext.refl _)
      · refine opF_step ?_
        intro ys l0 h0 w' hr hf K hK
        obtain ⟨f0, f1, -⟩ := hf
        have e0 : ys 1 = _ := f0
        have e1 : ys 2 = _ := f1
        simp only [fill, Act.put, dstO, List.take_succ_cons, List.take_zero, List.setIfInBounds_toArray, List.set_cons_zero, List.set_cons_succ, List.getElem?_cons_zero, List.getElem?_cons_succ, Nat.zero_add, Nat.reduceAdd] at hK ⊢
        simp only [e0, e1] at hK ⊢
        clear e0 e1 f0 f1
        refine OpB.mk' ?_
        go_simp
        exact hK.out _ _ rfl (Ext.refl _)
      · refine opF_step ?_
        intro ys l0 h0 w' hr hf K hK
        obtain ⟨f0, -⟩ := hf
        have e0 : ys 3 = _ := f0
        obtain ⟨j0, j1, j2, j3, j4, j5⟩ := HRD.out w' ((Ext.refl wo).drew.trans hr)
        simp only [fill, Act.put, dstO, List.take_succ_cons, List.take_zero, List.setIfInBounds_toArray, List.set_cons_zero, List.set_cons_succ, List.getElem?_cons_zero, List.getElem?_cons_succ, Nat.zero_add, Nat.reduceAdd] at hK ⊢
        simp only [e0] at hK ⊢
        clear e0 f0
        refine OpB.mk' ?_
        go_simp
        exact hK.out _ _ rfl (Ext.refl _)
      · refine opF_step ?_
        intro ys l0 h0 w' hr hf K hK
        clear hf
        simp only [fill, Act.put, dstO, List.take_succ_cons, List.take_zero, List.setIfInBounds_toArray, List.set_cons_zero, List.set_cons_succ, List.getElem?_cons_zero, List.getElem?_cons_succ, Nat.zero_add, Nat.reduceAdd] at hK ⊢
        refine OpB.mk' ?_
        go_simp
        exact hK.out _ _ rfl (Ext.refl _)
      · refine opF_step ?_
        intro ys l0 h0 w' hr hf K hK
        obtain ⟨f0, -⟩ := hf
        have e0 : ys 5 = _ := f0
        obtain ⟨j0, j1, j2, j3, j4, j5⟩ := HRD.out w' ((Ext.refl wo).drew.trans hr)
        simp only [fill, Act.put, dstO, List.take_succ_cons, List.take_zero, List.setIfInBounds_toArray, List.set_cons_zero, List.set_cons_succ, List.getElem?_cons_zero, List.getElem?_cons_succ, Nat.zero_add, Nat.reduceAdd] at hK ⊢
        simp only [e0] at hK ⊢
        clear e0 f0
        refine OpB.mk' ?_
        go_simp
        exact hK.out _ _ rfl (Ext.refl _)
      · refine opF_step ?_
        intro ys l0 h0 w' hr hf K hK
        clear hf
        simp only [fill, Act.put, dstO, List.take_succ_cons, List.take_zero, List.setIfInBounds_toArray, List.set_cons_zero, List.set_cons_succ, List.getElem?_cons_zero, List.getElem?_cons_succ, Nat.zero_add, Nat.reduceAdd] at hK ⊢
        refine OpB.mk' ?_
        go_simp
        exact hK.out _ _ rfl (Ext.refl _)
      · refine opF_step ?_
        intro ys l0 h0 w' hr hf K hK
        obtain ⟨f0, -⟩ := hf
        have e0 : ys 7 = _ := f0
        obtain ⟨j0, j1, j2, j3, j4, j5⟩ := HRD.out w' ((Ext.refl wo).drew.trans hr)
        simp only [fill, Act.put, dstO, List.take_succ_cons, List.take_zero, List.setIfInBounds_toArray, List.set_cons_zero, List.set_cons_succ, List.getElem?_cons_zero, List.getElem?_cons_succ, Nat.zero_add, Nat.reduceAdd] at hK ⊢
        simp only [e0] at hK ⊢
        clear e0 f0
        refine OpB.mk' ?_
        go_simp
        exact hK.out _ _ rfl (Ext.refl _)
      · refine opF_step ?_
        intro ys l0 h0 w' hr hf K hK
        obtain ⟨f0, f1, f2, -⟩ := hf
        have e0 : ys 4 = _ := f0
        have e1 : ys 6 = _ := f1
        have e2 : ys 8 = _ := f2
        simp only [fill, Act.put, dstO, List.take_succ_cons, List.take_zero, List.setIfInBounds_toArray, List.set_cons_zero, List.set_cons_succ, List.getElem?_cons_zero, List.getElem?_cons_succ, Nat.zero_add, Nat.reduceAdd] at hK ⊢
        simp only [e0, e1, e2] at hK ⊢
        clear e0 e1 e2 f0 f1 f2
        refine OpB.mk' ?_
        go_simp
        refine (HSU.out w' ((Ext.refl wo).drew.trans hr)).mono ?_
        rintro e w2 ⟨u, rfl, hO, hE2⟩
        exact hK.out _ _ ⟨u, rfl, ownsRow_base hO (Ext.size ((Ext.refl wo).drew.trans hr))⟩ hE2
      · refine opF_step ?_
        intro ys l0 h0 w' hr hf K hK
        obtain ⟨f0, -⟩ := hf
        obtain ⟨u, e0, hO⟩ := f0
        simp only [fill, Act.put, dstO, List.take_succ_cons, List.take_zero, List.setIfInBounds_toArray, List.set_cons_zero, List.set_cons_succ, List.getElem?_cons_zero, List.getElem?_cons_succ, Nat.zero_add, Nat.reduceAdd] at hK ⊢
        simp only [e0] at hK ⊢
        clear e0
        refine OpB.mk' ?_
        go_simp
        exact hK.out _ _ ⟨u, rfl, hO⟩ (Ext.refl _)
      · refine opF_step ?_
        intro ys l0 h0 w' hr hf K hK
        obtain ⟨f0, -⟩ := hf
        obtain ⟨u, e0, hO⟩ := f0
        simp only [fill, Act.put, dstO, List.take_succ_cons, List.take_zero, List.setIfInBounds_toArray, List.set_cons_zero, List.set_cons_succ, List.getElem?_cons_zero, List.getElem?_cons_succ, Nat.zero_add, Nat.reduceAdd] at hK ⊢
        simp only [e0] at hK ⊢
        clear e0
        refine OpB.mk' ?_
        go_simp
        exact hK.out _ _ hO (Ext.refl _)
      · refine opF_step ?_
        intro ys l0 h0 w' hr hf K hK
        obtain ⟨f0, -⟩ := hf
        obtain ⟨u, e0, hO⟩ := f0
        simp only [fill, Act.put, dstO, List.take_succ_cons, List.take_zero, List.setIfInBounds_toArray, List.set_cons_zero, List.set_cons_succ, List.getElem?_cons_zero, List.getElem?_cons_succ, Nat.zero_add, Nat.reduceAdd] at hK ⊢
        simp only [e0] at hK ⊢
        clear e0
        refine OpB.mk' ?_
        go_simp
        exact hK.out _ _ rfl (Ext.refl _)
      · refine opF_step ?_
        intro ys l0 h0 w' hr hf K hK
        obtain ⟨f0, -⟩ := hf
        simp only [fill, Act.put, dstO, List.take_succ_cons, List.take_zero, List.setIfInBounds_toArray, List.set_cons_zero, List.set_cons_succ, List.getElem?_cons_zero, List.getElem?_cons_succ, Nat.zero_add, Nat.reduceAdd] at hK ⊢
        refine OpB.mk' ?_
        go_simp
        exact hK.out _ _ f0 (Ext.refl _)
      intro ys l0 h0 w2 hr hf hsp
      obtain ⟨f13, f12, -⟩ := hf
      have hOL : w2.ownsRow _ _ _ _ _ _ := f13
      have e12 : ys 12 = _ := f12
      simp only [fill, Act.put, List.take_succ_cons, List.take_zero, List.setIfInBounds_toArray, List.set_cons_zero, List.set_cons_succ, Nat.zero_add, Nat.reduceAdd, List.drop_succ_cons, List.drop_zero]
      rw [e12]
      clear e12 f12
      generalize ys 13 = ul at hOL ⊢
      clear hsp
      have hEY : Ext wo w2 := (Ext.refl wo).drew.trans hr
      have HEY := Lib.hid hEY
      have HOL := Lib.hid hOL
      clear hr hEY hOL HSU
      by_cases hz0 : z = 0
      case neg =>
        have hz3 : z = 3 := HEA.out.1.resolve_left hz0
        have HER := Lib.hid (errC_none HVC.out (HEA.out.2 hz0))
        subst hz3
        clear hz0
        go_wp2
        go_ret2
        exact ⟨_, [], by rw [HER.out]; rfl, by rw [askT_ne (by rw [HER.out]; decide)]; exact RwV.nil _ _ _, HE.out.trans (HE2.out.trans (HEW.out.trans HEY.out)), CapOK.nil⟩
      subst hz0
      have hbd := hbd rfl
      have hl0 : 0 < l.length := List.length_pos_iff.2 (hnem rfl)
      have HSN1 := Lib.hid (show someN C (k + 1) = false from by rw [HSN.out, HSO.out, bP_f (fun h => h rfl)]; rfl)
      have HBD := Lib.hid hbd
      obtain ⟨g, cg, rfl, -⟩ := ownsRow_at HOL.out 0 hl0
      have HLI := Lib.hid (row_ints HOL.out)
      have HCG := Lib.hid (fun y (h : Ext wo y) => (⟨(HCE.out y (HE2.out.trans (HEW.out.trans h))).2.1, h.cell X0.out⟩ : y.cell? ⟨s0, 1, none⟩ = some (.slice (some ⟨xb, xo, none⟩) C.meters.length d) ∧ y.cell? ⟨xb, xo + k, none⟩ = some (.int .i64 x)))
      clear hak hbd hnem HSN HEA k0 k1 k2 k3 k4
      go_wp2
      go_loopw [11, 12] (fun u i w3 => ∃ j : Nat, j ≤ l.length ∧ i = .int .i64 j ∧ Ext w2 w3 ∧ w3.ownsRow w2.heap.size 3 1 u j (intVs ((l.take j).map (· + x)))) (fun _ i _ => l.length - (intOf i).toNat)
      case atStart => exact ⟨0, Nat.zero_le _, rfl, Ext.refl _, World.ownsRow_nil _ _ _ _⟩
      case round =>
        obtain ⟨j, hj, rfl, hE3, hO3⟩ := hrel
        obtain ⟨w3, rfl⟩ : ∃ w3, w3 = wr := ⟨_, rfl⟩
        have HE3 := Lib.hid hE3
        have HO3 := Lib.hid hO3
        clear hE3 hO3
        by_cases hjl : j < l.length
        · have hjl' : (j : Int) < (l.length : Int) := by omega
          obtain ⟨b', o', he, hcx⟩ := HLI.out.at j hjl
          cases he
          have hab := HBD.out l[j] (List.getElem_mem hjl)
          have hms := mapTo_succ l x hjl
          obtain ⟨a, ha⟩ : ∃ a, a = l[j] := ⟨_, rfl⟩
          rw [← ha] at hcx hab hms
          rw [Nat.zero_add] at hcx
          have hw : IntKind.i64.wrap (a + x) = a + x := IntWalk.i64_in _ (by omega)
          have HMS := Lib.hid hms
          have HKC := Lib.hid (fun y (h : Ext w3 y) => (⟨h.cell (HE3.out.cell hcx), (HCG.out y (HEY.out.trans (HE3.out.trans h))).1, (HCG.out y (HEY.out.trans (HE3.out.trans h))).2⟩ :
            y.cell? ⟨g, j, none⟩ = some (.int .i64 a) ∧ y.cell? ⟨s0, 1, none⟩ = some (.slice (some ⟨xb, xo, none⟩) C.meters.length d) ∧ y.cell? ⟨xb, xo + k, none⟩ = some (.int .i64 x)))
          obtain ⟨uu, huu⟩ : ∃ uu, uu = u11 := ⟨_, rfl⟩
          clear ha hms hcx
          go_upto_region 17 with (fail)
          refine wp_region_facts 12 [[], [], [], [1, 2], [3], [], [5], [], [6, 7], [8], [4, 9], [10]] [0, 11] Ext (FL [Is (u11), Is (.slice (some ⟨g, 0, none⟩) l.length cg), Is (.int .i64 (j : Int)), Is (.pointer (some ⟨g, j, none⟩)), Is (.int .i64 a), Is (.pointer (some ⟨s0, 1, none⟩)), Is (.slice (some ⟨xb, xo, none⟩) C.meters.length d), Is (.int .i64 (k : Int)), Is (.pointer (some ⟨xb, xo + k, none⟩)), Is (.int .i64 x), Is (.int .i64 (a + x)), OneF (.int .i64 (a + x))]) (by kernel_rfl) (by kernel_rfl) Ext.refl (fun _ _ _ => Ext.trans) (fun _ _ => Ext.size) (FL.mono ⟨Is.mono, Is.mono, Is.mono, Is.mono, Is.mono, Is.mono, Is.mono, Is.mono, Is.mono, Is.mono, Is.mono, OneF.mono, trivial⟩) ⟨?_, ?_, ?_, ?_, ?_, ?_, ?_, ?_, ?_, ?_, ?_, ?_, trivial⟩ ?_
          · refine opF_step ?_
            intro ys l0 h0 w' hr hf K hK
            clear hf
            simp only [fill, Act.put, dstO, List.take_succ_cons, List.take_zero, List.setIfInBounds_toArray, List.set_cons_zero, List.set_cons_succ, List.getElem?_cons_zero, Nat.zero_add, Nat.reduceAdd] at hK ⊢
            refine OpB.mk' ?_
            go_simp
            exact hK.out _ _ rfl (Ext.refl _)
          · refine opF_step ?_
            intro ys l0 h0 w' hr hf K hK
            clear hf
            simp only [fill, Act.put, dstO, List.take_succ_cons, List.take_zero, List.setIfInBounds_toArray, List.set_cons_zero, List.set_cons_succ, List.getElem?_cons_zero, List.getElem?_cons_succ, Nat.zero_add, Nat.reduceAdd] at hK ⊢
            refine OpB.mk' ?_
            go_simp
            exact hK.out _ _ rfl (Ext.refl _)
          · refine opF_step ?_
            intro ys l0 h0 w' hr hf K hK
            clear hf
            simp only [fill, Act.put, dstO, List.take_succ_cons, List.take_zero, List.setIfInBounds_toArray, List.set_cons_zero, List.set_cons_succ, List.getElem?_cons_zero, List.getElem?_cons_succ, Nat.zero_add, Nat.reduceAdd] at hK ⊢
            refine OpB.mk' ?_
            go_simp
            exact hK.out _ _ rfl (Ext.refl _)
          · refine opF_step ?_
            intro ys l0 h0 w' hr hf K hK
            obtain ⟨f0, f1, -⟩ := hf
            have e0 : ys 1 = _ := f0
            have e1 : ys 2 = _ := f1
            simp only [fill, Act.put, dstO, List.take_succ_cons, List.take_zero, List.setIfInBounds_toArray, List.set_cons_zero, List.set_cons_succ, List.getElem?_cons_zero, List.getElem?_cons_succ, Nat.zero_add, Nat.reduceAdd] at hK ⊢
            simp only [e0, e1] at hK ⊢
            clear e0 e1 f0 f1
            refine OpB.mk' ?_
            go_simp
            exact hK.out _ _ rfl (Ext.refl _)
          · refine opF_step ?_
            intro ys l0 h0 w' hr hf K hK
            obtain ⟨f0, -⟩ := hf
            have e0 : ys 3 = _ := f0
            obtain ⟨j0, j1, j2⟩ := HKC.out w' ((Ext.refl w3).drew.trans hr)
            simp only [fill, Act.put, dstO, List.take_succ_cons, List.take_zero, List.setIfInBounds_toArray, List.set_cons_zero, List.set_cons_succ, List.getElem?_cons_zero, List.getElem?_cons_succ, Nat.zero_add, Nat.reduceAdd] at hK ⊢
            simp only [e0] at hK ⊢
            clear e0 f0
            refine OpB.mk' ?_
            go_simp
            exact hK.out _ _ rfl (Ext.refl _)
          · refine opF_step ?_
            intro ys l0 h0 w' hr hf K hK
            clear hf
            simp only [fill, Act.put, dstO, List.take_succ_cons, List.take_zero, List.setIfInBounds_toArray, List.set_cons_zero, List.set_cons_succ, List.getElem?_cons_zero, List.getElem?_cons_succ, Nat.zero_add, Nat.reduceAdd] at hK ⊢
            refine OpB.mk' ?_
            go_simp
            exact hK.out _ _ rfl (Ext.refl _)
          · refine opF_step ?_
            intro ys l0 h0 w' hr hf K hK
            obtain ⟨f0, -⟩ := hf
            have e0 : ys 5 = _ := f0
            obtain ⟨j0, j1, j2⟩ := HKC.out w' ((Ext.refl w3).drew.trans hr)
            simp only [fill, Act.put, dstO, List.take_succ_cons, List.take_zero, List.setIfInBounds_toArray, List.set_cons_zero, List.set_cons_succ, List.getElem?_cons_zero, List.getElem?_cons_succ, Nat.zero_add, Nat.reduceAdd] at hK ⊢
            simp only [e0] at hK ⊢
            clear e0 f0
            refine OpB.mk' ?_
            go_simp
            exact hK.out _ _ rfl (Ext.refl _)
          · refine opF_step ?_
            intro ys l0 h0 w' hr hf K hK
            clear hf
            simp only [fill, Act.put, dstO, List.take_succ_cons, List.take_zero, List.setIfInBounds_toArray, List.set_cons_zero, List.set_cons_succ, List.getElem?_cons_zero, List.getElem?_cons_succ, Nat.zero_add, Nat.reduceAdd] at hK ⊢
            refine OpB.mk' ?_
            go_simp
            exact hK.out _ _ rfl (Ext.refl _)
          · refine opF_step ?_
            intro ys l0 h0 w' hr hf K hK
            obtain ⟨f0, f1, -⟩ := hf
            have e0 : ys 6 = _ := f0
            have e1 : ys 7 = _ := f1
            simp only [fill, Act.put, dstO, List.take_succ_cons, List.take_zero, List.setIfInBounds_toArray, List.set_cons_zero, List.set_cons_succ, List.getElem?_cons_zero, List.getElem?_cons_succ, Nat.zero_add, Nat.reduceAdd] at hK ⊢
            simp only [e0, e1] at hK ⊢
            clear e0 e1 f0 f1
            refine OpB.mk' ?_
            go_simp
            exact hK.out _ _ rfl (Ext.refl _)
          · refine opF_step ?_
            intro ys l0 h0 w' hr hf K hK
            obtain ⟨f0, -⟩ := hf
            have e0 : ys 8 = _ := f0
            obtain ⟨j0, j1, j2⟩ := HKC.out w' ((Ext.refl w3).drew.trans hr)
            simp only [fill, Act.put, dstO, List.take_succ_cons, List.take_zero, List.setIfInBounds_toArray, List.set_cons_zero, List.set_cons_succ, List.getElem?_cons_zero, List.getElem?_cons_succ, Nat.zero_add, Nat.reduceAdd] at hK ⊢
            simp only [e0] at hK ⊢
            clear e0 f0
            refine OpB.mk' ?_
            go_simp
            exact hK.out _ _ rfl (Ext.refl _)
          · refine opF_step ?_
            intro ys l0 h0 w' hr hf K hK
            obtain ⟨f0, f1, -⟩ := hf
            have e0 : ys 4 = _ := f0
            have e1 : ys 9 = _ := f1
            simp only [fill, Act.put, dstO, List.take_succ_cons, List.take_zero, List.setIfInBounds_toArray, List.set_cons_zero, List.set_cons_succ, List.getElem?_cons_zero, List.getElem?_cons_succ, Nat.zero_add, Nat.reduceAdd] at hK ⊢
            simp only [e0, e1] at hK ⊢
            clear e0 e1 f0 f1
            refine OpB.mk' ?_
            go_simp
            exact hK.out _ _ rfl (Ext.refl _)
          · refine opF_step ?_
            intro ys l0 h0 w' hr hf K hK
            obtain ⟨f0, -⟩ := hf
            have e0 : ys 10 = _ := f0
            simp only [fill, Act.put, dstO, List.take_succ_cons, List.take_zero, List.setIfInBounds_toArray, List.set_cons_zero, List.set_cons_succ, List.getElem?_cons_zero, List.getElem?_cons_succ, Nat.zero_add, Nat.reduceAdd] at hK ⊢
            simp only [e0] at hK ⊢
            clear e0 f0
            refine OpB.mk' ?_
            go_simp
            exact hK.out _ _ ⟨w'.heap.size, rfl, cell_of_heap (heap_new w' _) 0⟩ (Ext.alloc (Ext.refl _) _)
          intro ys l0 h0 w4 hr hf hsp
          obtain ⟨f0, f11, -⟩ := hf
          have e0 : ys 0 = _ := f0
          obtain ⟨gn, e11, hnc⟩ := f11
          simp only [fill, Act.put, List.take_succ_cons, List.take_zero, List.setIfInBounds_toArray, List.set_cons_zero, List.set_cons_succ, Nat.zero_add, Nat.reduceAdd, List.drop_succ_cons, List.drop_zero]
          rw [e0, e11]
          clear e0 f0
          clear hsp
          have hE4 : Ext w3 w4 := (Ext.refl w3).drew.trans hr
          have HE4 := Lib.hid hE4
          have HNC := Lib.hid hnc
          have hsz := HE4.out.size
          have hsz3 := HE3.out.size
          clear hr hE4 hnc
          go_wp2_with (at_builtin; refine wpList_append_lies _ rfl (.tmp 49) (.tmp 60) 23 rfl w2.heap.size 3 i0 (.int .i64 0) 1 8 Tryd.underlying23 HI0.out.1 HI0.out.2.1 HI0.out.2.2.1 HI0.out.2.2.2 rfl (by decide) _ j _ rfl (ownsRow_ext HO3.out HE4.out) ⟨gn, 0, none⟩ 1 1 [.int .i64 (a + x)] rfl rfl (one_news HNC.out) (one_int _) (by decide) ?c3 ?c4 ?c5 w4.heap.size rfl ?_)
          case c3 => unfold maxLen; omega
          case c4 => omega
          case c5 => omega
          intro g5 cap5 w5 hown5 hgr5 hat5 hlt5
          have hE5 : Ext w2 w5 := Below.grown (HE3.out.trans HE4.out) hgr5 (HE3.out.trans HE4.out).size (fun i hi => (HO3.out.lt i hi).1)
          have HO5 := Lib.hid hown5
          have HE5 := Lib.hid hE5
          clear hown5 hgr5 hat5 hlt5 hE5
          go_wp2
          go_roundw
          case rel => exact ⟨j + 1, by omega, by simp, HE5.out, by rw [HMS.out, intVs_snoc, List.map_take]; exact HO5.out⟩
          case measure => simp [intOf]; omega
        · obtain rfl : j = l.length := by omega
          have hge : ¬(l.length : Int) < (l.length : Int) := by omega
          have hO3 := HO3.out
          rw [List.take_length, ← HRO.out] at hO3
          have hln : l.length = (rowC C k).length := by rw [HRO.out]; simp
          have hlv : vs.length = k := by have := HR.out.len; rw [tabTo_len] at this; exact this
          obtain ⟨g3, c3, rfl, -⟩ := ownsRow_at hO3 0 hl0
          have HNI := Lib.hid (fun r (hr : ∀ b, r = some b → b < w2.heap.size) => (by
            obtain ⟨q', c', he, hn⟩ := own_ne_ints hln hO3 r hr
            cases he
            exact hn : IntsNe r w3 (some ⟨g3, 0, none⟩) (rowC C k)))
          have HLN : EqS l.length (rowC C k).length := ⟨hln⟩
          have HLV : EqS vs.length k := ⟨hlv⟩
          have HOC := Lib.hid (own_cap hO3)
          have HEZ := Lib.hid (HEY.out.trans HE3.out)
          clear hln hlv hO3
          have hsz := HEZ.out.size
          have hszw := HEW.out.size
          have hszy := HEY.out.size
          go_wp2_with (at_builtin; refine wpList_append_lies _ rfl (.tmp 62) (.tmp 64) 51 rfl W2.heap.size 23 i1 (.slice none 0 0) 1 24 Tryd.underlying51 HI1.out.1 HI1.out.2.1 HI1.out.2.2.1 HI1.out.2.2.2 rfl (by decide) _ vs.length vs rfl (ownsRow_ext HR.out.out (HEZ.out.alloc _)) ⟨w3.heap.size, 0, none⟩ 1 1 [.slice (some ⟨g3, 0, none⟩) l.length c3] rfl rfl (hnewsE (Ext.refl _) rfl) (fun u hu => by rw [List.mem_singleton.1 hu]; rfl) (by decide) ?d3 ?d4 ?d5 (w3.heap.size + 1) (size_alloc _ _) ?_)
          case d3 => have := HLV.out; unfold maxLen; omega
          case d4 => have := HLV.out; omega
          case d5 => first | omega | (rw [size_alloc]; omega)
          intro g4 cap4 w4 hown4 hgr4 hat4 hlt4
          have hE4 : Ext W2 w4 := Below.grown (HEW.out.trans (HEZ.out.alloc _)) hgr4 (HEW.out.trans (HEZ.out.alloc _)).size (fun i hi => (HR.out.out.lt i hi).1)
          have hstep := HR.out.step (r := none) (xs := [.slice (some ⟨g3, 0, none⟩) l.length c3]) (Ms := [rowC C k]) (HEZ.out.alloc _) rfl (fun i hi => by
            obtain rfl : i = 0 := by simpa using hi
            exact ⟨_, c3, by rw [HLN.out]; rfl, (HNI.out _ (fun b hb => Nat.lt_of_lt_of_le (HR.out.out.lt b hb).2 hszy)).ext (Ext.alloc (Ext.refl _) _)⟩) (fun i hi => by
            obtain rfl : i = 0 := by simpa using hi
            exact ⟨_, c3, by rw [HLN.out]; rfl, (HNI.out _ (fun b hb => by cases hb)).ext (Ext.alloc (Ext.refl _) _)⟩) hown4 hgr4 (by rw [size_alloc]; exact hat4)
          rw [← tabTo_succ] at hstep
          have HE4 := Lib.hid hE4
          have HST := Lib.hid hstep
          clear hown4 hgr4 hat4 hlt4 hE4 hstep
          go_wp2
          go_roundw
          case rel => exact ⟨k + 1, _, by omega, by simp, HE4.out, HST.out, HSN1.out, HCP.out.snoc HOC.out⟩
          case measure => simp [intOf]; omega
    · obtain rfl : k = C.meters.length := by omega
      have hlt' : ¬(C.meters.length : Int) < (C.meters.length : Int) := by omega
      have HER := Lib.hid (errC_ok HVC.out HSO.out)
      go_wp2
      go_ret2
      exact ⟨_, vs, by rw [HER.out]; rfl, by rw [askT_0 HER.out]; exact HR.out.base (HE.out.trans HE2.out).size, HE.out.trans (HE2.out.trans HEW.out), HCP.out⟩
set_option maxRecDepth 20000 in
theorem All06 (C : Ch) (v : Value) (w : World) (hv : ChV w v C) (hs : ChSm C) (hf : ∀ M ∈ C.meters, farB M = false) :
    Calls Tryd.prog 42 #[v] w (RetTb (askT C true) (errC C true) w) := by
  have HN := Lib.hid (fun y (h : Ext w y) => rNumbers06 C true v y (hv.ext h) hs hf)
  obtain ⟨p, c, q, d, rfl, hp, hq⟩ := hv
  clear hp hq
  go_enter Tryd.func42, Tryd.ntmps42
  go_upto_region 1 with (fail)
  obtain ⟨s0, hs0⟩ : ∃ s0, s0 = w.heap.size := ⟨_, rfl⟩
  obtain ⟨W, hW⟩ : ∃ W, W = w.alloc (.cells #[.slice p C.meters.length c, .slice q C.extra.length d, .int .i64 C.frm, .int .i64 C.tto] 25) := ⟨_, rfl⟩
  have m0 : W.heap[s0]? = some (.cells #[.slice p C.meters.length c, .slice q C.extra.length d, .int .i64 C.frm, .int .i64 C.tto] 25) := by rw [hs0, hW]; exact heap_new _ _
  have hE : Ext w W := by rw [hW]; exact Ext.alloc (Ext.refl _) _
  rw [← hs0, ← hW]
  have HNW := Lib.hid (HN.out W hE)
  have d0 := cell_of_heap m0 0
  have d1 := cell_of_heap m0 1
  have d2 := cell_of_heap m0 2
  have d3 := cell_of_heap m0 3
  have HE := Lib.hid hE
  clear hW m0 hE hs0
  go_wp2_with (go_at_call 52; refine HNW.out.mono ?_; rintro e w2 ⟨u, vs, rfl, hR, hE2, hcp⟩)
  go_ret2
  exact ⟨_, vs, rfl, hR.base HE.out.size, HE.out.trans hE2, hcp⟩
end Go.Proofs.YtaoamnhchidjfaaDoor
