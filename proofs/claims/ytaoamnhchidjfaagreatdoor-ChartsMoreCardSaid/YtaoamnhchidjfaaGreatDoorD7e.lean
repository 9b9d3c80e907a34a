
/- The walk of ChartsMore. -/
import Derived.Test.YtaoamnhchidjfaaGreatDoorCE
import Derived.Test.YtaoamnhchidjfaaGreatDoorDA
namespace Go.Proofs.YtaoamnhchidjfaaGreatDoor
open Go.RowKit

theorem inside06 (a b c d : Int) (w : World) (h0 : 0 ≤ c) (h1 : c ≤ a) (h2 : a ≤ b) (h3 : b ≤ d) (h4 : d ≤ 100000) :
    Calls Tryz.prog 36 #[.agg #[.int .i64 a, .int .i64 b], .agg #[.int .i64 c, .int .i64 d]] w (RetE (.bool true) w) := by
  go_enter Tryz.func36, Tryz.ntmps36
  go_wp2
  go_ret
  exact RetE.fin (((Ext.refl _).alloc _).alloc _) rfl
theorem grown_ups {w w' : World} {b : Nat} (h : w.grownBy w' (some b)) : Ups b w w' := by
  have hF := grown_fr h
  exact ⟨hF.os, hF.tape, hF.output, hF.size, fun k hk hne => hF.block k hk fun e => hne (Option.some.inj e).symm⟩
theorem rd_news {w : World} {g : Nat} {x y : Value} {t : TypeId} (h : w.heap[g]? = some (.cells #[x, y] t)) : ∀ (j : Nat) (u : Value), [x, y][j]? = some u → w.cell? ((⟨g, 0, none⟩ : Addr).add j) = some u := by
  intro j u hj
  match j, hj with
  | 0, hj => simp at hj; subst hj; exact cell_of_heap h 0
  | 1, hj => simp at hj; subst hj; exact cell_of_heap h 1
theorem info_rd : (Tryz.prog.info? 51).map (fun i => (i.zero, i.size, i.bytes)) = some (some (.agg #[.int .i64 0, .int .i64 0]), 2, 16) := by kernel_rfl
/-- a new slice of one reading -/
def OneR (b : Nat) (r0 r1 : Int) (v : Value) (_ _ : Nat) (w : World) : Prop := ∃ g, v = .slice (some ⟨g, 0, none⟩) 1 1 ∧ g ≠ b ∧ w.heap[g]? = some (.cells #[.int .i64 r0, .int .i64 r1] 51)
theorem OneR.mono {b : Nat} {r0 r1 : Int} : ∀ v s t w w', Ext w w' → OneR b r0 r1 v s t w → OneR b r0 r1 v s t w' := fun _ _ _ _ _ hE ⟨g, h1, h2, h3⟩ => ⟨g, h1, h2, heap_ext3 h3 hE⟩
theorem OneR.ups {b : Nat} {r0 r1 : Int} {v : Value} {s t : Nat} {w w' : World} (h : OneR b r0 r1 v s t w) (hU : Ups b w w') : OneR b r0 r1 v s t w' := by
  obtain ⟨g, h1, h2, h3⟩ := h
  exact ⟨g, h1, h2, (hU.block g (Array.getElem?_eq_some_iff.1 h3).1 h2).trans h3⟩
/-- the readings with one more -/
def AppR (g2 N B : Nat) (M : Mt) (r : Int × Int) (v : Value) (_ _ : Nat) (w : World) : Prop :=
  ∃ g5 cap5, v = .slice (some ⟨g5, 0, none⟩) (M.reads.length + 1) cap5 ∧ (g5 = g2 ∨ N ≤ g5) ∧ w.ownsRow B 51 2 (.slice (some ⟨g5, 0, none⟩) (M.reads.length + 1) cap5) (M.reads.length + 1) (pairVs (M.reads ++ [r]))
theorem AppR.mono {g2 N B : Nat} {M : Mt} {r : Int × Int} : ∀ v s t w w', Ext w w' → AppR g2 N B M r v s t w → AppR g2 N B M r v s t w' := fun _ _ _ _ _ hE ⟨g5, c5, h1, h2, h3⟩ => ⟨g5, c5, h1, h2, ownsRow_ext h3 hE⟩

theorem ups_ext {W w w' : World} {b : Nat} (hE : Ext W w) (hU : Ups b w w') (hb : W.heap.size ≤ b) : Ext W w' := by
  have hs := hE.size
  exact ⟨hU.os.trans hE.os, hU.tape.trans hE.tape, hU.output.trans hE.output, Nat.le_trans hs hU.size, fun k hk => (hU.block k (by omega) (by omega)).trans (hE.block k hk)⟩

set_option maxRecDepth 20000 in
set_option maxHeartbeats 16000000 in
theorem ChartsMore06 (v : Value) (C : Ch) (r0 r1 t f : Int) (w : World) (hv : ChV w v C) (hwf : (Lit.int .i64 f).wf = true) (hT : TabW w) :
    Calls Tryz.prog 5 #[v, .agg #[.int .i64 r0, .int .i64 r1], .agg #[.int .i64 t, .int .i64 f]] w (RetE (.bool true) w) := by
  have HWF := Lib.hid hwf
  clear hwf
  have HV := Lib.hid hv
  have HT := Lib.hid hT
  obtain ⟨p, c, q, d, rfl, hp, hq⟩ := hv
  clear hp hq hT
  go_enter Tryz.func5, Tryz.ntmps5
  go_upto_region 1 with (fail)
  obtain ⟨s0, hs0⟩ : ∃ s0, s0 = w.heap.size := ⟨_, rfl⟩
  obtain ⟨W, hW⟩ : ∃ W, W = ((w.alloc (.cells #[.slice p C.meters.length c, .slice q C.extra.length d, .int .i64 C.frm, .int .i64 C.tto] 25)).alloc (.cells #[.int .i64 r0, .int .i64 r1] 51)).alloc (.cells #[.int .i64 t, .int .i64 f] 27) := ⟨_, rfl⟩
  have m0 : W.heap[s0]? = some (.cells #[.slice p C.meters.length c, .slice q C.extra.length d, .int .i64 C.frm, .int .i64 C.tto] 25) := by rw [hs0, hW]; exact heap_ext3 (heap_new _ _) (((Ext.refl _).alloc _).alloc _)
  have m1 : W.heap[s0 + 1]? = some (.cells #[.int .i64 r0, .int .i64 r1] 51) := by rw [hs0, hW]; exact heap_ext3 (heap_new2 _ _ _) ((Ext.refl _).alloc _)
  have m2 : W.heap[s0 + 2]? = some (.cells #[.int .i64 t, .int .i64 f] 27) := by rw [hs0, hW]; exact heap_new3 _ _ _ _
  have hE : Ext w W := by rw [hW]; exact Ext.alloc (Ext.alloc (Ext.alloc (Ext.refl _) _) _) _
  rw [← hs0, ← hW]
  rw [show s0 + 1 + 1 = s0 + 2 from rfl]
  obtain ⟨s1, hs1⟩ : ∃ s1, s1 = s0 + 1 := ⟨_, rfl⟩
  obtain ⟨s2, hs2⟩ : ∃ s2, s2 = s0 + 2 := ⟨_, rfl⟩
  rw [← hs1] at m1 ⊢
  rw [← hs2] at m2 ⊢
  have a0 := ExtW.cell (v := .slice p C.meters.length c) (cell_of_heap m0 0)
  have a1 := ExtW.cell (v := .slice q C.extra.length d) (cell_of_heap m0 1)
  have a2 := ExtW.cell (v := .int .i64 C.frm) (cell_of_heap m0 2)
  have a3 := ExtW.cell (v := .int .i64 C.tto) (cell_of_heap m0 3)
  have b0 := ExtW.cell (v := .int .i64 t) (cell_of_heap m2 0)
  have b1 := ExtW.cell (v := .int .i64 f) (cell_of_heap m2 1)
  have HM0 := Lib.hid m0
  have HM1 := Lib.hid m1
  have HM2 := Lib.hid m2
  have HE := Lib.hid hE
  have HVW := Lib.hid (fun y (h : Ext W y) => HV.out.ext (HE.out.trans h))
  have HTW := Lib.hid (HT.out.ext HE.out)
  have HWK := Lib.hid (fun x : ExtW W => ExtW.callX (x := x) (works06 x.w (HTW.out.ext x.h)))
  have HRD := Lib.hid (fun x : ExtW W => ExtW.callX (x := x) (ready06 C _ x.w (HVW.out _ x.h)))
  obtain ⟨y0, hy0⟩ := ExtW.of (Ext.refl W)
  clear hW m0 m1 m2 hE hs0 hs1 hs2
  conv => arg 5; rw [hy0]
  clear hy0
  obtain ⟨b, hb⟩ : ∃ b, readyC C = b := ⟨_, rfl⟩
  rw [hb] at HRD
  cases b
  case false =>
    clear hb
    go_wp2_with (first
    | (go_at_call 24; refine (HRD.out _).mono ?_; rintro e w2 ⟨rfl, xr, rfl, -⟩)
    | (go_at_call 25; refine (HIT.out _).mono ?_; rintro e w2 ⟨rfl, xi, rfl, -⟩)
    | (go_at_call 26; refine (HIF.out _).mono ?_; rintro e w2 ⟨rfl, xf, rfl, -⟩)
    | (go_at_call 12; refine (HWK.out _).mono ?_; rintro e w2 ⟨rfl, xw, rfl, -⟩))
    go_ret
    exact RetE.fin (HE.out.trans xw.h) rfl
  obtain ⟨hfar, hC⟩ := readyC_iff.1 hb
  have HSM := Lib.hid (farC_sm hfar)
  have HC := Lib.hid hC
  have hn6 := hC.nm
  clear hb hfar hC
  have HIT := Lib.hid (fun x : ExtW W => ExtW.callX (x := x) (rIsTitle06 C t _ x.w (HVW.out _ x.h) (by omega)))
  have HIF := Lib.hid (fun x : ExtW W => ExtW.callX (x := x) (rIsRank06 C f _ x.w (HVW.out _ x.h) (by omega)))
  obtain ⟨bt, hbt⟩ : ∃ b, isTB C t = b := ⟨_, rfl⟩
  obtain ⟨bf, hbf⟩ : ∃ b, isFB C f = b := ⟨_, rfl⟩
  rw [hbt] at HIT
  rw [hbf] at HIF
  have HBT := Lib.hid hbt
  have HBF := Lib.hid hbf
  clear hbt hbf
  cases bt
  case false =>
    go_wp2_with (first
    | (go_at_call 24; refine (HRD.out _).mono ?_; rintro e w2 ⟨rfl, xr, rfl, -⟩)
    | (go_at_call 25; refine (HIT.out _).mono ?_; rintro e w2 ⟨rfl, xi, rfl, -⟩)
    | (go_at_call 26; refine (HIF.out _).mono ?_; rintro e w2 ⟨rfl, xf, rfl, -⟩)
    | (go_at_call 12; refine (HWK.out _).mono ?_; rintro e w2 ⟨rfl, xw, rfl, -⟩))
    go_ret
    exact RetE.fin (HE.out.trans xw.h) rfl
  cases bf
  case false =>
    go_wp2_with (first
    | (go_at_call 24; refine (HRD.out _).mono ?_; rintro e w2 ⟨rfl, xr, rfl, -⟩)
    | (go_at_call 25; refine (HIT.out _).mono ?_; rintro e w2 ⟨rfl, xi, rfl, -⟩)
    | (go_at_call 26; refine (HIF.out _).mono ?_; rintro e w2 ⟨rfl, xf, rfl, -⟩)
    | (go_at_call 12; refine (HWK.out _).mono ?_; rintro e w2 ⟨rfl, xw, rfl, -⟩))
    go_ret
    exact RetE.fin (HE.out.trans xw.h) rfl
  obtain ⟨ht0, ht1⟩ := isTB_iff.1 HBT.out
  obtain ⟨hf1, hf2⟩ := isFB_iff.1 HBF.out
  obtain ⟨tn, htn⟩ : ∃ tn : Nat, t = tn := ⟨t.toNat, by omega⟩
  subst htn
  have htl : tn < C.meters.length := by omega
  have HCP := Lib.hid (fun x : ExtW W => Copy06 C _ x.w (HVW.out x.w x.h) HSM.out)
  go_upto_region 4 with (first
    | (go_at_call 24; refine (HRD.out _).mono ?_; rintro e w2 ⟨rfl, xr, rfl, -⟩)
    | (go_at_call 25; refine (HIT.out _).mono ?_; rintro e w2 ⟨rfl, xi, rfl, -⟩)
    | (go_at_call 26; refine (HIF.out _).mono ?_; rintro e w2 ⟨rfl, xf, rfl, -⟩)
    | (go_at_call 13; refine (HCP.out _).mono ?_; rintro e w2 ⟨u, g, cx, rfl, hE2, hG2⟩; obtain ⟨⟨vs, hM2⟩, hX2⟩ := hG2; have HMR := Lib.hid hM2; have HXR := Lib.hid hX2; obtain ⟨gm, cm, g1, c1, g2, c2, rfl, -⟩ := hM2.get htl; have HE2 := Lib.hid hE2; clear hE2 hM2 hX2))
  obtain ⟨gm', cm', g1, c1, g2, c2, hu', hgm, hgm2, e0, e1, e2, fz, hvs, hro⟩ := HMR.out.get htl
  simp only [Value.slice.injEq, Option.some.injEq, Addr.mk.injEq, and_true, true_and] at hu'
  obtain ⟨rfl, rfl⟩ := hu'
  obtain ⟨M, hM⟩ : ∃ M, M = C.meters[tn] := ⟨_, rfl⟩
  rw [← hM] at hvs hro e0 e1 e2
  obtain ⟨s7, hs7⟩ : ∃ s7, s7 = w2.heap.size := ⟨_, rfl⟩
  obtain ⟨W7, hW7⟩ : ∃ W7, W7 = w2.alloc (.cells #[.slice (some ⟨gm, 0, none⟩) C.meters.length cm, .slice (some ⟨g, 0, none⟩) C.extra.length cx, .int .i64 C.frm, .int .i64 C.tto] 25) := ⟨_, rfl⟩
  have hE27 : Ext w2 W7 := by rw [hW7]; exact (Ext.refl _).alloc _
  have hE7 : Ext W W7 := (xf.h.trans HE2.out).trans hE27
  have hsz7 : W7.heap.size = s7 + 1 := by rw [hW7, size_alloc, hs7]
  have hg2 := hro.lt g2 rfl
  have hgx := HXR.out.lt g rfl
  have hxs := xf.h.size
  have hb0 := (Array.getElem?_eq_some_iff.1 HM0.out).1
  have hb1 := (Array.getElem?_eq_some_iff.1 HM1.out).1
  have hb2 := (Array.getElem?_eq_some_iff.1 HM2.out).1
  have hgmo : w2.ownsRow xf.w.heap.size 55 3 (.slice (some ⟨gm, 0, none⟩) C.meters.length cm) C.meters.length vs := HMR.out.out
  have hn1 : gm ≠ g2 := own_ne hgmo hro (by decide)
  have hn2 : g ≠ g2 := own_ne HXR.out hro (by decide)
  have hn3 : g ≠ gm := own_ne HXR.out hgmo (by decide)
  have m0 := heap_ext3 HM0.out hE7
  have m1 := heap_ext3 HM1.out hE7
  have m2 := heap_ext3 HM2.out hE7
  have m7 : W7.heap[s7]? = some (.cells #[.slice (some ⟨gm, 0, none⟩) C.meters.length cm, .slice (some ⟨g, 0, none⟩) C.extra.length cx, .int .i64 C.frm, .int .i64 C.tto] 25) := by rw [hW7, hs7]; exact heap_new _ _
  have HNE := Lib.hid (show s0 < W.heap.size ∧ s1 < W.heap.size ∧ s2 < W.heap.size ∧ W.heap.size ≤ xf.w.heap.size ∧ xf.w.heap.size ≤ gm ∧ gm < s7 ∧ xf.w.heap.size ≤ g2 ∧ g2 < s7 ∧ xf.w.heap.size ≤ g ∧ g < s7 ∧ gm ≠ g2 ∧ g ≠ g2 ∧ g ≠ gm from
    ⟨hb0, hb1, hb2, hxs, hgm, by omega, hg2.1, by omega, hgx.1, by omega, hn1, hn2, hn3⟩)
  have HSB := Lib.hid (show xf.w.heap.size ≤ W7.heap.size ∧ W7.heap.size = s7 + 1 from ⟨by omega, hsz7⟩)
  rw [← hs7, ← hW7]
  have HM0 := Lib.hid m0
  have HM1 := Lib.hid m1
  have HM2 := Lib.hid m2
  have HM7 := Lib.hid m7
  have HE7 := Lib.hid hE7
  have HMR := Lib.hid (HMR.out.ext hE27)
  have HXR := Lib.hid (ownsRow_ext HXR.out hE27)
  have HRO := Lib.hid (ownsRow_ext hro hE27)
  have HVS := Lib.hid hvs
  have HMD := Lib.hid hM
  have HML := Lib.hid (show M.reads.length ≤ 40 from by rw [hM]; exact (HSM.out.mt _ (List.getElem_mem htl)).2)
  have E1 := Lib.hid (show W7.cell? ⟨gm, tn * 3 + 1, none⟩ = some (.slice (some ⟨g2, 0, none⟩) M.reads.length c2) ∧ W7.frozen? ⟨gm, tn * 3 + 1, none⟩ = false from ⟨hE27.cell e1, ownsRow_frozen (ownsRow_ext hgmo hE27)⟩)
  have HKC := Lib.hid (fun y (h : Ups g2 W7 y) => (⟨h.cell (cell_of_heap HM7.out 0) (by have := HNE.out; omega), h.cell (cell_of_heap HM2.out 0) (by have := HNE.out; omega), h.cell E1.out.1 (by have := HNE.out; omega), h.cell (cell_of_heap HM1.out 0) (by have := HNE.out; omega), h.cell (cell_of_heap HM1.out 1) (by have := HNE.out; omega)⟩ :
    y.cell? ⟨s7, 0, none⟩ = some (.slice (some ⟨gm, 0, none⟩) C.meters.length cm) ∧ y.cell? ⟨s2, 0, none⟩ = some (.int .i64 (tn : Int)) ∧ y.cell? ⟨gm, tn * 3 + 1, none⟩ = some (.slice (some ⟨g2, 0, none⟩) M.reads.length c2) ∧ y.cell? ⟨s1, 0, none⟩ = some (.int .i64 r0) ∧ y.cell? ⟨s1, 1, none⟩ = some (.int .i64 r1)))
  have htl' : (tn : Int) < (C.meters.length : Int) := by omega
  have hg2s : g2 < W7.heap.size := by omega
  clear hW7 hs7 hE7 hE27 hsz7 hg2 hgx hxs hb0 hb1 hb2 hgmo hn1 hn2 hn3 m0 m1 m2 m7 e0 e1 e2 fz hvs hro hM hgm hgm2 a0 a1 a2 a3 b0 b1 HRD HIT HIF HCP HE2 HWK
  refine wp_region_facts2 14 [[], [0], [], [2], [], [4], [], [6], [5, 7], [8], [9], [], [11], [10, 12]] [1, 3, 13] 13 [] Ext (Ups g2) (FL [Is (.pointer (some ⟨s7, 0, none⟩)), Is (.slice (some ⟨gm, 0, none⟩) C.meters.length cm), Is (.pointer (some ⟨s2, 0, none⟩)), Is (.int .i64 (tn : Int)), Is (.pointer (some ⟨s7, 0, none⟩)), Is (.slice (some ⟨gm, 0, none⟩) C.meters.length cm), Is (.pointer (some ⟨s2, 0, none⟩)), Is (.int .i64 (tn : Int)), Is (.pointer (some ⟨gm, tn * 3, none⟩)), Is (.pointer (some ⟨gm, tn * 3 + 1, none⟩)), Is (.slice (some ⟨g2, 0, none⟩) M.reads.length c2), Is (.agg #[.int .i64 r0, .int .i64 r1]), OneR g2 r0 r1, AppR g2 W7.heap.size xf.w.heap.size M (r0, r1)]) (by kernel_rfl) (by kernel_rfl) (by kernel_rfl) (fun _ _ => Ups.ext) (fun _ _ _ => Ext.trans) Ext.refl (Ups.refl _) (fun _ _ _ => Ups.trans) (fun _ _ h => h.size) ?_ ?_ ⟨?_, ?_, ?_, ?_, ?_, ?_, ?_, ?_, ?_, ?_, ?_, ?_, ?_, ?_, trivial⟩ ?_
  · exact FL.mono ⟨Is.mono, Is.mono, Is.mono, Is.mono, Is.mono, Is.mono, Is.mono, Is.mono, Is.mono, Is.mono, Is.mono, Is.mono, OneR.mono, AppR.mono, trivial⟩
  · intro j v s t w w' hj hr
    match j, hj with
    | 0, _ => exact fun h => h
    | 1, _ => exact fun h => h
    | 2, _ => exact fun h => h
    | 3, _ => exact fun h => h
    | 4, _ => exact fun h => h
    | 5, _ => exact fun h => h
    | 6, _ => exact fun h => h
    | 7, _ => exact fun h => h
    | 8, _ => exact fun h => h
    | 9, _ => exact fun h => h
    | 10, _ => exact fun h => h
    | 11, _ => exact fun h => h
    | 12, _ => exact fun h => OneR.ups (s := s) (t := t) h hr
    | 13, hj => exact absurd rfl hj
    | n + 14, _ => exact fun h => h
  · refine opF2_step ?_
    intro ys l0 h0 w' hr hs hf K hK
    clear hf
    clear hs
    simp only [fill, Act.put, dstO, List.take_succ_cons, List.take_zero, List.setIfInBounds_toArray, List.set_cons_zero, List.set_cons_succ, List.getElem?_cons_zero, Nat.zero_add, Nat.reduceAdd] at hK ⊢
    refine OpB.mk' ?_
    go_simp
    exact hK.out _ _ rfl (fun h => by cases h) (fun _ => Ext.refl _)
  · refine opF2_step ?_
    intro ys l0 h0 w' hr hs hf K hK
    obtain ⟨f0, -⟩ := hf
    have e0 : ys 0 = _ := f0
    obtain ⟨j0, j1, j2, j3, j4⟩ := HKC.out w' ((Ups.refl g2 W7).drew.trans hr)
    clear hs
    simp only [fill, Act.put, dstO, List.take_succ_cons, List.take_zero, List.setIfInBounds_toArray, List.set_cons_zero, List.set_cons_succ, List.getElem?_cons_zero, List.getElem?_cons_succ, Nat.zero_add, Nat.reduceAdd] at hK ⊢
    simp only [e0] at hK ⊢
    clear e0 f0
    refine OpB.mk' ?_
    go_simp
    exact hK.out _ _ rfl (fun h => by cases h) (fun _ => Ext.refl _)
  · refine opF2_step ?_
    intro ys l0 h0 w' hr hs hf K hK
    clear hf
    clear hs
    simp only [fill, Act.put, dstO, List.take_succ_cons, List.take_zero, List.setIfInBounds_toArray, List.set_cons_zero, List.set_cons_succ, List.getElem?_cons_zero, List.getElem?_cons_succ, Nat.zero_add, Nat.reduceAdd] at hK ⊢
    refine OpB.mk' ?_
    go_simp
    exact hK.out _ _ rfl (fun h => by cases h) (fun _ => Ext.refl _)
  · refine opF2_step ?_
    intro ys l0 h0 w' hr hs hf K hK
    obtain ⟨f0, -⟩ := hf
    have e0 : ys 2 = _ := f0
    obtain ⟨j0, j1, j2, j3, j4⟩ := HKC.out w' ((Ups.refl g2 W7).drew.trans hr)
    clear hs
    simp only [fill, Act.put, dstO, List.take_succ_cons, List.take_zero, List.setIfInBounds_toArray, List.set_cons_zero, List.set_cons_succ, List.getElem?_cons_zero, List.getElem?_cons_succ, Nat.zero_add, Nat.reduceAdd] at hK ⊢
    simp only [e0] at hK ⊢
    clear e0 f0
    refine OpB.mk' ?_
    go_simp
    exact hK.out _ _ rfl (fun h => by cases h) (fun _ => Ext.refl _)
  · refine opF2_step ?_
    intro ys l0 h0 w' hr hs hf K hK
    clear hf
    clear hs
    simp only [fill, Act.put, dstO, List.take_succ_cons, List.take_zero, List.setIfInBounds_toArray, List.set_cons_zero, List.set_cons_succ, List.getElem?_cons_zero, List.getElem?_cons_succ, Nat.zero_add, Nat.reduceAdd] at hK ⊢
    refine OpB.mk' ?_
    go_simp
    exact hK.out _ _ rfl (fun h => by cases h) (fun _ => Ext.refl _)
  · refine opF2_step ?_
    intro ys l0 h0 w' hr hs hf K hK
    obtain ⟨f0, -⟩ := hf
    have e0 : ys 4 = _ := f0
    obtain ⟨j0, j1, j2, j3, j4⟩ := HKC.out w' ((Ups.refl g2 W7).drew.trans hr)
    clear hs
    simp only [fill, Act.put, dstO, List.take_succ_cons, List.take_zero, List.setIfInBounds_toArray, List.set_cons_zero, List.set_cons_succ, List.getElem?_cons_zero, List.getElem?_cons_succ, Nat.zero_add, Nat.reduceAdd] at hK ⊢
    simp only [e0] at hK ⊢
    clear e0 f0
    refine OpB.mk' ?_
    go_simp
    exact hK.out _ _ rfl (fun h => by cases h) (fun _ => Ext.refl _)
  · refine opF2_step ?_
    intro ys l0 h0 w' hr hs hf K hK
    clear hf
    clear hs
    simp only [fill, Act.put, dstO, List.take_succ_cons, List.take_zero, List.setIfInBounds_toArray, List.set_cons_zero, List.set_cons_succ, List.getElem?_cons_zero, List.getElem?_cons_succ, Nat.zero_add, Nat.reduceAdd] at hK ⊢
    refine OpB.mk' ?_
    go_simp
    exact hK.out _ _ rfl (fun h => by cases h) (fun _ => Ext.refl _)
  · refine opF2_step ?_
    intro ys l0 h0 w' hr hs hf K hK
    obtain ⟨f0, -⟩ := hf
    have e0 : ys 6 = _ := f0
    obtain ⟨j0, j1, j2, j3, j4⟩ := HKC.out w' ((Ups.refl g2 W7).drew.trans hr)
    clear hs
    simp only [fill, Act.put, dstO, List.take_succ_cons, List.take_zero, List.setIfInBounds_toArray, List.set_cons_zero, List.set_cons_succ, List.getElem?_cons_zero, List.getElem?_cons_succ, Nat.zero_add, Nat.reduceAdd] at hK ⊢
    simp only [e0] at hK ⊢
    clear e0 f0
    refine OpB.mk' ?_
    go_simp
    exact hK.out _ _ rfl (fun h => by cases h) (fun _ => Ext.refl _)
  · refine opF2_step ?_
    intro ys l0 h0 w' hr hs hf K hK
    obtain ⟨f0, f1, -⟩ := hf
    have e0 : ys 5 = _ := f0
    have e1 : ys 7 = _ := f1
    clear hs
    simp only [fill, Act.put, dstO, List.take_succ_cons, List.take_zero, List.setIfInBounds_toArray, List.set_cons_zero, List.set_cons_succ, List.getElem?_cons_zero, List.getElem?_cons_succ, Nat.zero_add, Nat.reduceAdd] at hK ⊢
    simp only [e0, e1] at hK ⊢
    clear e0 e1 f0 f1
    refine OpB.mk' ?_
    go_simp
    exact hK.out _ _ rfl (fun h => by cases h) (fun _ => Ext.refl _)
  · refine opF2_step ?_
    intro ys l0 h0 w' hr hs hf K hK
    obtain ⟨f0, -⟩ := hf
    have e0 : ys 8 = _ := f0
    clear hs
    simp only [fill, Act.put, dstO, List.take_succ_cons, List.take_zero, List.setIfInBounds_toArray, List.set_cons_zero, List.set_cons_succ, List.getElem?_cons_zero, List.getElem?_cons_succ, Nat.zero_add, Nat.reduceAdd] at hK ⊢
    simp only [e0] at hK ⊢
    clear e0 f0
    refine OpB.mk' ?_
    go_simp
    exact hK.out _ _ rfl (fun h => by cases h) (fun _ => Ext.refl _)
  · refine opF2_step ?_
    intro ys l0 h0 w' hr hs hf K hK
    obtain ⟨f0, -⟩ := hf
    have e0 : ys 9 = _ := f0
    obtain ⟨j0, j1, j2, j3, j4⟩ := HKC.out w' ((Ups.refl g2 W7).drew.trans hr)
    clear hs
    simp only [fill, Act.put, dstO, List.take_succ_cons, List.take_zero, List.setIfInBounds_toArray, List.set_cons_zero, List.set_cons_succ, List.getElem?_cons_zero, List.getElem?_cons_succ, Nat.zero_add, Nat.reduceAdd] at hK ⊢
    simp only [e0] at hK ⊢
    clear e0 f0
    refine OpB.mk' ?_
    go_simp
    exact hK.out _ _ rfl (fun h => by cases h) (fun _ => Ext.refl _)
  · refine opF2_step ?_
    intro ys l0 h0 w' hr hs hf K hK
    clear hf
    obtain ⟨j0, j1, j2, j3, j4⟩ := HKC.out w' ((Ups.refl g2 W7).drew.trans hr)
    clear hs
    simp only [fill, Act.put, dstO, List.take_succ_cons, List.take_zero, List.setIfInBounds_toArray, List.set_cons_zero, List.set_cons_succ, List.getElem?_cons_zero, List.getElem?_cons_succ, Nat.zero_add, Nat.reduceAdd] at hK ⊢
    refine OpB.mk' ?_
    go_simp
    exact hK.out _ _ rfl (fun h => by cases h) (fun _ => Ext.refl _)
  · refine opF2_step ?_
    intro ys l0 h0 w' hr hs hf K hK
    obtain ⟨f0, -⟩ := hf
    have e0 : ys 11 = _ := f0
    clear hs
    simp only [fill, Act.put, dstO, List.take_succ_cons, List.take_zero, List.setIfInBounds_toArray, List.set_cons_zero, List.set_cons_succ, List.getElem?_cons_zero, List.getElem?_cons_succ, Nat.zero_add, Nat.reduceAdd] at hK ⊢
    simp only [e0] at hK ⊢
    clear e0 f0
    refine OpB.mk' ?_
    go_simp
    exact hK.out _ _ ⟨_, rfl, by have := hr.size; have : W7.drew.heap.size = W7.heap.size := rfl; omega, heap_new _ _⟩ (fun h => by cases h) (fun _ => Ext.alloc (Ext.refl _) _)
  · refine opF2_step ?_
    intro ys l0 h0 w' hr hs hf K hK
    obtain ⟨f0, f1, -⟩ := hf
    have e0 : ys 10 = _ := f0
    obtain ⟨gn, e1, hgn, hn⟩ := f1
    have hox := ownsRow_ext HRO.out ((Ext.refl W7).drew.trans (hs (by first | exact Or.inr rfl | exact Or.inl rfl)))
    have hsx := hr.size
    have hdz : W7.drew.heap.size = W7.heap.size := rfl
    have HU := Lib.hid hr
    clear hs
    simp only [fill, Act.put, dstO, List.take_succ_cons, List.take_zero, List.setIfInBounds_toArray, List.set_cons_zero, List.set_cons_succ, List.getElem?_cons_zero, List.getElem?_cons_succ, Nat.zero_add, Nat.reduceAdd] at hK ⊢
    simp only [e0, e1] at hK ⊢
    clear e0 e1 f0
    obtain ⟨i0, hi, hz0, hz1, hz2⟩ := info_parts info_rd
    refine OpB.mkG rfl (wp_append_lies (w := w') (.tmp 57) (.tmp 59) 52 rfl xf.w.heap.size 51 i0 (.agg #[.int .i64 0, .int .i64 0]) 2 16 Tryz.underlying52 hi hz0 hz1 hz2 rfl (by decide) _ M.reads.length (pairVs M.reads) rfl hox ⟨gn, 0, none⟩ 1 1 [.int .i64 r0, .int .i64 r1] rfl rfl (rd_news hn) (by simp [Value.oneCell']) (by decide) (by have := HML.out; unfold maxLen; omega) (by have := HML.out; omega) (by have := HSB.out; omega) w'.heap.size rfl ?_)
    intro g5 cap5 w5 ho5 hg5 hor5 hlt5
    exact hK.out _ _ ⟨g5, cap5, rfl, hor5.imp (fun h => (Option.some.inj h).symm) (fun h => by omega), by rw [pairVs_snoc]; exact ho5⟩ (fun _ => grown_ups hg5) (fun h => absurd rfl h)
  intro ys l0 h0 w2 hr hf hsp
  obtain ⟨f1, f3, f13, -⟩ := hf
  have e1 : ys 1 = _ := f1
  have e3 : ys 3 = _ := f3
  obtain ⟨g5, cap5, e13, hor5, ho5⟩ := f13
  simp only [fill, Act.put, List.take_succ_cons, List.take_zero, List.setIfInBounds_toArray, List.set_cons_zero, List.set_cons_succ, Nat.zero_add, Nat.reduceAdd, List.drop_succ_cons, List.drop_zero]
  rw [e1, e3]
  clear e1 f1 e3 f3
  rw [e13]
  clear hsp
  have hU : Ups g2 W7 w2 := (Ups.refl g2 W7).drew.trans hr
  have hF : Fr (fun k => k = g2) W7 w2 := ⟨hU.os, hU.tape, hU.output, hU.size, fun k hk hE => hU.block k hk hE⟩
  obtain ⟨n0, n1, n2, nB, ngm, ngm7, ng2, ng27, ng, ng7, hn1, hn2, hn3⟩ := HNE.out
  have c1 : w2.cell? ⟨gm, tn * 3 + 1, none⟩ = some (.slice (some ⟨g2, 0, none⟩) M.reads.length c2) := hU.cell E1.out.1 hn1
  have f1 : w2.frozen? ⟨gm, tn * 3 + 1, none⟩ = false := ownsRow_frozen (ownsRow_fr HMR.out.out hF (fun x hx hxg => by cases hx; exact hn1 hxg))
  have HU := Lib.hid hU
  have HO5 := Lib.hid ho5
  have HOR := Lib.hid hor5
  clear hr hU hF ho5 hor5 e13 hg2s n0 n1 n2 nB ngm ngm7 ng2 ng27 ng ng7 hn1 hn2 hn3
  go_upto_region 5 with (fail)
  obtain ⟨W9, hW9⟩ : ∃ W9, W9 = w2.setCell ⟨gm, tn * 3 + 1, none⟩ (.slice (some ⟨g5, 0, none⟩) (M.reads.length + 1) cap5) := ⟨_, rfl⟩
  obtain ⟨n0, n1, n2, nB, ngm, ngm7, ng2, ng27, ng, ng7, hn1, hn2, hn3⟩ := HNE.out
  have hF : Fr (fun k => k = g2) W7 w2 := ⟨HU.out.os, HU.out.tape, HU.out.output, HU.out.size, fun k hk hE => HU.out.block k hk hE⟩
  have hmd := HMD.out
  have hmt : mtC C tn = M := by rw [mtC_get htl, hmd]
  have hR9 : MtR W9 xf.w.heap.size (.slice (some ⟨gm, 0, none⟩) C.meters.length cm) (vs.set (tn * 3 + 1) (.slice (some ⟨g5, 0, none⟩) (M.reads.length + 1) cap5)) (C.meters.set tn (moreM (mtC C tn) (r0, r1))) := by
    rw [hW9, hmt, hmd]
    exact MtR.setR HMR.out htl (r0, r1) (by rw [← hmd]; exact HVS.out) (by rw [← hmd]; exact HO5.out) HU.out HOR.out
  have hX9 : W9.ownsRow xf.w.heap.size 3 1 (.slice (some ⟨g, 0, none⟩) C.extra.length cx) C.extra.length (intVs C.extra) := by
    rw [hW9]
    refine ownsRow_fr (ownsRow_fr HXR.out hF fun x hx hxg => by cases hx; exact hn2 hxg) ((Fr.refl (fun k => k = gm) w2).set (c := gm) rfl) fun x hx hxg => by cases hx; exact hn3 hxg
  have hG9 : ChG W9 xf.w.heap.size (.slice (some ⟨gm, 0, none⟩) C.meters.length cm) g cx (moreC C tn (r0, r1)) := ⟨⟨_, hR9⟩, hX9⟩
  have hE9 : Ext W W9 := by rw [hW9]; exact Ext.setCell (p := ⟨gm, tn * 3 + 1, none⟩) (ups_ext HE7.out HU.out (by omega)) (by show W.heap.size ≤ gm; omega) _
  have kb : ∀ (b : Nat) (o : Obj), b ≠ g2 → b ≠ gm → W7.heap[b]? = some o → W9.heap[b]? = some o := fun b o h1 h2 ho => by
    rw [hW9]
    exact heap_set_ne h2 ((HU.out.block b (Array.getElem?_eq_some_iff.1 ho).1 h1).trans ho)
  have m0 := kb _ _ (by omega) (by omega) HM0.out
  have m2 := kb _ _ (by omega) (by omega) HM2.out
  have m7 := kb _ _ (by omega) (by omega) HM7.out
  rw [← hW9]
  obtain ⟨O, hO⟩ : ∃ O, O = moreC C tn (r0, r1) := ⟨_, rfl⟩
  have hol : O.meters.length = C.meters.length := by rw [hO, moreC_len]
  have hvo : ∀ y, Ext W9 y → ChV y (.agg #[.slice (some ⟨gm, 0, none⟩) C.meters.length cm, .slice (some ⟨g, 0, none⟩) C.extra.length cx, .int .i64 C.frm, .int .i64 C.tto]) O := fun y h => by rw [hO]; exact (hG9.ext h).ch
  clear c1 f1 hW9 n0 n1 n2 nB ngm ngm7 ng2 ng27 ng ng7 hn1 hn2 hn3 hF hmd hmt hR9 hX9 hG9 kb
  have a0 := ExtW.cell (v := .slice p C.meters.length c) (cell_of_heap m0 0)
  have a1 := ExtW.cell (v := .slice q C.extra.length d) (cell_of_heap m0 1)
  have a2 := ExtW.cell (v := .int .i64 C.frm) (cell_of_heap m0 2)
  have a3 := ExtW.cell (v := .int .i64 C.tto) (cell_of_heap m0 3)
  have b0 := ExtW.cell (v := .int .i64 (tn : Int)) (cell_of_heap m2 0)
  have b1 := ExtW.cell (v := .int .i64 f) (cell_of_heap m2 1)
  have k0 := ExtW.cell (v := .slice (some ⟨gm, 0, none⟩) C.meters.length cm) (cell_of_heap m7 0)
  have k1 := ExtW.cell (v := .slice (some ⟨g, 0, none⟩) C.extra.length cx) (cell_of_heap m7 1)
  have k2 := ExtW.cell (v := .int .i64 C.frm) (cell_of_heap m7 2)
  have k3 := ExtW.cell (v := .int .i64 C.tto) (cell_of_heap m7 3)
  have HM0 := Lib.hid m0
  have HM2 := Lib.hid m2
  have HM7 := Lib.hid m7
  have HE9 := Lib.hid hE9
  have HEW := Lib.hid (HE.out.trans hE9)
  have HVO := Lib.hid hvo
  have HOD := Lib.hid hO
  have HOL := Lib.hid hol
  have HTX := Lib.hid (fun x : ExtW W9 => HTW.out.ext (HE9.out.trans x.h))
  have HVX := Lib.hid (fun x : ExtW W9 => HVW.out x.w (HE9.out.trans x.h))
  have HWK := Lib.hid (fun x : ExtW W9 => ExtW.callX (x := x) (works06 x.w (HTX.out x)))
  have HRD := Lib.hid (fun x : ExtW W9 => ExtW.callX (x := x) (ready06 O _ x.w (HVO.out _ x.h)))
  obtain ⟨y9, hy9⟩ := ExtW.of (Ext.refl W9)
  clear m0 m2 m7 hE9 hvo hO hol
  conv => arg 5; rw [hy9]
  clear hy9
  obtain ⟨b2, hb2⟩ : ∃ b, readyC O = b := ⟨_, rfl⟩
  rw [hb2] at HRD
  cases b2
  case false =>
    clear hb2
    go_wp2_with (first
      | (go_at_call 24; refine (HRD.out _).mono ?_; rintro e w2 ⟨rfl, xr, rfl, -⟩)
      | (go_at_call 12; refine (HWK.out _).mono ?_; rintro e w2 ⟨rfl, xw, rfl, -⟩))
    go_ret
    exact RetE.fin (HEW.out.trans xw.h) rfl
  obtain ⟨hfar, hOV⟩ := readyC_iff.1 hb2
  have HOS := Lib.hid (farC_sm hfar)
  have HOV := Lib.hid hOV
  clear hb2 hfar hOV
  obtain ⟨z, hz⟩ : ∃ z, z = errC C true := ⟨_, rfl⟩
  obtain ⟨z2, hz2⟩ : ∃ z, z = errC O true := ⟨_, rfl⟩
  obtain ⟨n1, hn1⟩ : ∃ n, n = ordersA C := ⟨_, rfl⟩
  obtain ⟨n2, hn2⟩ : ∃ n, n = ordersA O := ⟨_, rfl⟩
  have HOC := Lib.hid (fun x : ExtW W9 => ExtW.callX (v := .tuple #[.int .i64 n1, .int .i64 z]) (x := x) (by
    have h := Orders06 C _ x.w (HVX.out x) HSM.out (HTX.out x)
    rw [← hn1, ← hz] at h
    exact h))
  have HOO := Lib.hid (fun x : ExtW W9 => ExtW.callX (v := .tuple #[.int .i64 n2, .int .i64 z2]) (x := x) (by
    have h := Orders06 O _ x.w (HVO.out _ x.h) HOS.out (HTX.out x)
    rw [← hn2, ← hz2] at h
    exact h))
  have hzz := errC_two HC.out
  have hzz2 := errC_two HOV.out
  rw [← hz] at hzz
  rw [← hz2] at hzz2
  have HKN := Lib.hid (fun (n : Int) (h : n = 0 ∨ n = 3) (x : ExtW W9) => ExtW.callX (v := .bool true) (x := x) (by
    have h1 := isKnown06 n x.w
    rw [show (decide (n = 0) || decide (n = 3)) = true from by rcases h with e | e <;> rw [e] <;> rfl] at h1
    exact h1))
  have HZ := Lib.hid hz
  have HZ2 := Lib.hid hz2
  have HN1 := Lib.hid hn1
  have HN2 := Lib.hid hn2
  have HZZ := Lib.hid hzz
  have HZZ2 := Lib.hid hzz2
  clear hz hz2 hn1 hn2
  go_upto_region 7 with (go_at_call 24; refine (HRD.out _).mono ?_; rintro e w2 ⟨rfl, xr, rfl, -⟩)
  go_upto_region 8 with (go_at_call 34; refine (HOC.out _).mono ?_; rintro e w2 ⟨rfl, x2, rfl, -⟩)
  go_upto_region 9 with (go_at_call 34; refine (HOO.out _).mono ?_; rintro e w2 ⟨rfl, x3, rfl, -⟩)
  by_cases hz2 : z2 = 0
  case neg =>
    have h3 : z2 = 3 := by omega
    subst h3
    clear hz2 hzz2
    rcases hzz with h | h
    all_goals
      subst h
      go_wp2_with (first
        | (go_at_call 35; refine (HKN.out _ (by first | exact Or.inl rfl | exact Or.inr rfl) _).mono ?_; rintro e w2 ⟨rfl, x4, rfl, -⟩)
        | (go_at_call 12; refine (HWK.out _).mono ?_; rintro e w2 ⟨rfl, xw, rfl, -⟩))
      go_ret
      exact RetE.fin (HEW.out.trans xw.h) rfl
  subst hz2
  clear hzz2
  obtain ⟨T, hTT⟩ : ∃ T, T = tabC C := ⟨_, rfl⟩
  obtain ⟨U, hUU⟩ : ∃ U, U = tabC O := ⟨_, rfl⟩
  obtain ⟨hOv, -, hso2⟩ := errC_0 HZ2.out.symm
  have hOD := HOD.out
  have hOL := HOL.out
  have hso : someN C C.meters.length = false := by
    rw [hOL, hOD] at hso2
    exact moreC_some HC.out htl (hOD ▸ hOv) hso2
  have hz : z = 0 := by rw [HZ.out]; exact errC_ok HC.out hso
  subst hz
  clear hzz
  have hSub : SubT U T := by
    rw [hTT, hUU, hOD]
    rw [hOL, hOD] at hso2
    exact moreC_sub HC.out htl (hOD ▸ hOv) hso2
  have hGT := tabC_ok HC.out hso
  have hGU := tabC_ok hOv hso2
  rw [← hTT] at hGT
  rw [← hUU] at hGU
  have hTL : T.length = C.meters.length := by rw [hTT, tabC_len]
  have hUL : U.length = C.meters.length := by rw [hUU, tabC_len, hOL]
  have hn1 : n1 = ((allO T.length (rowT T)).length : Nat) := by rw [HN1.out]; unfold ordersA; rw [← HZ.out, okN_0 rfl, hTL, hTT]
  have hn2 : n2 = ((allO T.length (rowT U)).length : Nat) := by rw [HN2.out]; unfold ordersA; rw [← HZ2.out, okN_0 rfl, hTL, hOL, hUU]
  have g1 : ¬n1 < n2 := by have := ords_sub hGU.ok hGT.ok hSub; omega
  have g2' : ¬n2 < 1 := by have := allO_pos (n := T.length) hGU.ok.row (fun i hi => hGU.ok.ne (by omega)); omega
  have HG := Lib.hid (And.intro hGT hGU)
  have HSUB := Lib.hid hSub
  have HTU := Lib.hid (And.intro hTT hUU)
  have HTUL := Lib.hid (And.intro hTL hUL)
  have hetC : ∀ k : Nat, k < C.meters.length → errT C k = 0 := fun k hk => by unfold errT; rw [show isTB C k = true from isTB_iff.2 ⟨by omega, by omega⟩]; exact HZ.out.symm
  have hetO : ∀ k : Nat, k < C.meters.length → errT O k = 0 := fun k hk => by unfold errT; rw [show isTB O k = true from isTB_iff.2 ⟨by omega, by omega⟩]; exact HZ2.out.symm
  have hefC : ∀ n : Int, 1 ≤ n → n ≤ C.meters.length → errF C n = 0 := fun n h1 h2 => by unfold errF; rw [show isFB C n = true from isFB_iff.2 ⟨h1, h2⟩]; exact HZ.out.symm
  have hefO : ∀ n : Int, 1 ≤ n → n ≤ C.meters.length → errF O n = 0 := fun n h1 h2 => by unfold errF; rw [show isFB O n = true from isFB_iff.2 ⟨h1, by omega⟩]; exact HZ2.out.symm
  have HRC := Lib.hid (fun (k : Nat) (hk : k < C.meters.length) (x : ExtW W9) => ExtW.callX (v := .tuple #[.agg #[.int .i64 ((rkLo T k : Nat) : Int), .int .i64 ((rkHi T k : Nat) : Int)], .int .i64 0]) (x := x) (by
    have h := Rank06 C k _ x.w (HVX.out x) HSM.out (HTX.out x)
    unfold rankLoA rankHiA at h
    rw [hetC k hk, okN_0 rfl, okN_0 rfl, ← hTT] at h
    exact h))
  have HRO := Lib.hid (fun (k : Nat) (hk : k < C.meters.length) (x : ExtW W9) => ExtW.callX (v := .tuple #[.agg #[.int .i64 ((rkLo U k : Nat) : Int), .int .i64 ((rkHi U k : Nat) : Int)], .int .i64 0]) (x := x) (by
    have h := Rank06 O k _ x.w (HVO.out _ x.h) HOS.out (HTX.out x)
    unfold rankLoA rankHiA at h
    rw [hetO k hk, okN_0 rfl, okN_0 rfl, ← hUU] at h
    exact h))
  have HCC := Lib.hid (fun (n : Int) (h1 : 1 ≤ n) (h2 : n ≤ C.meters.length) (x : ExtW W9) => ExtW.callX (v := .tuple #[.agg #[.int .i64 (cutN T.length (loT T) n), .int .i64 (cutN T.length (hiT T) n)], .int .i64 0]) (x := x) (by
    have h := Cut06 C n _ x.w (HVX.out x) HSM.out (HTX.out x) (wf_sm (by omega) (by omega))
    unfold cutLoA cutHiA at h
    rw [hefC n h1 h2, okN_0 rfl, okN_0 rfl, ← hTT] at h
    exact h))
  have HCO := Lib.hid (fun (n : Int) (h1 : 1 ≤ n) (h2 : n ≤ C.meters.length) (x : ExtW W9) => ExtW.callX (v := .tuple #[.agg #[.int .i64 (cutN U.length (loT U) n), .int .i64 (cutN U.length (hiT U) n)], .int .i64 0]) (x := x) (by
    have h := Cut06 O n _ x.w (HVO.out _ x.h) HOS.out (HTX.out x) (wf_sm (by omega) (by omega))
    unfold cutLoA cutHiA at h
    rw [hefO n h1 h2, okN_0 rfl, okN_0 rfl, ← hUU] at h
    exact h))
  have HEC := Lib.hid (And.intro (hefC f hf1 hf2) (hefO f hf1 hf2))
  clear hTT hUU hOv hso2 hOD hOL hso hSub hGT hGU hTL hUL hn1 hn2 hetC hetO hefC hefO HRD HOC HOO
  go_upto_region 13 with (go_at_call 35; refine (HKN.out _ (by first | exact Or.inl rfl | exact Or.inr rfl) _).mono ?_; rintro e w2 ⟨rfl, x4, rfl, -⟩)
  clear g1 g2' HKN
  go_wp2
  go_loopw [12] (fun i wr => ∃ (k : Nat) (x : ExtW W9), k ≤ C.meters.length ∧ i = .int .i64 k ∧ wr = x.w) (fun i _ => C.meters.length - (intOf i).toNat)
  case atStart => exact ⟨0, _, Nat.zero_le _, rfl, rfl⟩
  case round =>
    obtain ⟨k, x5, hk, rfl, rfl⟩ := hrel
    by_cases hlt : k < C.meters.length
    · have hlt' : (k : Int) < (C.meters.length : Int) := by omega
      obtain ⟨hGT, hGU⟩ := HG.out
      obtain ⟨hTL, hUL⟩ := HTUL.out
      have hb1 := rk_sub hGU.ok hGT.ok HSUB.out (i := k) (by omega)
      have hb2 := rk_le hGT.ok (i := k) (by omega)
      have hb3 := rk_le hGU.ok (i := k) (by omega)
      have hb4 := cut_sub hGU.ok hGT.ok HSUB.out (k := k + 1) (by omega) (by omega)
      have hb5 := cut_bd hGT (k := k + 1) (by omega) (by omega) (tru_lo hGT.ok)
      have hb6 := cut_bd hGT (k := k + 1) (by omega) (by omega) (tru_hi hGT.ok)
      rw [show ((k + 1 : Nat) : Int) = (k : Int) + 1 from by omega] at hb4 hb5 hb6
      have HQ1 := Lib.hid (show 0 ≤ ((rkLo T k : Nat) : Int) ∧ ((rkLo T k : Nat) : Int) ≤ ((rkLo U k : Nat) : Int) ∧ ((rkLo U k : Nat) : Int) ≤ ((rkHi U k : Nat) : Int) ∧ ((rkHi U k : Nat) : Int) ≤ ((rkHi T k : Nat) : Int) ∧ ((rkHi T k : Nat) : Int) ≤ 100000 from by have := hGT.len; omega)
      have HQ2 := Lib.hid (show 0 ≤ cutN T.length (loT T) ((k : Int) + 1) ∧ cutN T.length (loT T) ((k : Int) + 1) ≤ cutN U.length (loT U) ((k : Int) + 1) ∧ cutN U.length (loT U) ((k : Int) + 1) ≤ cutN U.length (hiT U) ((k : Int) + 1) ∧ cutN U.length (hiT U) ((k : Int) + 1) ≤ cutN T.length (hiT T) ((k : Int) + 1) ∧ cutN T.length (hiT T) ((k : Int) + 1) ≤ 100000 from by omega)
      have HR1 := Lib.hid (HRC.out k hlt)
      have HR2 := Lib.hid (HRO.out k hlt)
      have HR3 := Lib.hid (HCC.out ((k : Int) + 1) (by omega) (by omega))
      have HR4 := Lib.hid (HCO.out ((k : Int) + 1) (by omega) (by omega))
      clear hGT hGU hTL hUL hb1 hb2 hb3 hb4 hb5 hb6
      go_upto_region 17 with (go_at_call 18; refine (HR1.out _).mono ?_; rintro e w2 ⟨rfl, z1, rfl, hE2⟩)
      obtain ⟨p0, hs⟩ : ∃ s, s = z1.w.heap.size := ⟨_, rfl⟩
      obtain ⟨Wn, hWn⟩ : ∃ Wn, Wn = z1.w.alloc (.cells #[.int .i64 ((rkLo T k : Nat) : Int), .int .i64 ((rkHi T k : Nat) : Int)] 36) := ⟨_, rfl⟩
      have hEn : Ext W9 Wn := by rw [hWn]; exact z1.h.alloc _
      have mn : Wn.heap[p0]? = some (.cells #[.int .i64 ((rkLo T k : Nat) : Int), .int .i64 ((rkHi T k : Nat) : Int)] 36) := by rw [hWn, hs]; exact heap_new _ _
      rw [← hs, ← hWn]
      obtain ⟨y0, hyn⟩ := ExtW.of hEn
      conv => arg 5; rw [hyn]
      rw [hyn] at mn
      have HB0 := Lib.hid mn
      clear hs hWn hEn mn hyn hE2
      go_upto_region 18 with (go_at_call 18; refine (HR2.out _).mono ?_; rintro e w2 ⟨rfl, z2, rfl, hE2⟩)
      obtain ⟨p1, hs⟩ : ∃ s, s = z2.w.heap.size := ⟨_, rfl⟩
      obtain ⟨Wn, hWn⟩ : ∃ Wn, Wn = z2.w.alloc (.cells #[.int .i64 ((rkLo U k : Nat) : Int), .int .i64 ((rkHi U k : Nat) : Int)] 36) := ⟨_, rfl⟩
      have hEn : Ext W9 Wn := by rw [hWn]; exact z2.h.alloc _
      have mn : Wn.heap[p1]? = some (.cells #[.int .i64 ((rkLo U k : Nat) : Int), .int .i64 ((rkHi U k : Nat) : Int)] 36) := by rw [hWn, hs]; exact heap_new _ _
      have mo0 := heap_ext3 HB0.out ((show Ext y0.w Wn from by rw [hWn]; exact hE2.alloc _))
      rw [← hs, ← hWn]
      obtain ⟨y1, hyn⟩ := ExtW.of hEn
      conv => arg 5; rw [hyn]
      rw [hyn] at mn
      rw [hyn] at mo0
      clear HB0
      have HB0 := Lib.hid mo0
      clear mo0
      have HB1 := Lib.hid mn
      clear hs hWn hEn mn hyn hE2
      go_upto_region 19 with (go_at_call 20; refine (HR3.out _).mono ?_; rintro e w2 ⟨rfl, z3, rfl, hE2⟩)
      obtain ⟨p2, hs⟩ : ∃ s, s = z3.w.heap.size := ⟨_, rfl⟩
      obtain ⟨Wn, hWn⟩ : ∃ Wn, Wn = z3.w.alloc (.cells #[.int .i64 (cutN T.length (loT T) ((k : Int) + 1)), .int .i64 (cutN T.length (hiT T) ((k : Int) + 1))] 36) := ⟨_, rfl⟩
      have hEn : Ext W9 Wn := by rw [hWn]; exact z3.h.alloc _
      have mn : Wn.heap[p2]? = some (.cells #[.int .i64 (cutN T.length (loT T) ((k : Int) + 1)), .int .i64 (cutN T.length (hiT T) ((k : Int) + 1))] 36) := by rw [hWn, hs]; exact heap_new _ _
      have mo0 := heap_ext3 HB0.out ((show Ext y1.w Wn from by rw [hWn]; exact hE2.alloc _))
      have mo1 := heap_ext3 HB1.out ((show Ext y1.w Wn from by rw [hWn]; exact hE2.alloc _))
      rw [← hs, ← hWn]
      obtain ⟨y2, hyn⟩ := ExtW.of hEn
      conv => arg 5; rw [hyn]
      rw [hyn] at mn
      rw [hyn] at mo0
      clear HB0
      have HB0 := Lib.hid mo0
      clear mo0
      rw [hyn] at mo1
      clear HB1
      have HB1 := Lib.hid mo1
      clear mo1
      have HB2 := Lib.hid mn
      clear hs hWn hEn mn hyn hE2
      go_upto_region 20 with (go_at_call 20; refine (HR4.out _).mono ?_; rintro e w2 ⟨rfl, z4, rfl, hE2⟩)
      obtain ⟨p3, hs⟩ : ∃ s, s = z4.w.heap.size := ⟨_, rfl⟩
      obtain ⟨Wn, hWn⟩ : ∃ Wn, Wn = z4.w.alloc (.cells #[.int .i64 (cutN U.length (loT U) ((k : Int) + 1)), .int .i64 (cutN U.length (hiT U) ((k : Int) + 1))] 36) := ⟨_, rfl⟩
      have hEn : Ext W9 Wn := by rw [hWn]; exact z4.h.alloc _
      have mn : Wn.heap[p3]? = some (.cells #[.int .i64 (cutN U.length (loT U) ((k : Int) + 1)), .int .i64 (cutN U.length (hiT U) ((k : Int) + 1))] 36) := by rw [hWn, hs]; exact heap_new _ _
      have mo0 := heap_ext3 HB0.out ((show Ext y2.w Wn from by rw [hWn]; exact hE2.alloc _))
      have mo1 := heap_ext3 HB1.out ((show Ext y2.w Wn from by rw [hWn]; exact hE2.alloc _))
      have mo2 := heap_ext3 HB2.out ((show Ext y2.w Wn from by rw [hWn]; exact hE2.alloc _))
      rw [← hs, ← hWn]
      obtain ⟨y3, hyn⟩ := ExtW.of hEn
      conv => arg 5; rw [hyn]
      rw [hyn] at mn
      rw [hyn] at mo0
      clear HB0
      have HB0 := Lib.hid mo0
      clear mo0
      rw [hyn] at mo1
      clear HB1
      have HB1 := Lib.hid mo1
      clear mo1
      rw [hyn] at mo2
      clear HB2
      have HB2 := Lib.hid mo2
      clear mo2
      have HB3 := Lib.hid mn
      clear hs hWn hEn mn hyn hE2
      obtain ⟨W20, hW20⟩ : ∃ W20, W20 = y3.w := ⟨_, rfl⟩
      have hE20 : Ext W9 W20 := by rw [hW20]; exact y3.h
      rw [← hW20] at HB0 HB1 HB2 HB3 ⊢
      have d0 := ExtW.cell (v := .int .i64 ((rkLo T k : Nat) : Int)) (cell_of_heap HB0.out 0)
      have d1 := ExtW.cell (v := .int .i64 ((rkHi T k : Nat) : Int)) (cell_of_heap HB0.out 1)
      have d2 := ExtW.cell (v := .int .i64 ((rkLo U k : Nat) : Int)) (cell_of_heap HB1.out 0)
      have d3 := ExtW.cell (v := .int .i64 ((rkHi U k : Nat) : Int)) (cell_of_heap HB1.out 1)
      have d4 := ExtW.cell (v := .int .i64 (cutN T.length (loT T) ((k : Int) + 1))) (cell_of_heap HB2.out 0)
      have d5 := ExtW.cell (v := .int .i64 (cutN T.length (hiT T) ((k : Int) + 1))) (cell_of_heap HB2.out 1)
      have d6 := ExtW.cell (v := .int .i64 (cutN U.length (loT U) ((k : Int) + 1))) (cell_of_heap HB3.out 0)
      have d7 := ExtW.cell (v := .int .i64 (cutN U.length (hiT U) ((k : Int) + 1))) (cell_of_heap HB3.out 1)
      have HE20 := Lib.hid hE20
      have HIN := Lib.hid (fun (a b c d : Int) (h : 0 ≤ c ∧ c ≤ a ∧ a ≤ b ∧ b ≤ d ∧ d ≤ 100000) (x : ExtW W20) => ExtW.callX (v := .bool true) (x := x) (inside06 a b c d x.w h.1 h.2.1 h.2.2.1 h.2.2.2.1 h.2.2.2.2))
      obtain ⟨y20, hy20⟩ := ExtW.of (Ext.refl W20)
      clear hW20 hE20 a0 a1 a2 a3 b0 b1 k0 k1 k2 k3 HR1 HR2 HR3 HR4
      conv => arg 5; rw [hy20]
      clear hy20
      go_upto_region 15 with (go_at_call 36; refine (HIN.out _ _ _ _ (by first | with_reducible exact HQ1.out | with_reducible exact HQ2.out) _).mono ?_; rintro e w2 ⟨rfl, x6, rfl, -⟩)
      go_wp2
      go_roundw
      case rel => exact ⟨k + 1, ⟨_, HE20.out.trans x6.h⟩, by omega, by simp, rfl⟩
      case measure => simp [intOf]; omega
    · obtain rfl : k = C.meters.length := by omega
      have hge : ¬(C.meters.length : Int) < (C.meters.length : Int) := by omega
      obtain ⟨hefC, hefO⟩ := HEC.out
      obtain ⟨hTT, hUU⟩ := HTU.out
      obtain ⟨hGT, hGU⟩ := HG.out
      have htC : topA C f = topL T f := by unfold topA; rw [hefC, okL_0 rfl, ← hTT]
      have htO : topA O f = topL U f := by unfold topA; rw [hefO, okL_0 rfl, ← hUU]
      have hmC : mayA C f = mayL T f := by unfold mayA; rw [hefC, okL_0 rfl, ← hTT]
      have hmO : mayA O f = mayL U f := by unfold mayA; rw [hefO, okL_0 rfl, ← hUU]
      have HT1 := Lib.hid (fun x : ExtW W9 => ExtW.callL (l := topL T f) (n := 0) (x := x) (by
        have h := Top06 C f _ x.w (HVX.out x) HSM.out (HTX.out x) HWF.out
        rw [hefC, htC] at h
        exact h))
      have HT2 := Lib.hid (fun x : ExtW W9 => ExtW.callL (l := topL U f) (n := 0) (x := x) (by
        have h := Top06 O f _ x.w (HVO.out _ x.h) HOS.out (HTX.out x) HWF.out
        rw [hefO, htO] at h
        exact h))
      have HM1 := Lib.hid (fun x : ExtW W9 => ExtW.callL (l := mayL T f) (n := 0) (x := x) (by
        have h := May06 C f _ x.w (HVX.out x) HSM.out (HTX.out x) HWF.out
        rw [hefC, hmC] at h
        exact h))
      have HM2 := Lib.hid (fun x : ExtW W9 => ExtW.callL (l := mayL U f) (n := 0) (x := x) (by
        have h := May06 O f _ x.w (HVO.out _ x.h) HOS.out (HTX.out x) HWF.out
        rw [hefO, hmO] at h
        exact h))
      have hs1 := top_sub hGU.ok hGT.ok HSUB.out f
      have hs2 := may_sub hGU.ok hGT.ok HSUB.out f
      have HS1 := Lib.hid (show (∀ x ∈ topL T f, x ∈ topL U f) ∧ (topL T f).length ≤ (topL U f).length ∧ (topL U f).length ≤ 6 from ⟨hs1, top_sub_len hGU.ok hGT.ok HSUB.out f, Nat.le_trans pick_max hGU.len⟩)
      have HS2 := Lib.hid (show (∀ x ∈ mayL U f, x ∈ mayL T f) ∧ (mayL U f).length ≤ (mayL T f).length ∧ (mayL T f).length ≤ 6 from ⟨hs2, may_sub_len hGU.ok hGT.ok HSUB.out f, Nat.le_trans pick_max hGT.len⟩)
      clear hefC hefO hTT hUU hGT hGU htC htO hmC hmO hs1 hs2 HRC HRO HCC HCO
      go_upto_region 23 with (go_at_call 29; refine (HT1.out _).mono ?_; rintro e w2 ⟨pk, ck, rfl, x6, rfl, -, hi6, -⟩)
      go_upto_region 24 with (go_at_call 29; refine (HT2.out _).mono ?_; rintro e w2 ⟨pl, cl, rfl, x7, rfl, hE7, hi7, -⟩)
      go_upto_region 25 with (go_at_call 30; refine (HM1.out _).mono ?_; rintro e w2 ⟨pp, cp, rfl, x8, rfl, hE8, hi8, -⟩)
      go_upto_region 26 with (go_at_call 30; refine (HM2.out _).mono ?_; rintro e w2 ⟨pq, cq, rfl, x9, rfl, hE9', hi9, -⟩)
      have hA1 := ((hi6.ext hE7).ext hE8).ext hE9'
      have hA2 := (hi7.ext hE8).ext hE9'
      have hA3 := hi8.ext hE9'
      have HK := Lib.hid (fun x : ExtW x9.w => ExtW.callX (v := .bool true) (x := x) (subset06 pk pl (topL T f) (topL U f) ck cl x.w (hA1.ext x.h) (hA2.ext x.h) HS1.out.2.1 HS1.out.2.2 HS1.out.1))
      have HL := Lib.hid (fun (x : ExtW x9.w) (_ : ExtW x9.w → True) => ExtW.callX (v := .bool true) (x := x) (subset06 pq pp (mayL U f) (mayL T f) cq cp x.w (hi9.ext x.h) (hA3.ext x.h) HS2.out.2.1 HS2.out.2.2 HS2.out.1))
      have HWL := Lib.hid (fun x : ExtW x9.w => ExtW.callX (x := x) (works06 x.w (HTX.out ⟨x.w, x9.h.trans x.h⟩)))
      have HX9 := Lib.hid x9.h
      obtain ⟨W26, hW26⟩ : ∃ W26, W26 = x9.w := ⟨_, rfl⟩
      rw [← hW26] at HK HL HWL HX9 ⊢
      obtain ⟨y26, hy26⟩ := ExtW.of (Ext.refl W26)
      clear hi6 hi7 hi8 hi9 hE7 hE8 hE9' hA1 hA2 hA3 HT1 HT2 HM1 HM2 HWK hW26
      conv => arg 5; rw [hy26]
      clear hy26
      go_wp2_with (first
        | (go_at_call 37; refine (HL.out _ HDONE).mono ?_; rintro e w2 ⟨rfl, x11, rfl, -⟩)
        | (go_at_call 37; refine (HK.out _).mono ?_; rintro e w2 ⟨rfl, x10, rfl, -⟩; have HDONE : ExtW W26 → True := fun _ => trivial)
        | (go_at_call 12; refine (HWL.out _).mono ?_; rintro e w2 ⟨rfl, xw, rfl, -⟩))
      go_ret
      exact RetE.fin (HEW.out.trans (HX9.out.trans xw.h)) rfl
end Go.Proofs.YtaoamnhchidjfaaGreatDoor
