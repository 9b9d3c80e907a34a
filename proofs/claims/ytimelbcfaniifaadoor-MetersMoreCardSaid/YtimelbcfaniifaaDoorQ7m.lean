/- The walk of MetersMore. -/
import Derived.Test.YtimelbcfaniifaaDoorQ7b
import Derived.Test.YtimelbcfaniifaaDoorQ7c
import Derived.Test.YtimelbcfaniifaaDoorQ7n
namespace Go.Proofs.YtimelbcfaniifaaDoor
open Go.RowKit

theorem own_block_ne {w : World} {B g b n c size : Nat} {e t : TypeId} {xs : List Value} {cs : Array Value} {f : Nat × Nat} (h : w.ownsRow B e size (.slice (some ⟨g, 0, none⟩) n c) n xs) (hb : w.heap[b]? = some (.cells cs t f)) (he : t ≠ e) : g ≠ b := by
  rintro rfl
  rcases h.2 with ⟨hv, -⟩ | ⟨g1, cap, cur, hv, -, hg, -⟩
  · cases hv
  · cases hv
    rw [hb] at hg
    cases hg
    exact he rfl

set_option maxRecDepth 20000 in
set_option maxHeartbeats 16000000 in
theorem MetersMore04 (v : Value) (M : Mt) (r0 r1 x0 x1 x2 x3 : Int) (w : World) (hv : MtV w v M) (hT : TabW w) (hb1 : M.weeks.length * 16 ≤ 140737488351232) (hb2 : M.reads.length * 16 ≤ 140737488351232) :
    Calls Tryd.prog 5 #[v, .agg #[.int .i64 r0, .int .i64 r1], .agg #[.int .i64 x0, .int .i64 x1, .int .i64 x2, .int .i64 x3]] w (RetE (.bool true) w) := by
  have HV := Lib.hid hv
  have HT := Lib.hid hT
  obtain ⟨i0, hi, hz0, hz1, hz2⟩ := info_parts info_read
  obtain ⟨p, c, qq, d, rfl, hp, hq⟩ := hv
  clear hp hq hT
  go_enter Tryd.func5, Tryd.ntmps5
  go_upto_region 1 with (fail)
  obtain ⟨s0, hs0⟩ : ∃ s0, s0 = w.heap.size := ⟨_, rfl⟩
  obtain ⟨W, hW⟩ : ∃ W, W = ((w.alloc (.cells #[.slice p M.weeks.length c, .slice qq M.reads.length d, .int .i64 M.wrong] 25)).alloc (.cells #[.int .i64 r0, .int .i64 r1] 48)).alloc (.cells #[.int .i64 x0, .int .i64 x1, .int .i64 x2, .int .i64 x3] 27) := ⟨_, rfl⟩
  have m0 : W.heap[s0]? = some (.cells #[.slice p M.weeks.length c, .slice qq M.reads.length d, .int .i64 M.wrong] 25) := by rw [hs0]; exact heap_at0 (by rw [hW]; exact (by repeat (first | exact Ext.refl _ | assumption | refine Ext.drewN ?_ _ | refine Ext.drew ?_ | refine Ext.alloc ?_ _)))
  have m1 : W.heap[s0 + 1]? = some (.cells #[.int .i64 r0, .int .i64 r1] 48) := by rw [hs0, hW, Below.heap_alloc _ _ _ (by simp only [size_alloc]; omega)]; exact heap_new2 _ _ _
  have m2 : W.heap[s0 + 2]? = some (.cells #[.int .i64 x0, .int .i64 x1, .int .i64 x2, .int .i64 x3] 27) := by rw [hs0, hW]; exact heap_new3 _ _ _ _
  have hE : Ext w W := by rw [hW]; exact (by repeat (first | exact Ext.refl _ | assumption | refine Ext.drewN ?_ _ | refine Ext.drew ?_ | refine Ext.alloc ?_ _))
  rw [← hs0, ← hW]
  have a0 := ExtW.cell (v := .slice p M.weeks.length c) (cell_of_heap m0 0)
  have a1 := ExtW.cell (v := .slice qq M.reads.length d) (cell_of_heap m0 1)
  have a2 := ExtW.cell (v := .int .i64 M.wrong) (cell_of_heap m0 2)
  have rc0 := ExtW.cell (v := .int .i64 r0) (cell_of_heap m1 0)
  have rc1 := ExtW.cell (v := .int .i64 r1) (cell_of_heap m1 1)
  have k0 := ExtW.cell (v := .int .i64 x0) (cell_of_heap m2 0)
  have k1 := ExtW.cell (v := .int .i64 x1) (cell_of_heap m2 1)
  have k2 := ExtW.cell (v := .int .i64 x2) (cell_of_heap m2 2)
  have k3 := ExtW.cell (v := .int .i64 x3) (cell_of_heap m2 3)
  have HM0 := Lib.hid m0
  have HM1 := Lib.hid m1
  have HM2 := Lib.hid m2
  have HE := Lib.hid hE
  have HS0 := Lib.hid hs0
  obtain ⟨y0, hy0⟩ := ExtW.of (Ext.refl W)
  clear hW m0 m1 m2 hE hs0
  conv => arg 5; rw [hy0]
  clear hy0
  go_wp2_with fail
  refine (Copy04 M _ y0.w (HV.out.ext (HE.out.trans y0.h)) (by omega) (by omega)).mono ?_
  rintro e w2 ⟨u, rfl, hE2, g1, c1, g2, c2, rfl, o1, o2⟩
  have hEw2 : Ext W w2 := y0.h.trans hE2
  have hBW : W.heap.size ≤ y0.w.heap.size := y0.h.size
  have HW2 := Lib.hid hEw2
  have o1 := ownsRow_base o1 hBW
  have o2 := ownsRow_base o2 hBW
  have HO1 := Lib.hid o1
  have HO2 := Lib.hid o2
  have hg1 := (o1.lt g1 rfl)
  have hg2 := (o2.lt g2 rfl)
  have hne := own_ne o1 o2 (by decide)
  have HG := Lib.hid (show W.heap.size ≤ g1 ∧ W.heap.size ≤ g2 ∧ g2 < w2.heap.size ∧ g1 ≠ g2 ∧ g1 < w2.heap.size from ⟨hg1.1, hg2.1, hg2.2, hne, hg1.2⟩)
  clear hE2 o1 o2 hBW hEw2 hg1 hg2 hne
  go_upto_region 2 with (fail)
  obtain ⟨s7, hs7⟩ : ∃ s7, s7 = w2.heap.size := ⟨_, rfl⟩
  obtain ⟨W3, hW3⟩ : ∃ W3, W3 = w2.alloc (.cells #[.slice (some ⟨g1, 0, none⟩) M.weeks.length c1, .slice (some ⟨g2, 0, none⟩) M.reads.length c2, .int .i64 M.wrong] 25) := ⟨_, rfl⟩
  have hE3 : Ext W W3 := by rw [hW3]; exact HW2.out.alloc _
  have hA3 : Ext w2 W3 := by rw [hW3]; exact Ext.alloc (Ext.refl _) _
  have m7 : W3.heap[s7]? = some (.cells #[.slice (some ⟨g1, 0, none⟩) M.weeks.length c1, .slice (some ⟨g2, 0, none⟩) M.reads.length c2, .int .i64 M.wrong] 25) := by rw [hW3, hs7]; exact heap_new _ _
  rw [← hs7, ← hW3]
  have HM7 := Lib.hid m7
  have HE3 := Lib.hid hE3
  have HO1 := Lib.hid (ownsRow_ext HO1.out hA3)
  have HO2 := Lib.hid (ownsRow_ext HO2.out hA3)
  have hlt0 := (Array.getElem?_eq_some_iff.1 HM2.out).1
  have HS7 := Lib.hid (show W.heap.size ≤ s7 from by rw [hs7]; exact HW2.out.size)
  have HLT := Lib.hid (show (s0 < W.heap.size ∧ s0 ≠ g2 ∧ s0 ≠ g1) ∧ (s0 + 1 < W.heap.size ∧ s0 + 1 ≠ g2 ∧ s0 + 1 ≠ g1) ∧ (s0 + 2 < W.heap.size ∧ s0 + 2 ≠ g2 ∧ s0 + 2 ≠ g1) ∧ s7 ≠ g2 ∧ s7 ≠ g1 from by have := HG.out; omega)
  clear hW3 hs7 hE3 hA3 m7 hlt0 a0 a1 a2
  have HKP := Lib.hid (fun y (h : Fr (fun j => j = g2) W3 y) => (show y.heap[s0]? = some (.cells #[.slice p M.weeks.length c, .slice qq M.reads.length d, .int .i64 M.wrong] 25) ∧ y.heap[s0 + 1]? = some (.cells #[.int .i64 r0, .int .i64 r1] 48) ∧ y.heap[s0 + 2]? = some (.cells #[.int .i64 x0, .int .i64 x1, .int .i64 x2, .int .i64 x3] 27) ∧ y.heap[s7]? = some (.cells #[.slice (some ⟨g1, 0, none⟩) M.weeks.length c1, .slice (some ⟨g2, 0, none⟩) M.reads.length c2, .int .i64 M.wrong] 25) ∧ Ext w y from by
    have hl := HLT.out
    have hE3 := HE3.out
    refine ⟨(h.block (s0) (by have := hE3.size; omega) (by omega)).trans (heap_ext3 HM0.out hE3), (h.block (s0 + 1) (by have := hE3.size; omega) (by omega)).trans (heap_ext3 HM1.out hE3), (h.block (s0 + 2) (by have := hE3.size; omega) (by omega)).trans (heap_ext3 HM2.out hE3), (h.block s7 (Array.getElem?_eq_some_iff.1 HM7.out).1 (by omega)).trans HM7.out, ?_⟩
    exact Fr.ext (HE.out.trans hE3) h (fun i hi => by have := HE.out.size; have := HG.out; omega)))
  obtain ⟨z0, z1, z2, z7, hE3w⟩ := HKP.out W3 (Fr.refl _ _)
  have rc0 : W3.cell? ⟨s0 + 1, 0, none⟩ = some (.int .i64 r0) := cell_of_heap z1 0
  have rc1 : W3.cell? ⟨s0 + 1, 1, none⟩ = some (.int .i64 r1) := cell_of_heap z1 1
  have h71 : W3.cell? ⟨s7, 1, none⟩ = some (.slice (some ⟨g2, 0, none⟩) M.reads.length c2) := cell_of_heap z7 1
  clear z0 z1 z2 z7 hE3w k0 k1 k2 k3
  go_wp2_with (at_builtin; refine wpList_append_lies _ rfl (.tmp 28) (.tmp 30) 23 rfl W.heap.size 48 i0 _ 2 16 Tryd.underlying23 hi hz0 hz1 hz2 rfl (by decide) _ M.reads.length _ rfl (ownsRow_ext HO2.out (Ext.alloc (Ext.refl _) _)) ⟨W3.heap.size, 0, none⟩ 1 1 [.int .i64 r0, .int .i64 r1] rfl rfl ?c1 ?c2 (by decide) ?c3 ?c4 ?c5 (W3.heap.size + 1) (size_alloc _ _) ?_)
  · intro j u hj
    match j, hj with
    | 0, hj => simp at hj; subst hj; simp [Addr.add]
    | 1, hj => simp at hj; subst hj; simp [Addr.add]
  · intro u hu; simp at hu; rcases hu with rfl | rfl <;> rfl
  · unfold maxLen; omega
  · omega
  · rw [size_alloc]; have := HE3.out.size; omega
  intro g4 cap4 w4 hown4 hgr4 hat4 hlt4
  have hsz3 := HE3.out.size
  have hF4 := grown_fr hgr4
  have HF4 : Fr (fun j => j = g2) W3 w4 := by
    refine ⟨hF4.os, hF4.tape, hF4.output, by have h := hF4.size; rw [size_alloc] at h; omega, fun k hk hne => ?_⟩
    refine (hF4.block k (by rw [size_alloc]; omega) (fun e => hne (by have h : g2 = k := Option.some.inj e; exact h.symm))).trans ?_
    exact Below.heap_alloc W3 _ k hk
  have hO1 : w4.ownsRow W.heap.size 39 2 (.slice (some ⟨g1, 0, none⟩) M.weeks.length c1) M.weeks.length (pairVs M.weeks) := ownsRow_fr HO1.out HF4 (fun g hg e => by cases hg; exact HG.out.2.2.2.1 e)
  have hO4 : w4.ownsRow W.heap.size 48 2 (.slice (some ⟨g4, 0, none⟩) (M.reads.length + 1) cap4) (M.reads.length + 1) (pairVs (M.reads ++ [(r0, r1)])) := by rw [pairVs_snoc]; exact hown4
  obtain ⟨n0, n1, n2, n7, hE4⟩ := HKP.out w4 HF4
  have hs7W : W.heap.size ≤ s7 := HS7.out
  have hg47 : g4 ≠ s7 := own_block_ne hO4 n7 (by decide)
  have hg17 : g1 ≠ s7 := own_block_ne hO1 n7 (by decide)
  obtain ⟨WF, hWF⟩ : ∃ WF, WF = w4.setCell ⟨s7, 1, none⟩ (.slice (some ⟨g4, 0, none⟩) (M.reads.length + 1) cap4) := ⟨_, rfl⟩
  have hlt := HLT.out
  have q0 : WF.heap[s0]? = some (.cells #[.slice p M.weeks.length c, .slice qq M.reads.length d, .int .i64 M.wrong] 25) := by rw [hWF]; exact heap_set_ne (by omega) n0
  have q2 : WF.heap[s0 + 2]? = some (.cells #[.int .i64 x0, .int .i64 x1, .int .i64 x2, .int .i64 x3] 27) := by rw [hWF]; exact heap_set_ne (by omega) n2
  have q7 : WF.heap[s7]? = some (.cells #[.slice (some ⟨g1, 0, none⟩) M.weeks.length c1, .slice (some ⟨g4, 0, none⟩) (M.reads.length + 1) cap4, .int .i64 M.wrong] 25) := by rw [hWF]; exact heap_set n7 rfl
  have hEr : Ext w WF := by rw [hWF]; exact Ext.setCell hE4 (p := ⟨s7, 1, none⟩) (by show w.heap.size ≤ s7; have := HE.out.size; omega) _
  have HVO := Lib.hid (show MtV WF (.agg #[.slice (some ⟨g1, 0, none⟩) M.weeks.length c1, .slice (some ⟨g4, 0, none⟩) (M.reads.length + 1) cap4, .int .i64 M.wrong]) (moreM M (r0, r1)) from ⟨_, _, _, _, by show _ = Value.agg #[.slice _ M.weeks.length _, .slice _ (M.reads ++ [(r0, r1)]).length _, .int .i64 M.wrong]; rw [List.length_append]; rfl, by rw [hWF]; exact row_pairs (row_other hO1 hg17), by rw [hWF]; exact row_pairs (row_other hO4 hg47)⟩)
  have HEF := Lib.hid hEr
  have v7 : w4.cell? ⟨s7, 1, none⟩ = some (.slice (some ⟨g2, 0, none⟩) M.reads.length c2) := cell_of_heap n7 1
  have f7 : w4.frozen? ⟨s7, 1, none⟩ = false := cell_frozen n7 1
  clear hown4 hgr4 hat4 hlt4 hsz3 hF4 HF4 hO1 hO4 n0 n1 n2 n7 hE4 hs7W hg47 hg17 hlt rc0 rc1 h71
  go_upto_region 3 with (fail)
  rw [← hWF]
  have HVMF := Lib.hid (fun y (h : Ext WF y) => HV.out.ext (hEr.trans h))
  have HVNF := Lib.hid (fun y (h : Ext WF y) => HVO.out.ext h)
  have HTF := Lib.hid (fun y (h : Ext WF y) => HT.out.ext (hEr.trans h))
  have HQ0 := Lib.hid q0
  have HQ2 := Lib.hid q2
  have HQ7 := Lib.hid q7
  have a0 := ExtW.cell (v := .slice p M.weeks.length c) (cell_of_heap q0 0)
  have a1 := ExtW.cell (v := .slice qq M.reads.length d) (cell_of_heap q0 1)
  have a2 := ExtW.cell (v := .int .i64 M.wrong) (cell_of_heap q0 2)
  have b0 := ExtW.cell (v := .slice (some ⟨g1, 0, none⟩) M.weeks.length c1) (cell_of_heap q7 0)
  have b1 := ExtW.cell (v := .slice (some ⟨g4, 0, none⟩) (M.reads.length + 1) cap4) (cell_of_heap q7 1)
  have b2 := ExtW.cell (v := .int .i64 M.wrong) (cell_of_heap q7 2)
  have k0 := ExtW.cell (v := .int .i64 x0) (cell_of_heap q2 0)
  have k1 := ExtW.cell (v := .int .i64 x1) (cell_of_heap q2 1)
  have k2 := ExtW.cell (v := .int .i64 x2) (cell_of_heap q2 2)
  have k3 := ExtW.cell (v := .int .i64 x3) (cell_of_heap q2 3)
  have HWK := Lib.hid (fun x : ExtW WF => ExtW.callX (x := x) (works04 x.w (HTF.out x.w x.h)))
  have HRD := Lib.hid (fun x : ExtW WF => ExtW.callX (x := x) (ready04 M _ x.w (HVMF.out x.w x.h)))
  have HRO := Lib.hid (fun x : ExtW WF => ExtW.callX (x := x) (ready04 (moreM M (r0, r1)) _ x.w (HVNF.out x.w x.h)))
  have HAR := Lib.hid (fun x : ExtW WF => ExtW.callX (x := x) (AreWeeks04 M x1 x2 _ x.w (HVMF.out x.w x.h)))
  have HIA := Lib.hid (fun x : ExtW WF => ExtW.callX (x := x) (IsAfter04 M x3 _ x.w (HVMF.out x.w x.h)))
  obtain ⟨y0, hy0⟩ := ExtW.of (Ext.refl WF)
  clear hWF q0 q2 q7 hEr v7 f7
  conv => arg 5; rw [hy0]
  clear hy0
  obtain ⟨b, hb⟩ : ∃ b, readyB M = b := ⟨_, rfl⟩
  rw [hb] at HRD
  obtain ⟨bo, hbo⟩ : ∃ b, readyB (moreM M (r0, r1)) = b := ⟨_, rfl⟩
  rw [hbo] at HRO
  obtain ⟨ba, hba⟩ : ∃ b, areB x1 x2 M.weeks.length = b := ⟨_, rfl⟩
  obtain ⟨bi, hbi⟩ : ∃ b, winB x3 0 M.weeks.length = b := ⟨_, rfl⟩
  rw [hba] at HAR
  rw [hbi] at HIA
  have HBI := Lib.hid hbi
  have HBA := Lib.hid hba
  have HB := Lib.hid hb
  have HBO := Lib.hid hbo
  clear hba hbi hb hbo
  cases b
  case false =>
    go_wp2_with (first | (go_at_call 14; first | (with_reducible refine (HRD.out _).mono ?_; rintro e w2 ⟨rfl, xr, rfl, -⟩) | (with_reducible refine (HRO.out _).mono ?_; rintro e w2 ⟨rfl, xo, rfl, -⟩)) | (go_at_call 15; refine (HAR.out _).mono ?_; rintro e w2 ⟨rfl, xa, rfl, -⟩) | (go_at_call 27; refine (HIA.out _).mono ?_; rintro e w2 ⟨rfl, xi, rfl, -⟩) | (go_at_call 16; refine (HWK.out _).mono ?_; rintro e w2 ⟨rfl, xw, rfl, -⟩))
    go_ret
    exact RetE.fin (HEF.out.trans xw.h) rfl
  cases bo
  case false =>
    go_wp2_with (first | (go_at_call 14; first | (with_reducible refine (HRD.out _).mono ?_; rintro e w2 ⟨rfl, xr, rfl, -⟩) | (with_reducible refine (HRO.out _).mono ?_; rintro e w2 ⟨rfl, xo, rfl, -⟩)) | (go_at_call 15; refine (HAR.out _).mono ?_; rintro e w2 ⟨rfl, xa, rfl, -⟩) | (go_at_call 27; refine (HIA.out _).mono ?_; rintro e w2 ⟨rfl, xi, rfl, -⟩) | (go_at_call 16; refine (HWK.out _).mono ?_; rintro e w2 ⟨rfl, xw, rfl, -⟩))
    go_ret
    exact RetE.fin (HEF.out.trans xw.h) rfl
  cases ba
  case false =>
    go_wp2_with (first | (go_at_call 14; first | (with_reducible refine (HRD.out _).mono ?_; rintro e w2 ⟨rfl, xr, rfl, -⟩) | (with_reducible refine (HRO.out _).mono ?_; rintro e w2 ⟨rfl, xo, rfl, -⟩)) | (go_at_call 15; refine (HAR.out _).mono ?_; rintro e w2 ⟨rfl, xa, rfl, -⟩) | (go_at_call 27; refine (HIA.out _).mono ?_; rintro e w2 ⟨rfl, xi, rfl, -⟩) | (go_at_call 16; refine (HWK.out _).mono ?_; rintro e w2 ⟨rfl, xw, rfl, -⟩))
    go_ret
    exact RetE.fin (HEF.out.trans xw.h) rfl
  cases bi
  case false =>
    go_wp2_with (first | (go_at_call 14; first | (with_reducible refine (HRD.out _).mono ?_; rintro e w2 ⟨rfl, xr, rfl, -⟩) | (with_reducible refine (HRO.out _).mono ?_; rintro e w2 ⟨rfl, xo, rfl, -⟩)) | (go_at_call 15; refine (HAR.out _).mono ?_; rintro e w2 ⟨rfl, xa, rfl, -⟩) | (go_at_call 27; refine (HIA.out _).mono ?_; rintro e w2 ⟨rfl, xi, rfl, -⟩) | (go_at_call 16; refine (HWK.out _).mono ?_; rintro e w2 ⟨rfl, xw, rfl, -⟩))
    go_ret
    exact RetE.fin (HEF.out.trans xw.h) rfl
  obtain ⟨-, hM⟩ := readyB_iff.1 HB.out
  obtain ⟨-, hN⟩ := readyB_iff.1 HBO.out
  have HVM := Lib.hid hM
  have HVN := Lib.hid hN
  have hn5 := hM.nw
  have hlN : (moreM M (r0, r1)).reads.length = M.reads.length + 1 := by
    show (M.reads ++ [_]).length = _
    simp
  have hn7 : M.reads.length + 1 ≤ 7 := by have h := hN.nr; omega
  clear hlN
  have hia := winB_iff.1 HBI.out
  have hisa : isAf x3 M.weeks.length = true := isAf_iff.2 (by omega)
  have hlea := more_least hM hN
  have hka := ask0_iff hM
  have hkb := ask0_iff hN
  have hkn := ask_known hM
  have hko := ask_known hN
  rw [← least_eq hM] at hlea hka
  rw [← least_eq hN] at hlea hkb
  have HF1 := Lib.hid (fun x : ExtW WF => ExtW.callX (x := x) (few_valid HVM.out (HVMF.out x.w x.h)))
  have HF2 := Lib.hid (fun x : ExtW WF => ExtW.callX (x := x) (few_valid HVN.out (HVNF.out x.w x.h)))
  have HS1 := Lib.hid (fun x : ExtW WF => ExtW.callL (l := sumsA M x1 x2) (n := askV M (areB x1 x2 M.weeks.length)) (x := x) (Sums04 M x1 x2 _ x.w (HVMF.out x.w x.h) (by omega) (by omega) (HTF.out x.w x.h)))
  have HS2 := Lib.hid (fun x : ExtW WF => ExtW.callL (l := sumsA (moreM M (r0, r1)) x1 x2) (n := askV (moreM M (r0, r1)) (areB x1 x2 M.weeks.length)) (x := x) (Sums04 (moreM M (r0, r1)) x1 x2 _ x.w (HVNF.out x.w x.h) (by have := HVN.out.nw; omega) (by have := HVN.out.nr; omega) (HTF.out x.w x.h)))
  rw [HBA.out] at HS1 HS2
  have HSB := Lib.hid (fun h : askV (moreM M (r0, r1)) true = 0 => more_sums (r := (r0, r1)) hM hN HBA.out h)
  have HHB := Lib.hid (fun h : askV (moreM M (r0, r1)) true = 0 => more_shows (r := (r0, r1)) hM hN hisa h)
  have HRB := Lib.hid (fun h : askV (moreM M (r0, r1)) true = 0 => more_rounds (r := (r0, r1)) hM hN h)
  have HWB := Lib.hid (fun (i : Nat) (hi : i < M.weeks.length) (h : askV (moreM M (r0, r1)) true = 0) => more_week (r := (r0, r1)) hM hN hi h)
  have HH1 := Lib.hid (fun x : ExtW WF => ExtW.callL (l := showsA M x3) (n := askV M (isAf x3 M.weeks.length)) (x := x) (Shows04 M x3 _ x.w (HVMF.out x.w x.h) (by omega) (by omega)))
  have HH2 := Lib.hid (fun x : ExtW WF => ExtW.callL (l := showsA (moreM M (r0, r1)) x3) (n := askV (moreM M (r0, r1)) (isAf x3 M.weeks.length)) (x := x) (Shows04 (moreM M (r0, r1)) x3 _ x.w (HVNF.out x.w x.h) (by have := HVN.out.nw; omega) (by have := HVN.out.nr; omega)))
  rw [hisa] at HH1 HH2
  have HR1 := Lib.hid (fun y (h : Ext WF y) => Rounds04 M _ y (HVMF.out y h) (by omega) (by omega) (HTF.out y h))
  have HR2 := Lib.hid (fun y (h : Ext WF y) => Rounds04 (moreM M (r0, r1)) _ y (HVNF.out y h) (by have := HVN.out.nw; omega) (by have := HVN.out.nr; omega) (HTF.out y h))
  have HW1 := Lib.hid (fun y (h : Ext WF y) (i : Nat) (hi : i < M.weeks.length) => (show Calls Tryd.prog 21 #[.agg #[.slice p M.weeks.length c, .slice qq M.reads.length d, .int .i64 M.wrong], .int .i64 i] y (RetSp (weekLo M i) (weekHi M i) (askV M true) y) from by
    have h2 := Week04 M i _ y (HVMF.out y h) (by omega) (by omega) (HTF.out y h)
    rwa [show isWkB i M.weeks.length = true from isWkB_iff.2 (by omega)] at h2))
  have HW2 := Lib.hid (fun y (h : Ext WF y) (i : Nat) (hi : i < M.weeks.length) => (show Calls Tryd.prog 21 #[.agg #[.slice (some ⟨g1, 0, none⟩) M.weeks.length c1, .slice (some ⟨g4, 0, none⟩) (M.reads.length + 1) cap4, .int .i64 M.wrong], .int .i64 i] y (RetSp (weekLo (moreM M (r0, r1)) i) (weekHi (moreM M (r0, r1)) i) (askV (moreM M (r0, r1)) true) y) from by
    have h2 := Week04 (moreM M (r0, r1)) i _ y (HVNF.out y h) (by have := HVN.out.nw; omega) (by have := HVN.out.nr; omega) (HTF.out y h)
    rwa [show isWkB i (moreM M (r0, r1)).weeks.length = true from isWkB_iff.2 (by show 0 ≤ (i : Int) ∧ (i : Int) < (M.weeks.length : Int); omega)] at h2))
  have l1 := sumsA_len M x1 x2
  have l3 := showsA_len M x3
  have HNZ := Lib.hid (fun h : askV (moreM M (r0, r1)) true = 0 => more_ask (r := (r0, r1)) hM hN h)
  obtain ⟨A, hA⟩ : ∃ a, a = leastTo M 100 := ⟨_, rfl⟩
  obtain ⟨B, hB⟩ : ∃ a, a = leastTo (moreM M (r0, r1)) 100 := ⟨_, rfl⟩
  obtain ⟨s1, hs1⟩ : ∃ l, l = sumsA M x1 x2 := ⟨_, rfl⟩
  obtain ⟨s2, hs2⟩ : ∃ l, l = sumsA (moreM M (r0, r1)) x1 x2 := ⟨_, rfl⟩
  obtain ⟨h1, hh1⟩ : ∃ l, l = showsA M x3 := ⟨_, rfl⟩
  obtain ⟨h2, hh2⟩ : ∃ l, l = showsA (moreM M (r0, r1)) x3 := ⟨_, rfl⟩
  obtain ⟨nm, hnm⟩ : ∃ n, n = askV M true := ⟨_, rfl⟩
  obtain ⟨no, hno⟩ : ∃ n, n = askV (moreM M (r0, r1)) true := ⟨_, rfl⟩
  have hwr : (moreM M (r0, r1)).wrong = M.wrong := rfl
  rw [hwr] at hkb
  rw [← hA] at hlea hka HF1
  rw [← hB] at hlea hkb HF2
  rw [← hs1, ← hnm] at HS1
  rw [← hs2, ← hno] at HS2
  rw [← hs1] at l1
  rw [← hh1] at l3
  rw [← hs1, ← hs2, ← hno] at HSB
  rw [← hh1, ← hh2, ← hno] at HHB
  rw [← hno] at HRB HWB HNZ
  rw [← hnm] at HNZ
  rw [← hh1, ← hnm] at HH1
  rw [← hh2, ← hno] at HH2
  rw [← hnm] at hka hkn HR1 HW1
  rw [← hno] at hkb hko HR2 HW2
  have HKA := Lib.hid hka
  have HKB := Lib.hid hkb
  have HKN := Lib.hid hkn
  have HKO := Lib.hid hko
  have HLE := Lib.hid hlea
  have HNM := Lib.hid hnm
  have HNO := Lib.hid hno
  have HKM := Lib.hid (fun (n : Int) (x : ExtW WF) => ExtW.callX (x := x) (isKnown04 n x.w))
  clear hM hN hia hisa hlea hka hkb hkn hko hA hB hs1 hs2 hh1 hh2 hnm hno hwr
  go_upto_region 6 with (first | (go_at_call 14; first | (with_reducible refine (HRD.out _).mono ?_; rintro e w2 ⟨rfl, xr, rfl, -⟩) | (with_reducible refine (HRO.out _).mono ?_; rintro e w2 ⟨rfl, xo, rfl, -⟩)) | (go_at_call 15; refine (HAR.out _).mono ?_; rintro e w2 ⟨rfl, xa, rfl, -⟩) | (go_at_call 27; refine (HIA.out _).mono ?_; rintro e w2 ⟨rfl, xi, rfl, -⟩) | (go_at_call 28; refine (HF1.out _).mono ?_; rintro e w2 ⟨rfl, y1, rfl, -⟩))
  go_upto_region 7 with (go_at_call 28; refine (HF2.out _).mono ?_; rintro e w2 ⟨rfl, y2, rfl, -⟩)
  go_upto_region 8 with (go_at_call 17; refine (HS1.out _).mono ?_; rintro e w2 ⟨p1, cp1, rfl, y3, rfl, -, hI1, -⟩)
  have HI1 := Lib.hid hI1
  clear hI1
  go_upto_region 9 with (go_at_call 17; refine (HS2.out _).mono ?_; rintro e w2 ⟨p2, cp2, rfl, y4, rfl, hA4, hI2, -⟩)
  have HI1 := Lib.hid (HI1.out.ext hA4)
  have HI2 := Lib.hid hI2
  clear hA4 hI2
  obtain ⟨a1, a2, a3, a4⟩ := HLE.out
  have c1' : ¬A < 0 := by omega
  have c2' : ¬(M.reads.length : Int) < A := by omega
  have c3' : ¬B < A := by omega
  have c5' : IntKind.i64.wrap (A + 1) = A + 1 := IntWalk.i64_in _ (by omega)
  have c4' : ¬A + 1 < B := by omega
  clear a1 a2 a3 a4
  have KN := Lib.hid (fun (x : ExtW WF) => HKM.out nm x)
  have KO := Lib.hid (fun (x : ExtW WF) => HKM.out no x)
  rcases HKO.out with ho | ho
  case inr =>
    subst ho
    have hBw : ¬B ≤ M.wrong := fun h => absurd (HKB.out.2 h) (by decide)
    have hBw' : M.wrong < B := by omega
    rcases HKN.out with hm | hm
    · subst hm
      have hAw : A ≤ M.wrong := HKA.out.1 rfl
      go_wp2_with (first | (go_at_call 18; first | (with_reducible refine (KN.out _).mono ?_; rintro e w2 ⟨rfl, xk, rfl, -⟩) | (with_reducible refine (KO.out _).mono ?_; rintro e w2 ⟨rfl, xl, rfl, -⟩)) | (go_at_call 16; refine (HWK.out _).mono ?_; rintro e w2 ⟨rfl, xw, rfl, -⟩))
      go_ret
      exact RetE.fin (HEF.out.trans xw.h) rfl
    · subst hm
      have hAw : ¬A ≤ M.wrong := fun h => absurd (HKA.out.2 h) (by decide)
      have hAw' : M.wrong < A := by omega
      go_wp2_with (first | (go_at_call 18; first | (with_reducible refine (KN.out _).mono ?_; rintro e w2 ⟨rfl, xk, rfl, -⟩) | (with_reducible refine (KO.out _).mono ?_; rintro e w2 ⟨rfl, xl, rfl, -⟩)) | (go_at_call 16; refine (HWK.out _).mono ?_; rintro e w2 ⟨rfl, xw, rfl, -⟩))
      go_ret
      exact RetE.fin (HEF.out.trans xw.h) rfl
  subst ho
  have hm : nm = 0 := HNZ.out rfl
  subst hm
  have hBw : B ≤ M.wrong := HKB.out.1 rfl
  have hAw : A ≤ M.wrong := HKA.out.1 rfl
  have hs12 := HSB.out rfl
  have hh12 := HHB.out rfl
  have hr12 := HRB.out rfl
  have hrs1 := roundA_small HVM.out HNM.out.symm
  have hrs2 := roundA_small HVN.out HNO.out.symm
  have HSX := Lib.hid hs12
  have HHX := Lib.hid hh12
  have HWN := Lib.hid (fun i hi => HWB.out i hi rfl)
  clear HWB
  have HWS1 := Lib.hid (fun (i : Nat) (hi : i < M.weeks.length) => weekA_small HVM.out hi HNM.out.symm)
  have HWS2 := Lib.hid (fun (i : Nat) (hi : i < M.weeks.length) => weekA_small (M := (moreM M (r0, r1))) HVN.out hi HNO.out.symm)
  obtain ⟨rlo, hrlo⟩ : ∃ r, r = roundLo M := ⟨_, rfl⟩
  obtain ⟨rhi, hrhi⟩ : ∃ r, r = roundHi M := ⟨_, rfl⟩
  obtain ⟨slo, hslo⟩ : ∃ r, r = roundLo (moreM M (r0, r1)) := ⟨_, rfl⟩
  obtain ⟨shi, hshi⟩ : ∃ r, r = roundHi (moreM M (r0, r1)) := ⟨_, rfl⟩
  rw [← hrlo, ← hrhi] at HR1 hrs1
  rw [← hslo, ← hshi] at HR2 hrs2
  rw [← hrlo, ← hrhi, ← hslo, ← hshi] at hr12
  have HRS1 := Lib.hid hrs1
  have HRS2 := Lib.hid hrs2
  have HR12 := Lib.hid hr12
  clear hs12 hh12 hr12 hrs1 hrs2 hrlo hrhi hslo hshi HSB HHB HRB HKA HKB HKN HKO HLE HNM HNO HNZ
  go_upto_region 11 with (go_at_call 18; refine (KN.out _).mono ?_; rintro e w2 ⟨rfl, xk, rfl, hAk⟩; have HI1 := Lib.hid (HI1.out.ext hAk); have HI2 := Lib.hid (HI2.out.ext hAk); clear hAk)
  go_upto_region 13 with (fail)
  clear c1' c2' c3' c4' c5' hBw hAw
  go_upto_region 14 with (go_at_call 29; refine (HH1.out _).mono ?_; rintro e w2 ⟨p3, cp3, rfl, y5, rfl, hA5, hI3, -⟩)
  have HI1 := Lib.hid (HI1.out.ext hA5)
  have HI2 := Lib.hid (HI2.out.ext hA5)
  have HI3 := Lib.hid hI3
  clear hI3 hA5
  go_upto_region 15 with (go_at_call 29; refine (HH2.out _).mono ?_; rintro e w2 ⟨p4, cp4, rfl, y6, rfl, hA6, hI4, -⟩)
  have HI3 := Lib.hid (HI3.out.ext hA6)
  have HI1 := Lib.hid (HI1.out.ext hA6)
  have HI2 := Lib.hid (HI2.out.ext hA6)
  have HI4 := Lib.hid hI4
  clear hA6 hI4
  have HRA := Lib.hid (HR1.out y6.w y6.h)
  go_upto_region 16 with (go_at_call 30; refine HRA.out.mono ?_; rintro e w2 ⟨rfl, hE8⟩)
  obtain ⟨s18, hs18⟩ : ∃ s18, s18 = w2.heap.size := ⟨_, rfl⟩
  obtain ⟨WG, hWG⟩ : ∃ WG, WG = w2.alloc (.cells #[.int .i64 rlo, .int .i64 rhi] 39) := ⟨_, rfl⟩
  have hE6 : Ext y6.w WG := by rw [hWG]; exact hE8.alloc _
  have HE6 := Lib.hid hE6
  have hEG : Ext WF WG := y6.h.trans hE6
  have m18 : WG.heap[s18]? = some (.cells #[.int .i64 rlo, .int .i64 rhi] 39) := by rw [hWG, hs18]; exact heap_new _ _
  rw [← hs18, ← hWG]
  have HEG := Lib.hid hEG
  have HM18 := Lib.hid m18
  have q7 := heap_ext3 HQ7.out HEG.out
  have b0 := ExtW.cell (v := .slice (some ⟨g1, 0, none⟩) M.weeks.length c1) (cell_of_heap q7 0)
  have b1 := ExtW.cell (v := .slice (some ⟨g4, 0, none⟩) (M.reads.length + 1) cap4) (cell_of_heap q7 1)
  have b2 := ExtW.cell (v := .int .i64 M.wrong) (cell_of_heap q7 2)
  have HRB := Lib.hid (HR2.out WG HEG.out)
  have HI1 := Lib.hid (HI1.out.ext HE6.out)
  have HI2 := Lib.hid (HI2.out.ext HE6.out)
  have HI3 := Lib.hid (HI3.out.ext HE6.out)
  have HI4 := Lib.hid (HI4.out.ext HE6.out)
  obtain ⟨y8, hy8⟩ := ExtW.of (Ext.refl WG)
  clear hE8 hs18 hWG hEG m18 q7 hE6 HRA
  have HRB : Hid (Calls Tryd.prog 30 #[.agg #[.slice (some ⟨g1, 0, none⟩) M.weeks.length c1, .slice (some ⟨g4, 0, none⟩) (M.reads.length + 1) cap4, .int .i64 M.wrong]] y8.w (RetSp slo shi 0 y8.w)) := hy8 ▸ HRB
  conv => arg 5; rw [hy8]
  clear hy8
  go_upto_region 17 with (go_at_call 30; refine HRB.out.mono ?_; rintro e w2 ⟨rfl, hE8⟩)
  obtain ⟨s19, hs19⟩ : ∃ s19, s19 = w2.heap.size := ⟨_, rfl⟩
  obtain ⟨WH, hWH⟩ : ∃ WH, WH = w2.alloc (.cells #[.int .i64 slo, .int .i64 shi] 39) := ⟨_, rfl⟩
  have hEH : Ext WG WH := by rw [hWH]; exact (y8.h.trans hE8).alloc _
  have m19 : WH.heap[s19]? = some (.cells #[.int .i64 slo, .int .i64 shi] 39) := by rw [hWH, hs19]; exact heap_new _ _
  rw [← hs19, ← hWH]
  have HEH := Lib.hid (HEG.out.trans hEH)
  have m18 := heap_ext3 HM18.out hEH
  have q0 := heap_ext3 HQ0.out HEH.out
  have q7 := heap_ext3 HQ7.out HEH.out
  have a0 := ExtW.cell (v := .slice p M.weeks.length c) (cell_of_heap q0 0)
  have a1 := ExtW.cell (v := .slice qq M.reads.length d) (cell_of_heap q0 1)
  have a2 := ExtW.cell (v := .int .i64 M.wrong) (cell_of_heap q0 2)
  have b0 := ExtW.cell (v := .slice (some ⟨g1, 0, none⟩) M.weeks.length c1) (cell_of_heap q7 0)
  have b1 := ExtW.cell (v := .slice (some ⟨g4, 0, none⟩) (M.reads.length + 1) cap4) (cell_of_heap q7 1)
  have b2 := ExtW.cell (v := .int .i64 M.wrong) (cell_of_heap q7 2)
  have d0 := ExtW.cell (v := .int .i64 rlo) (cell_of_heap m18 0)
  have d1 := ExtW.cell (v := .int .i64 rhi) (cell_of_heap m18 1)
  have f0 := ExtW.cell (v := .int .i64 slo) (cell_of_heap m19 0)
  have f1 := ExtW.cell (v := .int .i64 shi) (cell_of_heap m19 1)
  have HI1 := Lib.hid (HI1.out.ext hEH)
  have HI2 := Lib.hid (HI2.out.ext hEH)
  have HI3 := Lib.hid (HI3.out.ext hEH)
  have HI4 := Lib.hid (HI4.out.ext hEH)
  have HSA := Lib.hid (fun x : ExtW WH => ExtW.callX (x := x) (subset04 p2 p1 s2 s1 cp2 cp1 x.w (HI2.out.ext x.h) (HI1.out.ext x.h) HSX.out.1 (by omega) HSX.out.2))
  have HSB := Lib.hid (fun x : ExtW WH => ExtW.callX (x := x) (subset04 p4 p3 h2 h1 cp4 cp3 x.w (HI4.out.ext x.h) (HI3.out.ext x.h) HHX.out.1 (by omega) HHX.out.2))
  have HN1 := Lib.hid (fun x : ExtW WH => ExtW.callX (x := x) (sane04 rlo rhi x.w (by have := HRS1.out; omega)))
  have HN2 := Lib.hid (fun x : ExtW WH => ExtW.callX (x := x) (sane04 slo shi x.w (by have := HRS2.out; omega)))
  have HTH := Lib.hid (fun y (h : Ext WH y) => HTF.out y (HEH.out.trans h))
  have HW1 := Lib.hid (fun y (h : Ext WH y) i hi => HW1.out y (HEH.out.trans h) i hi)
  have HW2 := Lib.hid (fun y (h : Ext WH y) i hi => HW2.out y (HEH.out.trans h) i hi)
  have HQ7 := Lib.hid q7
  have c1' : ¬slo < rlo := by have := HR12.out; omega
  have c2' : ¬rhi < shi := by have := HR12.out; omega
  obtain ⟨z0, hz0⟩ := ExtW.of (Ext.refl WH)
  clear hE8 hs19 hWH hEH m18 m19 q0 q7 HRB HR1 HR2 HS1 HS2 HH1 HH2 HF1 HF2 HSX HHX
  conv => arg 5; rw [hz0]
  clear hz0
  go_upto_region 20 with (first
    | (go_at_call 31; first | (with_reducible refine (HSA.out _).mono ?_; rintro e w2 ⟨rfl, za, rfl, -⟩) | (with_reducible refine (HSB.out _).mono ?_; rintro e w2 ⟨rfl, zb, rfl, -⟩))
    | (go_at_call 32; first | (with_reducible refine (HN1.out _).mono ?_; rintro e w2 ⟨rfl, zc, rfl, -⟩) | (with_reducible refine (HN2.out _).mono ?_; rintro e w2 ⟨rfl, zd, rfl, -⟩)))
  clear c1' c2' d0 d1 f0 f1 HSA HSB HN1 HN2
  go_wp2
  go_loopw [20] (fun i wr => ∃ i' : Nat, i' ≤ M.weeks.length ∧ i = .int .i64 i' ∧ ∃ x : ExtW WH, wr = x.w) (fun i _ => M.weeks.length - (intOf i).toNat)
  case atStart => exact ⟨0, Nat.zero_le _, rfl, zd, rfl⟩
  case round =>
    obtain ⟨i, hi', rfl, x, rfl⟩ := hrel
    by_cases hlt : i < M.weeks.length
    · have hlt' : (i : Int) < (M.weeks.length : Int) := by omega
      have hA' := HW1.out x.w x.h i hlt
      have hB' := fun y (h : Ext WH y) => HW2.out y h i hlt
      have hb1' := HWS1.out i hlt
      have hb2' := HWS2.out i hlt
      obtain ⟨hb3, hb4⟩ := HWN.out i hlt
      have hb3' : weekLo M i ≤ weekLo (moreM M (r0, r1)) i := hb3
      have hb4' : weekHi (moreM M (r0, r1)) i ≤ weekHi M i := hb4
      clear hb3 hb4
      obtain ⟨lo, hlo⟩ : ∃ r, r = weekLo M i := ⟨_, rfl⟩
      obtain ⟨hi, hhi⟩ : ∃ r, r = weekHi M i := ⟨_, rfl⟩
      obtain ⟨la, hla⟩ : ∃ r, r = weekLo (moreM M (r0, r1)) i := ⟨_, rfl⟩
      obtain ⟨ha, hha⟩ : ∃ r, r = weekHi (moreM M (r0, r1)) i := ⟨_, rfl⟩
      rw [← hlo, ← hhi] at hA' hb1'
      rw [← hla, ← hha] at hB' hb2'
      rw [← hlo, ← hla] at hb3'
      rw [← hhi, ← hha] at hb4'
      have HWA := Lib.hid hA'
      have HWB' := Lib.hid hB'
      have B1 := Lib.hid hb1'
      have B2 := Lib.hid hb2'
      have c1' : ¬la < lo := Int.not_lt.2 hb3'
      have c2' : ¬hi < ha := Int.not_lt.2 hb4'
      clear hA' hB' hlo hhi hla hha hb1' hb2' hb3' hb4'
      go_upto_region 23 with (go_at_call 21; refine HWA.out.mono ?_; rintro e w2 ⟨rfl, hE8⟩)
      obtain ⟨s21, hs21⟩ : ∃ s21, s21 = w2.heap.size := ⟨_, rfl⟩
      obtain ⟨WJ, hWJ⟩ : ∃ WJ, WJ = w2.alloc (.cells #[.int .i64 lo, .int .i64 hi] 39) := ⟨_, rfl⟩
      have hEJ : Ext WH WJ := by rw [hWJ]; exact (x.h.trans hE8).alloc _
      have m21 : WJ.heap[s21]? = some (.cells #[.int .i64 lo, .int .i64 hi] 39) := by rw [hWJ, hs21]; exact heap_new _ _
      rw [← hs21, ← hWJ]
      have HEJ := Lib.hid hEJ
      have HM21 := Lib.hid m21
      have q7 := heap_ext3 HQ7.out HEJ.out
      have b0 := ExtW.cell (v := .slice (some ⟨g1, 0, none⟩) M.weeks.length c1) (cell_of_heap q7 0)
      have b1 := ExtW.cell (v := .slice (some ⟨g4, 0, none⟩) (M.reads.length + 1) cap4) (cell_of_heap q7 1)
      have b2 := ExtW.cell (v := .int .i64 M.wrong) (cell_of_heap q7 2)
      have HWC := Lib.hid (HWB'.out WJ HEJ.out)
      clear hE8 hs21 hWJ hEJ m21 q7
      obtain ⟨y8, hy8⟩ := ExtW.of (Ext.refl WJ)
      have HWC : Hid (Calls Tryd.prog 21 #[.agg #[.slice (some ⟨g1, 0, none⟩) M.weeks.length c1, .slice (some ⟨g4, 0, none⟩) (M.reads.length + 1) cap4, .int .i64 M.wrong], .int .i64 i] y8.w (RetSp la ha 0 y8.w)) := hy8 ▸ HWC
      conv => arg 5; rw [hy8]
      clear hy8
      go_upto_region 24 with (go_at_call 21; refine HWC.out.mono ?_; rintro e w2 ⟨rfl, hE8⟩)
      obtain ⟨s23, hs23⟩ : ∃ s23, s23 = w2.heap.size := ⟨_, rfl⟩
      obtain ⟨WK, hWK⟩ : ∃ WK, WK = w2.alloc (.cells #[.int .i64 la, .int .i64 ha] 39) := ⟨_, rfl⟩
      have hEK : Ext WJ WK := by rw [hWK]; exact (y8.h.trans hE8).alloc _
      have m23 : WK.heap[s23]? = some (.cells #[.int .i64 la, .int .i64 ha] 39) := by rw [hWK, hs23]; exact heap_new _ _
      rw [← hs23, ← hWK]
      have HEK := Lib.hid (HEJ.out.trans hEK)
      have m21 := heap_ext3 HM21.out hEK
      have d0 := ExtW.cell (v := .int .i64 lo) (cell_of_heap m21 0)
      have d1 := ExtW.cell (v := .int .i64 hi) (cell_of_heap m21 1)
      have f0 := ExtW.cell (v := .int .i64 la) (cell_of_heap m23 0)
      have f1 := ExtW.cell (v := .int .i64 ha) (cell_of_heap m23 1)
      have HN1 := Lib.hid (fun x : ExtW WK => ExtW.callX (x := x) (sane04 lo hi x.w (by have := B1.out; omega)))
      have HN2 := Lib.hid (fun x : ExtW WK => ExtW.callX (x := x) (sane04 la ha x.w (by have := B2.out; omega)))
      clear hE8 hs23 hWK hEK m21 m23
      obtain ⟨y9, hy9⟩ := ExtW.of (Ext.refl WK)
      conv => arg 5; rw [hy9]
      clear hy9
      go_wp2_with (go_at_call 32; first | (with_reducible refine (HN1.out _).mono ?_; rintro e w2 ⟨rfl, zc, rfl, -⟩) | (with_reducible refine (HN2.out _).mono ?_; rintro e w2 ⟨rfl, ze, rfl, -⟩))
      go_roundw
      case rel => exact ⟨i + 1, by omega, by simp, ⟨_, HEK.out.trans ze.h⟩, rfl⟩
      case measure => simp [intOf]; omega
    · obtain rfl : i = M.weeks.length := by omega
      have HWZ := Lib.hid (fun x : ExtW WH => ExtW.callX (x := x) (works04 x.w (HTH.out x.w x.h)))
      go_wp2_with (go_at_call 16; refine (HWZ.out _).mono ?_; rintro e w2 ⟨rfl, z4, rfl, -⟩)
      go_ret
      exact RetE.fin ((HEF.out.trans HEH.out).trans z4.h) rfl
end Go.Proofs.YtimelbcfaniifaaDoor
