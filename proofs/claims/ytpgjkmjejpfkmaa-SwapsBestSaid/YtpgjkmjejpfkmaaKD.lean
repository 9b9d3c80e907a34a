/- The walks of the reference's Change and Copy. The walk of the reference's Copy. What the walks of SwapsFewest and SwapsBest share. -/
import Derived.Test.YtpgjkmjejpfkmaaC07f
import Derived.Test.YtpgjkmjejpfkmaaKC
import Derived.Test.YtpgjkmjejpfkmaaKB
import Derived.Test.YtpgjkmjejpfkmaaM07b
import Derived.Test.YtpgjkmjejpfkmaaS07a
namespace Go.Proofs.Ytpgjkmjejpfkmaa
open Go.RowKit

theorem swap_changes {w : World} {v0 v1 v2 v3 : Value} {S : Swap} (h : SwapV w (.agg #[v0, v1, v2, v3, .int .i64 S.changes]) S) (c : Int) : SwapV w (.agg #[v0, v1, v2, v3, .int .i64 c]) { S with changes := c } := by
  obtain ⟨r0, d0, r1, d1, r2, d2, r3, d3, he, i0, i1, i2, i3⟩ := h
  injection he with he
  injection he with he
  simp only [List.cons.injEq, and_true] at he
  obtain ⟨rfl, rfl, rfl, rfl⟩ := he
  exact ⟨r0, d0, r1, d1, r2, d2, r3, d3, rfl, i0, i1, i2, i3⟩
theorem maxE_bdS {S : Swap} (hS : ValidE S) : 0 ≤ maxE S (fitA S) ∧ maxE S (fitA S) ≤ 119880 := by
  have := maxE_bde hS (ps_fit hS) (fitA S).length
  rwa [List.take_length] at this

set_option maxRecDepth 100000 in
set_option maxHeartbeats 3200000 in
theorem rChange07 (v : Value) (S : Swap) (w : World) (hv : SwapV w v S) (hM : Modest S) : Calls Try.prog 27 #[v] w (RetE (changeV S) w) := by
  have HV := Lib.hid hv
  obtain ⟨p0, c0, p1, c1, p2, c2, p3, c3, rfl, h0, h1, h2, h3⟩ := hv
  clear h0 h1 h2 h3
  go_enter Try.func27, Try.ntmps27
  go_upto_region 1 with (fail)
  have hn := heap_new w (.cells #[.slice p0 S.boxes.length c0, .slice p1 S.stock.length c1, .slice p2 S.earn.length c2, .slice p3 S.keeps.length c3, .int .i64 S.changes] 26)
  obtain ⟨W, hW⟩ : ∃ W, W = w.alloc (.cells #[.slice p0 S.boxes.length c0, .slice p1 S.stock.length c1, .slice p2 S.earn.length c2, .slice p3 S.keeps.length c3, .int .i64 S.changes] 26) := ⟨_, rfl⟩
  have hE : Ext w W := by rw [hW]; exact Ext.alloc (Ext.refl w) _
  rw [← hW] at hn ⊢
  have q0 := ExtW.cell (v := .slice p0 S.boxes.length c0) (cell_of_heap hn 0)
  have q1 := ExtW.cell (v := .slice p1 S.stock.length c1) (cell_of_heap hn 1)
  have q2 := ExtW.cell (v := .slice p2 S.earn.length c2) (cell_of_heap hn 2)
  have q3 := ExtW.cell (v := .slice p3 S.keeps.length c3) (cell_of_heap hn 3)
  have q4 := ExtW.cell (v := .int .i64 S.changes) (cell_of_heap hn 4)
  have HQ := Lib.hid (fun (z : World) (hz : Ext W z) => (⟨q0 ⟨z, hz⟩, q1 ⟨z, hz⟩, q2 ⟨z, hz⟩, q3 ⟨z, hz⟩, q4 ⟨z, hz⟩⟩ :
    z.cell? ⟨w.heap.size, 0, none⟩ = some (.slice p0 S.boxes.length c0) ∧ z.cell? ⟨w.heap.size, 1, none⟩ = some (.slice p1 S.stock.length c1) ∧ z.cell? ⟨w.heap.size, 2, none⟩ = some (.slice p2 S.earn.length c2) ∧ z.cell? ⟨w.heap.size, 3, none⟩ = some (.slice p3 S.keeps.length c3) ∧ z.cell? ⟨w.heap.size, 4, none⟩ = some (.int .i64 S.changes)))
  have HK0 := fun x : ExtW W => ExtW.call (rCheck07 _ S x.w (SwapV.mono _ _ _ _ (hE.trans x.h) HV.out) hM)
  obtain ⟨x0, hx0⟩ := ExtW.of (Ext.refl W)
  have HEW := Lib.hid hE
  clear hW hn hE
  conv => arg 5; rw [hx0]
  clear hx0
  by_cases hS : Valid S
  case neg =>
    rw [chk_f hS] at HK0
    have HK := Lib.hid HK0
    have HS := Lib.hid hS
    clear HK0 hS
    go_wp2_with fail
    refine (HK.out _).mono ?_
    rintro e _ ⟨rfl, x1, rfl⟩
    have he : changeV S = .tuple #[.int .i64 0, .int .i64 70] := by simp [changeV, bP_f HS.out]
    have HE := Lib.hid he
    clear he
    go_wp2
    go_ret2
    exact RetE.fin (HEW.out.trans x1.h) HE.out.symm
  rw [chk_t hS] at HK0
  have HK := Lib.hid HK0
  have HS := Lib.hid hS
  clear HK0
  have hb3 := hS.boxes
  have hs6 := hS.stock
  have he6 : S.earn.length ≤ 6 := by rw [hS.earn]; exact hs6
  have hk4 := hS.keeps
  have hch := hS.ch
  have HCN := Lib.hid (fun (x : ExtW W) => Clone07 _ S x.w (SwapV.mono _ _ _ _ (HEW.out.trans x.h) HV.out) (by omega) (fun i h => by have := (hS.box i h).1; omega) (by omega) (by omega) (fun i h => by rw [hS.row i h]; omega) (by omega))
  have HRES := Lib.hid (fun (m1 m2 : Int) (h1 : m1 = maxE (changeS S) (fitA (changeS S))) (h2 : m2 = maxE S (fitA S)) => (by simp only [changeV, bP_t hS, if_true, h1, h2, change_max hS, maxE_best hS] : changeV S = .tuple #[.int .i64 (m1 - m2), .int .i64 0]))
  have HOE := Lib.hid (changeS_e hS)
  have HOB := Lib.hid (maxE_bdS (changeS_e hS))
  clear hS
  go_wp2_with fail
  refine (HK.out _).mono ?_
  rintro e _ ⟨rfl, x1, rfl⟩
  go_wp2_with fail
  refine (HCN.out x1).mono ?_
  rintro e w4 ⟨v0, v1, v2, v3, g0, k0, g2, k2, B, rfl, hE4, hBB, hco⟩
  obtain ⟨r0, d0, r1, d1, r2, d2, r3, d3, he, -⟩ := hco.swap
  injection he with he
  injection he with he
  simp only [List.cons.injEq, and_true] at he
  obtain ⟨rfl, rfl, rfl, rfl⟩ := he
  obtain ⟨x4, rfl⟩ := ExtW.of (x1.h.trans hE4)
  have HCO := Lib.hid hco
  have hB4 : W.heap.size ≤ B := by have := x1.h.size; omega
  have hsz4 := x4.h.size
  clear hco hE4 HCN hBB
  go_upto_region 5 with (fail)
  have hn6 := heap_new x4.w (.cells #[.slice r0 S.boxes.length d0, .slice r1 S.stock.length d1, .slice r2 S.earn.length d2, .slice r3 S.keeps.length d3, .int .i64 S.changes] 26)
  obtain ⟨W6, hW6⟩ : ∃ W6, W6 = x4.w.alloc (.cells #[.slice r0 S.boxes.length d0, .slice r1 S.stock.length d1, .slice r2 S.earn.length d2, .slice r3 S.keeps.length d3, .int .i64 S.changes] 26) := ⟨_, rfl⟩
  have hE6 : Ext x4.w W6 := by rw [hW6]; exact Ext.alloc (Ext.refl x4.w) _
  rw [← hW6] at hn6 ⊢
  have HCO6 := Lib.hid (HCO.out.ext hE6)
  obtain ⟨B6, hB6⟩ : ∃ B6, B6 = x4.w.heap.size := ⟨_, rfl⟩
  rw [← hB6] at hn6 ⊢
  have hWlt : W.heap.size ≤ B6 := by omega
  have HB6 := Lib.hid hB6
  have HN6 := Lib.hid hn6
  have HE6 := Lib.hid hE6
  have z4 := cell_of_heap hn6 4
  have f4 := cell_frozen hn6 4
  simp at z4
  have hwc : IntKind.i64.wrap (S.changes + 1) = S.changes + 1 := IntWalk.i64_in _ (by omega)
  clear hW6 hB6 hn6 hE6
  go_upto_region 6 with (fail)
  obtain ⟨X, hX⟩ : ∃ X, X = W6.setCell ⟨B6, 4, none⟩ (.int .i64 (S.changes + 1)) := ⟨_, rfl⟩
  have hbut : But B6 W6 X := by rw [hX]; exact setCell_but W6 B6 4 _
  have hn7 : X.heap[B6]? = some (.cells #[.slice r0 S.boxes.length d0, .slice r1 S.stock.length d1, .slice r2 S.earn.length d2, .slice r3 S.keeps.length d3, .int .i64 (S.changes + 1)] 26 (0, 0)) := by
    rw [hX]; exact heap_set HN6.out rfl
  rw [← hX]
  have HWX := Lib.hid ((x4.h.trans HE6.out).trans' (hbut.below hWlt))
  have HSVO := Lib.hid (swap_changes (CloneOwn.high HCO.out HCO6.out hbut (by have := HB6.out; omega)).swap (S.changes + 1))
  have HNX := Lib.hid hn7
  clear hX hbut hn7 z4 f4 hwc q0 q1 q2 q3 q4 HK HCO HCO6 HN6
  have HCL := Lib.hid (fun (z : World) (hz : Ext X z) => (⟨(HQ.out z (HWX.out.trans hz)).1, (HQ.out z (HWX.out.trans hz)).2.1, (HQ.out z (HWX.out.trans hz)).2.2.1, (HQ.out z (HWX.out.trans hz)).2.2.2.1, (HQ.out z (HWX.out.trans hz)).2.2.2.2, hz.cell (cell_of_heap HNX.out 0), hz.cell (cell_of_heap HNX.out 1), hz.cell (cell_of_heap HNX.out 2), hz.cell (cell_of_heap HNX.out 3), hz.cell (cell_of_heap HNX.out 4)⟩ :
    z.cell? ⟨w.heap.size, 0, none⟩ = some (.slice p0 S.boxes.length c0) ∧ z.cell? ⟨w.heap.size, 1, none⟩ = some (.slice p1 S.stock.length c1) ∧ z.cell? ⟨w.heap.size, 2, none⟩ = some (.slice p2 S.earn.length c2) ∧ z.cell? ⟨w.heap.size, 3, none⟩ = some (.slice p3 S.keeps.length c3) ∧ z.cell? ⟨w.heap.size, 4, none⟩ = some (.int .i64 S.changes) ∧ z.cell? ⟨B6, 0, none⟩ = some (.slice r0 S.boxes.length d0) ∧ z.cell? ⟨B6, 1, none⟩ = some (.slice r1 S.stock.length d1) ∧ z.cell? ⟨B6, 2, none⟩ = some (.slice r2 S.earn.length d2) ∧ z.cell? ⟨B6, 3, none⟩ = some (.slice r3 S.keeps.length d3) ∧ z.cell? ⟨B6, 4, none⟩ = some (.int .i64 (S.changes + 1))))
  have HF := Lib.hid (fun (z : World) (hz : Ext X z) => fitAll07 _ S z (SwapV.mono _ _ _ _ (HEW.out.trans (HWX.out.trans hz)) HV.out) HS.out.e)
  have HB := Lib.hid (fun (z : World) (hz : Ext X z) q c (hq : PlansAt z q (fitA S)) => rbestA07 _ S q c z (SwapV.mono _ _ _ _ (HEW.out.trans (HWX.out.trans hz)) HV.out) HS.out.e hq)
  have HFO := Lib.hid (fun (z : World) (hz : Ext X z) => fitAll07 _ (changeS S) z (SwapV.mono _ _ _ _ hz HSVO.out) HOE.out)
  have HBO := Lib.hid (fun (z : World) (hz : Ext X z) q c (hq : PlansAt z q (fitA (changeS S))) => rbestA07 _ (changeS S) q c z (SwapV.mono _ _ _ _ hz HSVO.out) HOE.out hq)
  have HX := Lib.hid (Ext.refl X)
  have hbd := maxE_bdS HS.out.e
  have hbo := HOB.out
  obtain ⟨m1, hm1⟩ : ∃ m, m = maxE (changeS S) (fitA (changeS S)) := ⟨_, rfl⟩
  obtain ⟨m2, hm2⟩ : ∃ m, m = maxE S (fitA S) := ⟨_, rfl⟩
  rw [← hm1] at HBO hbo
  rw [← hm2] at HB hbd
  have HM1 := Lib.hid hm1
  have HM2 := Lib.hid hm2
  clear hm1 hm2
  have hws : IntKind.i64.wrap (m1 - m2) = m1 - m2 := IntWalk.i64_in _ (by omega)
  clear hbd hbo
  go_region_held3 (fun z => z.cell? ⟨w.heap.size, 0, none⟩ = some (.slice p0 S.boxes.length c0) ∧ z.cell? ⟨w.heap.size, 1, none⟩ = some (.slice p1 S.stock.length c1) ∧ z.cell? ⟨w.heap.size, 2, none⟩ = some (.slice p2 S.earn.length c2) ∧ z.cell? ⟨w.heap.size, 3, none⟩ = some (.slice p3 S.keeps.length c3) ∧ z.cell? ⟨w.heap.size, 4, none⟩ = some (.int .i64 S.changes) ∧ z.cell? ⟨B6, 0, none⟩ = some (.slice r0 S.boxes.length d0) ∧ z.cell? ⟨B6, 1, none⟩ = some (.slice r1 S.stock.length d1) ∧ z.cell? ⟨B6, 2, none⟩ = some (.slice r2 S.earn.length d2) ∧ z.cell? ⟨B6, 3, none⟩ = some (.slice r3 S.keeps.length d3) ∧ z.cell? ⟨B6, 4, none⟩ = some (.int .i64 (S.changes + 1)))
    ((refine HCL.out _ ?_; repeat (first | with_reducible exact HX.out | with_reducible refine Ext.drew ?_ | with_reducible refine Ext.trans ?_ (StpK.out (by assumption)))))
    (first
      | (go_at_call_of 62 (Value.slice p0 S.boxes.length c0); refine (HF.out _ (by repeat (first | with_reducible exact HX.out | with_reducible refine Ext.drew ?_ | with_reducible refine Ext.trans ?_ (StpK.out (by assumption))))).mono ?_; rintro e w1 ⟨qq, cap, rfl, hE1, hp1⟩; have HP1 := Lib.hid hp1; have hS1 := StpK.mk hE1; clear hE1 hp1)
      | (go_at_call_of 62 (Value.slice r0 S.boxes.length d0); refine (HFO.out _ (by repeat (first | with_reducible exact HX.out | with_reducible refine Ext.drew ?_ | with_reducible refine Ext.trans ?_ (StpK.out (by assumption))))).mono ?_; rintro e w3 ⟨qo, capo, rfl, hE3, hp3⟩; have HP3 := Lib.hid hp3; have hS3 := StpK.mk hE3; clear hE3 hp3)
      | (go_at_call_of 65 (Value.slice p0 S.boxes.length c0); refine (HB.out _ (by repeat (first | with_reducible exact HX.out | with_reducible refine Ext.drew ?_ | with_reducible refine Ext.trans ?_ (StpK.out (by assumption)))) qq cap (PlansAt.ext HP1.out (by repeat (first | with_reducible exact Ext.refl _ | with_reducible refine Ext.drew ?_ | with_reducible refine Ext.trans ?_ (StpK.out (by assumption)))))).mono ?_; rintro e w2 ⟨rfl, hE2⟩; have hS2 := StpK.mk hE2; clear hE2)
      | (go_at_call_of 65 (Value.slice r0 S.boxes.length d0); refine (HBO.out _ (by repeat (first | with_reducible exact HX.out | with_reducible refine Ext.drew ?_ | with_reducible refine Ext.trans ?_ (StpK.out (by assumption)))) qo capo (PlansAt.ext HP3.out (by repeat (first | with_reducible exact Ext.refl _ | with_reducible refine Ext.drew ?_ | with_reducible refine Ext.trans ?_ (StpK.out (by assumption)))))).mono ?_; rintro e w4 ⟨rfl, hE4⟩; have hS4 := StpK.mk hE4; clear hE4))
  all_goals
    go_wp2
    go_ret2
    exact RetE.fin (HEW.out.trans (HWX.out.trans (by repeat (first | with_reducible exact HX.out | with_reducible refine Ext.drew ?_ | with_reducible refine Ext.trans ?_ (StpK.out (by assumption)))))) (HRES.out m1 m2 HM1.out HM2.out).symm

end Go.Proofs.Ytpgjkmjejpfkmaa
namespace Go.Proofs.Ytpgjkmjejpfkmaa
open Go.RowKit

set_option maxRecDepth 100000 in
set_option maxHeartbeats 3200000 in
theorem rCopy07 (v : Value) (S : Swap) (title : Int) (w : World) (hv : SwapV w v S) (hM : Modest S) : Calls Try.prog 25 #[v, .int .i64 title] w (RetE (copyV S title) w) := by
  have HV := Lib.hid hv
  obtain ⟨p0, c0, p1, c1, p2, c2, p3, c3, rfl, h0, h1, h2, h3⟩ := hv
  clear h0 h1 h2 h3
  go_enter Try.func25, Try.ntmps25
  go_upto_region 1 with (fail)
  have hn := heap_new w (.cells #[.slice p0 S.boxes.length c0, .slice p1 S.stock.length c1, .slice p2 S.earn.length c2, .slice p3 S.keeps.length c3, .int .i64 S.changes] 26)
  obtain ⟨W, hW⟩ : ∃ W, W = w.alloc (.cells #[.slice p0 S.boxes.length c0, .slice p1 S.stock.length c1, .slice p2 S.earn.length c2, .slice p3 S.keeps.length c3, .int .i64 S.changes] 26) := ⟨_, rfl⟩
  have hE : Ext w W := by rw [hW]; exact Ext.alloc (Ext.refl w) _
  rw [← hW] at hn ⊢
  have q0 := ExtW.cell (v := .slice p0 S.boxes.length c0) (cell_of_heap hn 0)
  have q1 := ExtW.cell (v := .slice p1 S.stock.length c1) (cell_of_heap hn 1)
  have q2 := ExtW.cell (v := .slice p2 S.earn.length c2) (cell_of_heap hn 2)
  have q3 := ExtW.cell (v := .slice p3 S.keeps.length c3) (cell_of_heap hn 3)
  have q4 := ExtW.cell (v := .int .i64 S.changes) (cell_of_heap hn 4)
  have HQ := Lib.hid (fun (z : World) (hz : Ext W z) => (⟨q0 ⟨z, hz⟩, q1 ⟨z, hz⟩, q2 ⟨z, hz⟩, q3 ⟨z, hz⟩, q4 ⟨z, hz⟩⟩ :
    z.cell? ⟨w.heap.size, 0, none⟩ = some (.slice p0 S.boxes.length c0) ∧ z.cell? ⟨w.heap.size, 1, none⟩ = some (.slice p1 S.stock.length c1) ∧ z.cell? ⟨w.heap.size, 2, none⟩ = some (.slice p2 S.earn.length c2) ∧ z.cell? ⟨w.heap.size, 3, none⟩ = some (.slice p3 S.keeps.length c3) ∧ z.cell? ⟨w.heap.size, 4, none⟩ = some (.int .i64 S.changes)))
  have HK0 := fun x : ExtW W => ExtW.call (rCheck07 _ S x.w (SwapV.mono _ _ _ _ (hE.trans x.h) HV.out) hM)
  obtain ⟨x0, hx0⟩ := ExtW.of (Ext.refl W)
  have HEW := Lib.hid hE
  clear hW hn hE
  conv => arg 5; rw [hx0]
  clear hx0
  by_cases hS : Valid S
  case neg =>
    rw [chk_f hS] at HK0
    have HK := Lib.hid HK0
    have HS := Lib.hid hS
    clear HK0 hS
    go_wp2_with fail
    refine (HK.out _).mono ?_
    rintro e _ ⟨rfl, x1, rfl⟩
    have he : copyV S title = .tuple #[.int .i64 0, .int .i64 70] := by simp [copyV, bP_f HS.out]
    have HE := Lib.hid he
    clear he
    go_wp2
    go_ret2
    exact RetE.fin (HEW.out.trans x1.h) HE.out.symm
  rw [chk_t hS] at HK0
  have HK := Lib.hid HK0
  have HS := Lib.hid hS
  clear HK0
  have hb3 := hS.boxes
  have hs6 := hS.stock
  have he6 : S.earn.length ≤ 6 := by rw [hS.earn]; exact hs6
  have hk4 := hS.keeps
  have hch := hS.ch
  have HCN := Lib.hid (fun (x : ExtW W) => Clone07 _ S x.w (SwapV.mono _ _ _ _ (HEW.out.trans x.h) HV.out) (by omega) (fun i h => by have := (hS.box i h).1; omega) (by omega) (by omega) (fun i h => by rw [hS.row i h]; omega) (by omega))
  have hwl : IntKind.i64.wrap ((S.stock.length : Int) - 1) = (S.stock.length : Int) - 1 := IntWalk.i64_in _ (by omega)
  by_cases hg : 0 ≤ title ∧ title ≤ (S.stock.length : Int) - 1
  case neg =>
    have he : copyV S title = .tuple #[.int .i64 0, .int .i64 1] := by simp only [copyV, bP_t hS, if_true, bP_f hg]; rfl
    have HE := Lib.hid he
    have HWI := Lib.hid (fun x : ExtW W => ExtW.call (RetQ.e (RetQ.bf hg (rwithin07 title 0 ((S.stock.length : Int) - 1) x.w))))
    clear he hg hS
    go_wp2_with fail
    refine (HK.out _).mono ?_
    rintro e _ ⟨rfl, x1, rfl⟩
    go_wp2_with fail
    refine (HWI.out _).mono ?_
    rintro e _ ⟨rfl, x2, rfl⟩
    go_wp2
    go_ret2
    exact RetE.fin (HEW.out.trans x2.h) HE.out.symm
  have HWI := Lib.hid (fun x : ExtW W => ExtW.call (RetQ.e (RetQ.bt hg (rwithin07 title 0 ((S.stock.length : Int) - 1) x.w))))
  obtain ⟨tn, rfl⟩ := Int.eq_ofNat_of_zero_le hg.1
  have htn : tn < S.stock.length := by omega
  have HRES := Lib.hid (fun (m1 m2 : Int) (h1 : m1 = maxE (copyS S tn) (fitA (copyS S tn))) (h2 : m2 = maxE S (fitA S)) => (by simp only [copyV, bP_t hS, if_true, bP_t hg, Int.toNat_natCast, h1, h2, copy_max hS tn htn, maxE_best hS] : copyV S tn = .tuple #[.int .i64 (m1 - m2), .int .i64 0]))
  have HOE := Lib.hid (copyS_e hS tn)
  have HOB := Lib.hid (maxE_bdS (copyS_e hS tn))
  have hst := hS.st tn htn
  have hgd := getD_of_lt S.stock 0 tn htn
  have HGD := Lib.hid hgd
  clear hS hg hgd
  go_wp2_with fail
  refine (HK.out _).mono ?_
  rintro e _ ⟨rfl, x1, rfl⟩
  go_wp2_with fail
  refine (HWI.out _).mono ?_
  rintro e _ ⟨rfl, x2, rfl⟩
  go_wp2_with fail
  refine (HCN.out x2).mono ?_
  rintro e w4 ⟨v0, v1, v2, v3, g0, k0, g2, k2, B, rfl, hE4, hBB, hco⟩
  obtain ⟨r0, d0, r1, d1, r2, d2, r3, d3, he, -⟩ := hco.swap
  injection he with he
  injection he with he
  simp only [List.cons.injEq, and_true] at he
  obtain ⟨rfl, rfl, rfl, rfl⟩ := he
  obtain ⟨x4, rfl⟩ := ExtW.of (x2.h.trans hE4)
  have HCO := Lib.hid hco
  have hB4 : W.heap.size ≤ B := by have := x2.h.size; omega
  have hsz4 := x4.h.size
  clear hco hE4 HCN hBB
  go_upto_region 7 with (fail)
  have hn6 := heap_new x4.w (.cells #[.slice r0 S.boxes.length d0, .slice r1 S.stock.length d1, .slice r2 S.earn.length d2, .slice r3 S.keeps.length d3, .int .i64 S.changes] 26)
  obtain ⟨W6, hW6⟩ : ∃ W6, W6 = x4.w.alloc (.cells #[.slice r0 S.boxes.length d0, .slice r1 S.stock.length d1, .slice r2 S.earn.length d2, .slice r3 S.keeps.length d3, .int .i64 S.changes] 26) := ⟨_, rfl⟩
  have hE6 : Ext x4.w W6 := by rw [hW6]; exact Ext.alloc (Ext.refl x4.w) _
  rw [← hW6] at hn6 ⊢
  have HCO6 := Lib.hid (HCO.out.ext hE6)
  obtain ⟨B6, hB6⟩ : ∃ B6, B6 = x4.w.heap.size := ⟨_, rfl⟩
  rw [← hB6] at hn6 ⊢
  have hWlt : W.heap.size ≤ B6 := by omega
  have HB6 := Lib.hid hB6
  have HN6 := Lib.hid hn6
  have HE6 := Lib.hid hE6
  obtain ⟨b1, c1', he, -⟩ := ownsRow_at HCO6.out.s tn htn
  cases he
  obtain ⟨w1, w2⟩ := ownsRow_cell HCO6.out.s htn
  obtain ⟨sv, hsv⟩ : ∃ sv, sv = S.stock[tn] := ⟨_, rfl⟩
  rw [← hsv] at w1 hst
  have hwc : IntKind.i64.wrap (sv + 1) = sv + 1 := IntWalk.i64_in _ (by omega)
  have z1 := cell_of_heap hn6 1
  simp at z1
  have HSVN := Lib.hid hsv
  clear hW6 hB6 hn6 hE6 hsv
  go_upto_region 8 with (fail)
  obtain ⟨X, hX⟩ : ∃ X, X = W6.setCell ⟨b1, tn, none⟩ (.int .i64 (sv + 1)) := ⟨_, rfl⟩
  have hlo : w.heap.size < B6 ∧ b1 < B6 ∧ W.heap.size ≤ b1 := by
    have h1 := HCO.out.s.lt b1 rfl
    have h2 := HB6.out
    have h3 := lt_of_cell (q0 x4)
    omega
  have hn7 : X.heap[B6]? = some (.cells #[.slice r0 S.boxes.length d0, .slice (some ⟨b1, 0, none⟩) S.stock.length d1, .slice r2 S.earn.length d2, .slice r3 S.keeps.length d3, .int .i64 S.changes] 26 (0, 0)) := by
    rw [hX, heap_set_ne (by omega)]; exact HN6.out
  have hco7 : CloneOwn X B (copyS S tn) (.slice r0 S.boxes.length d0) (.slice (some ⟨b1, 0, none⟩) S.stock.length d1) (.slice r2 S.earn.length d2) (.slice r3 S.keeps.length d3) g0 k0 g2 k2 := by
    have := CloneOwn.setStock (m := sv + 1) HCO6.out htn
    rw [← hX] at this
    rw [HSVN.out, ← HGD.out] at this
    exact this
  have hXE : Ext W X := by
    rw [hX]
    exact (x4.h.trans HE6.out).trans' ((setCell_but W6 b1 tn _).below hlo.2.2)
  rw [← hX]
  have HWX := Lib.hid hXE
  have HSVO := Lib.hid hco7.swap
  have HNX := Lib.hid hn7
  clear hX hn7 z1 w1 w2 hwc q0 q1 q2 q3 q4 HK HWI HCO HCO6 HN6 hXE hco7 hlo
  have HCL := Lib.hid (fun (z : World) (hz : Ext X z) => (⟨(HQ.out z (HWX.out.trans hz)).1, (HQ.out z (HWX.out.trans hz)).2.1, (HQ.out z (HWX.out.trans hz)).2.2.1, (HQ.out z (HWX.out.trans hz)).2.2.2.1, (HQ.out z (HWX.out.trans hz)).2.2.2.2, hz.cell (cell_of_heap HNX.out 0), hz.cell (cell_of_heap HNX.out 1), hz.cell (cell_of_heap HNX.out 2), hz.cell (cell_of_heap HNX.out 3), hz.cell (cell_of_heap HNX.out 4)⟩ :
    z.cell? ⟨w.heap.size, 0, none⟩ = some (.slice p0 S.boxes.length c0) ∧ z.cell? ⟨w.heap.size, 1, none⟩ = some (.slice p1 S.stock.length c1) ∧ z.cell? ⟨w.heap.size, 2, none⟩ = some (.slice p2 S.earn.length c2) ∧ z.cell? ⟨w.heap.size, 3, none⟩ = some (.slice p3 S.keeps.length c3) ∧ z.cell? ⟨w.heap.size, 4, none⟩ = some (.int .i64 S.changes) ∧ z.cell? ⟨B6, 0, none⟩ = some (.slice r0 S.boxes.length d0) ∧ z.cell? ⟨B6, 1, none⟩ = some (.slice (some ⟨b1, 0, none⟩) S.stock.length d1) ∧ z.cell? ⟨B6, 2, none⟩ = some (.slice r2 S.earn.length d2) ∧ z.cell? ⟨B6, 3, none⟩ = some (.slice r3 S.keeps.length d3) ∧ z.cell? ⟨B6, 4, none⟩ = some (.int .i64 S.changes)))
  have HF := Lib.hid (fun (z : World) (hz : Ext X z) => fitAll07 _ S z (SwapV.mono _ _ _ _ (HEW.out.trans (HWX.out.trans hz)) HV.out) HS.out.e)
  have HB := Lib.hid (fun (z : World) (hz : Ext X z) q c (hq : PlansAt z q (fitA S)) => rbestA07 _ S q c z (SwapV.mono _ _ _ _ (HEW.out.trans (HWX.out.trans hz)) HV.out) HS.out.e hq)
  have HFO := Lib.hid (fun (z : World) (hz : Ext X z) => fitAll07 _ (copyS S tn) z (SwapV.mono _ _ _ _ hz HSVO.out) HOE.out)
  have HBO := Lib.hid (fun (z : World) (hz : Ext X z) q c (hq : PlansAt z q (fitA (copyS S tn))) => rbestA07 _ (copyS S tn) q c z (SwapV.mono _ _ _ _ hz HSVO.out) HOE.out hq)
  have HX := Lib.hid (Ext.refl X)
  have hbd := maxE_bdS HS.out.e
  have hbo := HOB.out
  obtain ⟨m1, hm1⟩ : ∃ m, m = maxE (copyS S tn) (fitA (copyS S tn)) := ⟨_, rfl⟩
  obtain ⟨m2, hm2⟩ : ∃ m, m = maxE S (fitA S) := ⟨_, rfl⟩
  rw [← hm1] at HBO hbo
  rw [← hm2] at HB hbd
  have HM1 := Lib.hid hm1
  have HM2 := Lib.hid hm2
  clear hm1 hm2
  have hws : IntKind.i64.wrap (m1 - m2) = m1 - m2 := IntWalk.i64_in _ (by omega)
  clear hbd hbo
  go_region_held3 (fun z => z.cell? ⟨w.heap.size, 0, none⟩ = some (.slice p0 S.boxes.length c0) ∧ z.cell? ⟨w.heap.size, 1, none⟩ = some (.slice p1 S.stock.length c1) ∧ z.cell? ⟨w.heap.size, 2, none⟩ = some (.slice p2 S.earn.length c2) ∧ z.cell? ⟨w.heap.size, 3, none⟩ = some (.slice p3 S.keeps.length c3) ∧ z.cell? ⟨w.heap.size, 4, none⟩ = some (.int .i64 S.changes) ∧ z.cell? ⟨B6, 0, none⟩ = some (.slice r0 S.boxes.length d0) ∧ z.cell? ⟨B6, 1, none⟩ = some (.slice (some ⟨b1, 0, none⟩) S.stock.length d1) ∧ z.cell? ⟨B6, 2, none⟩ = some (.slice r2 S.earn.length d2) ∧ z.cell? ⟨B6, 3, none⟩ = some (.slice r3 S.keeps.length d3) ∧ z.cell? ⟨B6, 4, none⟩ = some (.int .i64 S.changes))
    ((refine HCL.out _ ?_; repeat (first | with_reducible exact HX.out | with_reducible refine Ext.drew ?_ | with_reducible refine Ext.trans ?_ (StpK.out (by assumption)))))
    (first
      | (go_at_call_of 62 (Value.slice p0 S.boxes.length c0); refine (HF.out _ (by repeat (first | with_reducible exact HX.out | with_reducible refine Ext.drew ?_ | with_reducible refine Ext.trans ?_ (StpK.out (by assumption))))).mono ?_; rintro e w1 ⟨qq, cap, rfl, hE1, hp1⟩; have HP1 := Lib.hid hp1; have hS1 := StpK.mk hE1; clear hE1 hp1)
      | (go_at_call_of 62 (Value.slice r0 S.boxes.length d0); refine (HFO.out _ (by repeat (first | with_reducible exact HX.out | with_reducible refine Ext.drew ?_ | with_reducible refine Ext.trans ?_ (StpK.out (by assumption))))).mono ?_; rintro e w3 ⟨qo, capo, rfl, hE3, hp3⟩; have HP3 := Lib.hid hp3; have hS3 := StpK.mk hE3; clear hE3 hp3)
      | (go_at_call_of 65 (Value.slice p0 S.boxes.length c0); refine (HB.out _ (by repeat (first | with_reducible exact HX.out | with_reducible refine Ext.drew ?_ | with_reducible refine Ext.trans ?_ (StpK.out (by assumption)))) qq cap (PlansAt.ext HP1.out (by repeat (first | with_reducible exact Ext.refl _ | with_reducible refine Ext.drew ?_ | with_reducible refine Ext.trans ?_ (StpK.out (by assumption)))))).mono ?_; rintro e w2 ⟨rfl, hE2⟩; have hS2 := StpK.mk hE2; clear hE2)
      | (go_at_call_of 65 (Value.slice r0 S.boxes.length d0); refine (HBO.out _ (by repeat (first | with_reducible exact HX.out | with_reducible refine Ext.drew ?_ | with_reducible refine Ext.trans ?_ (StpK.out (by assumption)))) qo capo (PlansAt.ext HP3.out (by repeat (first | with_reducible exact Ext.refl _ | with_reducible refine Ext.drew ?_ | with_reducible refine Ext.trans ?_ (StpK.out (by assumption)))))).mono ?_; rintro e w4 ⟨rfl, hE4⟩; have hS4 := StpK.mk hE4; clear hE4))
  all_goals
    go_wp2
    go_ret2
    exact RetE.fin (HEW.out.trans (HWX.out.trans (by repeat (first | with_reducible exact HX.out | with_reducible refine Ext.drew ?_ | with_reducible refine Ext.trans ?_ (StpK.out (by assumption)))))) (HRES.out m1 m2 HM1.out HM2.out).symm

end Go.Proofs.Ytpgjkmjejpfkmaa
namespace Go.Proofs.Ytpgjkmjejpfkmaa
open Go.RowKit

/-- a visit that is cloned has lists of modest length -/
structure Lens (S : Swap) : Prop where
  b : S.boxes.length ≤ 1000
  br : ∀ i (h : i < S.boxes.length), S.boxes[i].length ≤ 1000
  s : S.stock.length ≤ 1000
  e : S.earn.length ≤ 1000
  er : ∀ i (h : i < S.earn.length), S.earn[i].length ≤ 1000
  k : S.keeps.length ≤ 1000
theorem lens_of {S : Swap} (h : ¬Wide S) : Lens S := by
  simp only [Wide, FarL, not_or, not_exists, not_and] at h
  obtain ⟨⟨h1, h2⟩, ⟨h3, h4⟩, h5, h6⟩ := h
  refine ⟨by omega, fun i hi => ?_, by omega, by omega, fun i hi => ?_, by omega⟩
  · have := h2 _ (List.getElem_mem hi); omega
  · have := h4 _ (List.getElem_mem hi); omega
/-- Clone, where only the reading of the clone matters -/
theorem Clone07c {W : World} (x : ExtW W) (v : Value) (S : Swap) (hv : SwapV x.w v S) (h : Lens S) :
    Calls Try.prog 16 #[v] x.w (fun e w' => ∃ r0 d0 r1 d1 r2 d2 r3 d3, e = .returned (.agg #[.slice r0 S.boxes.length d0, .slice r1 S.stock.length d1, .slice r2 S.earn.length d2, .slice r3 S.keeps.length d3, .int .i64 S.changes]) ∧
      ∃ y : ExtW W, w' = y.w ∧ SwapV y.w (.agg #[.slice r0 S.boxes.length d0, .slice r1 S.stock.length d1, .slice r2 S.earn.length d2, .slice r3 S.keeps.length d3, .int .i64 S.changes]) S) := by
  refine (Clone07 v S x.w hv h.b h.br h.s h.e h.er h.k).mono ?_
  rintro e w' ⟨v0, v1, v2, v3, g0, k0, g2, k2, B, rfl, hE, -, hco⟩
  obtain ⟨r0, d0, r1, d1, r2, d2, r3, d3, he, h1⟩ := hco.swap
  injection he with he
  injection he with he
  simp only [List.cons.injEq, and_true] at he
  obtain ⟨rfl, rfl, rfl, rfl⟩ := he
  exact ⟨r0, d0, r1, d1, r2, d2, r3, d3, rfl, ⟨w', x.h.trans hE⟩, rfl, hco.swap⟩
theorem few_vals (S : Swap) (g : Int) : ∃ n m : Int, fewV S g = .tuple #[.int .i64 n, .int .i64 m] := by
  unfold fewV
  split
  · split
    · split
      · exact ⟨_, _, rfl⟩
      · exact ⟨_, _, rfl⟩
    · exact ⟨_, _, rfl⟩
  · exact ⟨_, _, rfl⟩
theorem change_vals (S : Swap) : ∃ n m : Int, changeV S = .tuple #[.int .i64 n, .int .i64 m] := by
  unfold changeV
  split
  · exact ⟨_, _, rfl⟩
  · exact ⟨_, _, rfl⟩
theorem copy_valsK (S : Swap) (t : Int) : ∃ n m : Int, copyV S t = .tuple #[.int .i64 n, .int .i64 m] := by
  unfold copyV
  split
  · split
    · exact ⟨_, _, rfl⟩
    · exact ⟨_, _, rfl⟩
  · exact ⟨_, _, rfl⟩
theorem fair_vals (S : Swap) : ∃ n m : Int, fairV S = .tuple #[.int .i64 n, .int .i64 m] := by
  unfold fairV
  split
  · split
    · exact ⟨_, _, rfl⟩
    · exact ⟨_, _, rfl⟩
  · exact ⟨_, _, rfl⟩
end Go.Proofs.Ytpgjkmjejpfkmaa
