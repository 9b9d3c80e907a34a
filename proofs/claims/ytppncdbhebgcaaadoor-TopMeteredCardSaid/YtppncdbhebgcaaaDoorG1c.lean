
/- The walk of TopMetered. -/
import Derived.Test.YtppncdbhebgcaaaDoorG1b
namespace Go.Proofs.YtppncdbhebgcaaaDoor
open Go.RowKit

theorem wkM_if (x2 x3 x : Int) : wkM x2 x3 x = ((if x2 < x then x - x2 else 0), x + x3) := by
  unfold wkM
  congr 1
  split <;> omega
theorem metM_wl (st fe mo : Int) (L : List Int) : (metM st fe mo L).weeks.length = L.length := by simp [metM]
theorem metM_rl (st fe mo : Int) (L : List Int) : (metM st fe mo L).reads.length = L.length + 1 := by simp [metM]
theorem two_cells (a b : Int) : ∀ u ∈ [Value.int .i64 a, .int .i64 b], u.oneCell' = true := by
  intro u hu
  simp at hu
  rcases hu with rfl | rfl <;> rfl
set_option maxRecDepth 20000 in
set_option maxHeartbeats 16000000 in
theorem TopMetered04 (tp : Option Addr) (tc : Nat) (TL : List TrayD) (x0 x1 x2 x3 : Int) (w : World) (hTL : TysAt w tp TL) (hT : TabW w) :
    Calls Tryd.prog 3 #[.slice tp TL.length tc, .agg #[.int .i64 x0, .int .i64 x1, .int .i64 x2, .int .i64 x3]] w (RetE (.bool true) w) := by
  obtain ⟨N, hN⟩ : ∃ N, N = TL.length := ⟨_, rfl⟩
  have HN := Lib.hid hN
  have HTL := Lib.hid (fun y (h : Ext w y) => hTL.ext h)
  have HT := Lib.hid hT
  rw [← hN]
  clear hN hTL hT
  go_enter Tryd.func3, Tryd.ntmps3
  go_upto_region 1 with (fail)
  obtain ⟨s0, hs0⟩ : ∃ s0, s0 = w.heap.size := ⟨_, rfl⟩
  obtain ⟨W, hW⟩ : ∃ W, W = w.alloc (.cells #[.int .i64 x0, .int .i64 x1, .int .i64 x2, .int .i64 x3] 24) := ⟨_, rfl⟩
  have m0 : W.heap[s0]? = some (.cells #[.int .i64 x0, .int .i64 x1, .int .i64 x2, .int .i64 x3] 24) := by rw [hs0, hW]; exact heap_new _ _
  have hE : Ext w W := by rw [hW]; exact Ext.alloc (Ext.refl _) _
  rw [← hs0, ← hW]
  have a0 := ExtW.cell (v := .int .i64 x0) (cell_of_heap m0 0)
  have a1 := ExtW.cell (v := .int .i64 x1) (cell_of_heap m0 1)
  have a2 := ExtW.cell (v := .int .i64 x2) (cell_of_heap m0 2)
  have a3 := ExtW.cell (v := .int .i64 x3) (cell_of_heap m0 3)
  have HE := Lib.hid hE
  have HTW := Lib.hid (HT.out.ext hE)
  have HTL := Lib.hid (fun y (h : Ext W y) => HTL.out y (hE.trans h))
  have HCD := Lib.hid (fun x : ExtW W => ExtW.callX (x := x) (metered04 x.w (HTW.out.ext x.h)))
  have HM0 := Lib.hid m0
  obtain ⟨y0, hy0⟩ := ExtW.of (Ext.refl W)
  have HY0 := Lib.hid hy0
  clear hW m0 hE hs0
  conv => arg 5; rw [hy0]
  clear hy0
  by_cases h1 : (3 : Int) < (N : Int)
  case pos =>
    go_wp2_with (go_at_call 4; refine (HCD.out _).mono ?_; rintro e w2 ⟨rfl, xc, rfl, -⟩)
    go_ret
    exact RetE.fin (HE.out.trans xc.h) rfl
  by_cases h2 : x1 < 0
  case pos =>
    go_wp2_with (go_at_call 4; refine (HCD.out _).mono ?_; rintro e w2 ⟨rfl, xc, rfl, -⟩)
    go_ret
    exact RetE.fin (HE.out.trans xc.h) rfl
  by_cases h3 : 99 < x1
  case pos =>
    go_wp2_with (go_at_call 4; refine (HCD.out _).mono ?_; rintro e w2 ⟨rfl, xc, rfl, -⟩)
    go_ret
    exact RetE.fin (HE.out.trans xc.h) rfl
  by_cases h4 : x2 < 0
  case pos =>
    go_wp2_with (go_at_call 4; refine (HCD.out _).mono ?_; rintro e w2 ⟨rfl, xc, rfl, -⟩)
    go_ret
    exact RetE.fin (HE.out.trans xc.h) rfl
  by_cases h5 : x3 < 0
  case pos =>
    go_wp2_with (go_at_call 4; refine (HCD.out _).mono ?_; rintro e w2 ⟨rfl, xc, rfl, -⟩)
    go_ret
    exact RetE.fin (HE.out.trans xc.h) rfl
  by_cases h6 : 4 < x2
  case pos =>
    go_wp2_with (go_at_call 4; refine (HCD.out _).mono ?_; rintro e w2 ⟨rfl, xc, rfl, -⟩)
    go_ret
    exact RetE.fin (HE.out.trans xc.h) rfl
  by_cases h7 : 4 < x3
  case pos =>
    go_wp2_with (go_at_call 4; refine (HCD.out _).mono ?_; rintro e w2 ⟨rfl, xc, rfl, -⟩)
    go_ret
    exact RetE.fin (HE.out.trans xc.h) rfl
  have hw8 : IntKind.i64.wrap (x2 + x3) = x2 + x3 := IntWalk.i64_in _ (by omega)
  by_cases h8 : 4 < x2 + x3
  case pos =>
    go_wp2_with (go_at_call 4; refine (HCD.out _).mono ?_; rintro e w2 ⟨rfl, xc, rfl, -⟩)
    go_ret
    exact RetE.fin (HE.out.trans xc.h) rfl
  by_cases h9 : x0 < 0
  case pos =>
    go_wp2_with (go_at_call 4; refine (HCD.out _).mono ?_; rintro e w2 ⟨rfl, xc, rfl, -⟩)
    go_ret
    exact RetE.fin (HE.out.trans xc.h) rfl
  obtain ⟨xr, rfl⟩ : ∃ xr : Nat, x0 = xr := ⟨x0.toNat, by omega⟩
  have hN3 : N ≤ 3 := by omega
  go_upto_region 4 with (fail)
  obtain ⟨g0, hg0⟩ : ∃ g0, g0 = y0.w.heap.size := ⟨_, rfl⟩
  obtain ⟨W1, hW1⟩ : ∃ W1, W1 = (y0.w.alloc (.cells #[.int .i64 0, .int .i64 x1] 27)).alloc (.cells #[.slice none 0 0, .slice (some ⟨g0, 0, none⟩) 1 1, .int .i64 0] 31) := ⟨_, rfl⟩
  obtain ⟨b, hb⟩ : ∃ b, b = g0 + 1 := ⟨_, rfl⟩
  have hG : MdG y0.w W1 b g0 (.slice none 0 0) [] (.slice none 0 0) (metM x1 x2 x3 []).weeks (.slice (some ⟨g0, 0, none⟩) 1 1) (metM x1 x2 x3 []).reads := by
    refine ⟨by rw [hW1]; exact ((Ext.refl _).alloc _).alloc _, hg0, by omega, ?_, World.ownsRow_nil _ _ _ _, World.ownsRow_nil _ _ _ _, ?_⟩
    · rw [hW1, hb, hg0]; exact heap_new2 _ _ _
    · rw [metM_nil_r _ _ _ (by omega) (by omega)]
      refine ⟨by rw [pairVs_len], Or.inr ⟨g0, 1, #[.int .i64 0, .int .i64 x1], rfl, Nat.le_refl _, (by rw [hW1, hg0]; exact heap_ext3 (heap_new _ _) ((Ext.refl _).alloc _)), Nat.le_refl _, by decide, rfl, ?_⟩⟩
      simp [pairVs, List.range_succ]
  rw [← hg0, ← hW1]
  try rw [← hb]
  have HG := Lib.hid hG
  have HGB := Lib.hid (show g0 = y0.w.heap.size ∧ b = g0 + 1 from ⟨hg0, hb⟩)
  clear hg0 hW1 hb hG
  obtain ⟨i0, hi, hz0, hz1, hz2⟩ := info_parts info_a
  have HI0 := Lib.hid (⟨hi, hz0, hz1, hz2⟩ : _ ∧ _ ∧ _ ∧ _)
  clear hi hz0 hz1 hz2
  obtain ⟨i1, hi, hz0, hz1, hz2⟩ := info_parts info_span
  have HI1 := Lib.hid (⟨hi, hz0, hz1, hz2⟩ : _ ∧ _ ∧ _ ∧ _)
  clear hi hz0 hz1 hz2
  obtain ⟨i2, hi, hz0, hz1, hz2⟩ := info_parts info_read
  have HI2 := Lib.hid (⟨hi, hz0, hz1, hz2⟩ : _ ∧ _ ∧ _ ∧ _)
  clear hi hz0 hz1 hz2
  go_wp2
  go_loopw [6, 7, 8] (fun vP a i wr => ∃ k : Nat, k ≤ N ∧ i = .int .i64 k ∧ ∃ Ls : List Int, Ls.length = k ∧ (∀ x ∈ Ls, 0 ≤ x ∧ x ≤ 12) ∧ a = .int .i64 (psL Ls k) ∧ ∃ vW vR, MdG y0.w wr b g0 vP Ls vW (metM x1 x2 x3 Ls).weeks vR (metM x1 x2 x3 Ls).reads) (fun _ _ i _ => N - (intOf i).toNat)
  case atStart => exact ⟨0, Nat.zero_le _, rfl, [], rfl, fun x hx => (List.not_mem_nil hx).elim, rfl, _, _, HG.out⟩
  case round =>
    obtain ⟨k, hk, rfl, Ls, hLl, hLb, rfl, vW, vR, hG⟩ := hrel
    have hEW := hG.ext
    have HEW := Lib.hid (y0.h.trans hEW)
    have HCW := Lib.hid (fun x : ExtW wr => ExtW.callX (x := x) (metered04 x.w (HTW.out.ext (HEW.out.trans x.h))))
    have e0 := ExtW.cell (HEW.out.cell (cell_of_heap HM0.out 0) : wr.cell? ⟨s0, 0, none⟩ = some (.int .i64 xr))
    have e1 := ExtW.cell (HEW.out.cell (cell_of_heap HM0.out 1) : wr.cell? ⟨s0, 1, none⟩ = some (.int .i64 x1))
    have e2 := ExtW.cell (HEW.out.cell (cell_of_heap HM0.out 2) : wr.cell? ⟨s0, 2, none⟩ = some (.int .i64 x2))
    have e3 := ExtW.cell (HEW.out.cell (cell_of_heap HM0.out 3) : wr.cell? ⟨s0, 3, none⟩ = some (.int .i64 x3))
    obtain ⟨sm, hsm⟩ : ∃ sm, sm = psL Ls k := ⟨_, rfl⟩
    have hsb := psL_bound hLb k (by omega)
    rw [← hsm] at hsb ⊢
    have HSM := Lib.hid hsm
    have HLL : EqS Ls.length k := ⟨hLl⟩
    have HLB := Lib.hid hLb
    have HMG := Lib.hid hG
    clear hEW hsm hLl hLb hG
    by_cases hlt : k < N
    · have hlt' : (k : Int) < (N : Int) := by omega
      obtain ⟨tb, tf, q, c, r, d, htp, u0, u1, u2, u3, u4, u5, u6⟩ := HTL.out wr HEW.out k (by have := HN.out; omega)
      subst htp
      have hsb' : 0 ≤ sm ∧ sm ≤ 36 := by omega
      obtain ⟨T, hTE⟩ : ∃ T, T = TL[k]'(by have := HN.out; omega) := ⟨_, rfl⟩
      rw [← hTE] at u0 u1 u2 u3 u4 u5 u6
      have HTV := Lib.hid (fun y (h : Ext wr y) => (⟨q, c, r, d, rfl, u5.ext h, u6.ext h⟩ : TyV y (.agg #[.slice q T.recs.length c, .int .i64 T.at_, .int .i64 T.way, .int .i64 T.step, .slice r T.prs.length d]) T))
      have v0 := ExtW.cell u0
      have v1 := ExtW.cell u1
      have v2 := ExtW.cell u2
      have v3 := ExtW.cell u3
      have v4 := ExtW.cell u4
      obtain ⟨fr, hfr⟩ : ∃ fr, fr = (decide (40 < T.recs.length) || decide (40 < T.prs.length)) := ⟨_, rfl⟩
      have HFA := Lib.hid (fun x : ExtW wr => ExtW.call (v := .bool fr) (x := x) (by
        have h := far02 T _ x.w (HTV.out _ x.h)
        rw [← hfr] at h
        exact h))
      obtain ⟨z0, hz0⟩ := ExtW.of (Ext.refl wr)
      clear u0 u1 u2 u3 u4 u5 u6 hTE
      conv => arg 5; rw [hz0]
      clear hz0
      cases fr
      case true =>
        clear hfr
        go_upto_region 9 with (fail)
        refine wp_region_extW (by kernel_rfl) (by kernel_rfl) ?_
        repeat (go_big_quiet_step (first | (go_at_call 5; exact HFA.out _)))
        refine wpQuiet_nil ?_
        rintro _ ⟨x9, rfl⟩
        go_wp2_with (go_at_call 4; refine (HCW.out _).mono ?_; rintro e w2 ⟨rfl, xc, rfl, -⟩)
        go_ret
        exact RetE.fin (HE.out.trans (HEW.out.trans xc.h)) rfl
      obtain ⟨hl1, hl2⟩ : T.recs.length ≤ 40 ∧ T.prs.length ≤ 40 := by simpa using hfr.symm
      clear hfr
      obtain ⟨ck, hck⟩ : ∃ ck, ck = chkY T := ⟨_, rfl⟩
      have HCK := Lib.hid (fun x : ExtW wr => ExtW.call (v := .int .i64 ck) (x := x) (by
        have h := rCheck02 T _ x.w (HTV.out _ x.h) (by omega) (by omega)
        rw [← hck] at h
        exact h))
      have hk2 : ck = 0 ∧ okY T = true ∨ ck = 20 := by
        unfold chkY at hck
        split at hck
        · rename_i h; exact Or.inl ⟨hck, h⟩
        · exact Or.inr hck
      clear hck hl1 hl2
      rcases hk2 with ⟨rfl, hok⟩ | rfl
      case inr =>
        go_upto_region 9 with (fail)
        refine wp_region_extW (by kernel_rfl) (by kernel_rfl) ?_
        repeat (go_big_quiet_step (first | (go_at_call 5; exact HFA.out _) | (go_at_call 6; exact HCK.out _)))
        refine wpQuiet_nil ?_
        rintro _ ⟨x9, rfl⟩
        go_wp2_with (go_at_call 4; refine (HCW.out _).mono ?_; rintro e w2 ⟨rfl, xc, rfl, -⟩)
        go_ret
        exact RetE.fin (HE.out.trans (HEW.out.trans xc.h)) rfl
      have hY := okY_is hok
      have HY := Lib.hid hY
      clear hok hY
      by_cases hxn : T.recs.length ≤ xr
      case pos =>
        have hx1 : decide (T.recs.length ≤ xr) = true := decide_eq_true hxn
        have hx2 : decide ((T.recs.length : Int) ≤ (xr : Int)) = true := decide_eq_true (by omega)
        go_upto_region 9 with (fail)
        refine wp_region_extW (by kernel_rfl) (by kernel_rfl) ?_
        repeat (go_big_quiet_step (first | (go_at_call 5; exact HFA.out _) | (go_at_call 6; exact HCK.out _)))
        refine wpQuiet_nil ?_
        rintro _ ⟨x9, rfl⟩
        go_wp2_with (go_at_call 4; refine (HCW.out _).mono ?_; rintro e w2 ⟨rfl, xc, rfl, -⟩)
        go_ret
        exact RetE.fin (HE.out.trans (HEW.out.trans xc.h)) rfl
      have hx1 : decide (T.recs.length ≤ xr) = false := decide_eq_false hxn
      have hx2 : decide ((T.recs.length : Int) ≤ (xr : Int)) = false := decide_eq_false (by omega)
      go_upto_region 9 with (fail)
      refine wp_region_extW (by kernel_rfl) (by kernel_rfl) ?_
      repeat (go_big_quiet_step (first | (go_at_call 5; exact HFA.out _) | (go_at_call 6; exact HCK.out _)))
      refine wpQuiet_nil ?_
      rintro _ ⟨x9, rfl⟩
      clear hx1 hx2
      go_upto_region 14 with (go_at_call 7; refine (often02 HY.out (HTV.out _ x9.h)).mono ?_; rintro e W3 ⟨qs, g, hq1, hq2, rfl, hE3, hO3⟩)
      obtain ⟨n, hn⟩ : ∃ n, n = T.recs.length := ⟨_, rfl⟩
      obtain ⟨L, hL⟩ : ∃ L, L = cntY n (playsC T qs) := ⟨_, rfl⟩
      have hpl := (plays_le HY.out hq1).1
      have hnp := HY.out.np
      rw [← hn] at hO3 hxn ⊢
      rw [← hL] at hO3
      have hLn : L.length = n := by rw [hL]; exact cntY_len _ _
      have hxl : xr < L.length := by omega
      obtain ⟨x, hx⟩ : ∃ x, x = L[xr] := ⟨_, rfl⟩
      have hxb : 0 ≤ x ∧ x ≤ 12 := by
        rw [hx]
        subst hL
        have := cntY_le hxl
        omega
      have hcg : W3.cell? ⟨g, xr, none⟩ = some (.int .i64 x) := by
        obtain ⟨b', cc, he, hc⟩ := ownsRow_at hO3 xr (by omega)
        cases he
        rw [hc, intVs_get hxl, hx]
      have hE9 : Ext wr W3 := x9.h.trans hE3
      have HM3 := Lib.hid (HMG.out.ext' hE9)
      have w0 : W3.cell? ⟨s0, 0, none⟩ = some (.int .i64 xr) := e0 ⟨W3, hE9⟩
      have hxI : (xr : Int) < (n : Int) := by omega
      have hwx : IntKind.i64.wrap (sm + x) = sm + x := IntWalk.i64_in _ (by omega)
      have HHC := Lib.hid (fun y (h : Ext y0.w y) => (by
        have h2 := heap_ext3 HM0.out (y0.h.trans h)
        exact ⟨cell_of_heap h2 0, cell_of_heap h2 1, cell_of_heap h2 2, cell_of_heap h2 3⟩ :
        y.cell? ⟨s0, 0, none⟩ = some (.int .i64 xr) ∧ y.cell? ⟨s0, 1, none⟩ = some (.int .i64 x1) ∧ y.cell? ⟨s0, 2, none⟩ = some (.int .i64 x2) ∧ y.cell? ⟨s0, 3, none⟩ = some (.int .i64 x3)))
      have hsz0 := HM3.out.ext.size
      have hgb : g0 ≤ y0.w.heap.size := by have := HGB.out; omega
      have hll : Ls.length ≤ 3 := by have := HLL.out; omega
      have hk3 : k ≤ 3 := by omega
      clear hn hL hpl hnp hO3 hLn hxl hx hE9 hE3 hq1 hq2 e0 e1 e2 e3 v0 v1 v2 v3 v4 HFA HCK HCW HTV
      go_upto_region 17 with (at_builtin; go_loud (refine wpList_append_lies _ rfl (.tmp 122) (.tmp 124) 32 rfl g0 3 i0 _ 1 8 Tryd.underlying32 HI0.out.1 HI0.out.2.1 HI0.out.2.2.1 HI0.out.2.2.2 rfl (by decide) _ Ls.length _ rfl (ownsRow_ext HM3.out.P ((Ext.refl _).alloc _)) ⟨W3.heap.size, 0, none⟩ 1 1 [.int .i64 x] rfl rfl (one_news2 (heap_new _ _)) (by intro u hu; simp at hu; subst hu; rfl) (by decide) (by unfold maxLen; omega) (by omega) (by rw [size_alloc]; omega) _ rfl ?_); intro g4 cap4 W4 ho4 hg4 hor _)
      have hM4 := (HM3.out.ext' ((Ext.refl W3).alloc _)).growP (l1 := Ls ++ [x]) hg4 (by rw [intVs_snoc, List.length_append]; exact ho4)
      have HM4 := Lib.hid hM4
      obtain ⟨j0, j1, j2, j3⟩ := HHC.out W4 hM4.ext
      have k0 := cell_of_heap hM4.m 0
      have k1 := cell_of_heap hM4.m 1
      have kf := cell_frozen hM4.m 0
      simp only [List.getElem?_toArray, List.getElem?_cons_zero, List.getElem?_cons_succ] at k0 k1
      have hsz4 := hM4.ext.size
      clear ho4 hg4 hor hM4 w0 hcg
      have hwm : IntKind.i64.wrap (x - x2) = x - x2 := IntWalk.i64_in _ (by omega)
      have hwp : IntKind.i64.wrap (x + x3) = x + x3 := IntWalk.i64_in _ (by omega)
      have HW4 := Lib.hid (by have h := HM4.out.W; rw [metM_wl] at h; exact h : W4.ownsRow g0 43 2 vW Ls.length (pairVs (metM x1 x2 x3 Ls).weeks))
      go_upto_region 18 with (at_builtin; go_loud (refine wpList_append_lies _ rfl (.tmp 127) (.tmp 138) 29 rfl g0 43 i1 _ 2 16 Tryd.underlying29 HI1.out.1 HI1.out.2.1 HI1.out.2.2.1 HI1.out.2.2.2 rfl (by decide) _ Ls.length _ rfl (ownsRow_ext HW4.out ((Ext.refl _).alloc _)) ⟨W4.heap.size, 0, none⟩ 1 1 [.int .i64 (if x2 < x then x - x2 else 0), .int .i64 (x + x3)] rfl rfl (one_news2 (heap_new _ _)) (two_cells _ _) (by decide) (by unfold maxLen; omega) (by omega) (by rw [size_alloc]; omega) _ rfl ?_); intro g5 cap5 W5 ho5 hg5 hor _; have q5 := GrB.keep hg5 (heap_ext3 HM4.out.m ((Ext.refl W4).alloc _)) (own_not3 HM4.out.W HM4.out.m (by decide)); have q6 := cell_of_heap q5 0; have q7 := cell_frozen q5 0; simp only [List.getElem?_toArray, List.getElem?_cons_zero] at q6)
      have hM6 := HM4.out.ext' ((Ext.refl W4).alloc (.cells #[.int .i64 (if x2 < x then x - x2 else 0), .int .i64 (x + x3)] 43)) |>.setW (v' := .slice (some ⟨g5, 0, none⟩) (Ls.length + 1) cap5) (l2 := (metM x1 x2 x3 (Ls ++ [x])).weeks) hg5 (by rw [metM_wl, metM_snoc_w, List.length_append, wkM_if, pairVs_snoc1]; exact ho5)
      obtain ⟨W6, hW6⟩ : ∃ W6, W6 = W5.setCell ⟨b, 0, none⟩ (.slice (some ⟨g5, 0, none⟩) (Ls.length + 1) cap5) := ⟨_, rfl⟩
      rw [← hW6] at hM6 ⊢
      have HM6 := Lib.hid hM6
      obtain ⟨j0, j1, j2, j3⟩ := HHC.out W6 hM6.ext
      have k0 := cell_of_heap hM6.m 0
      have k1 := cell_of_heap hM6.m 1
      simp only [List.getElem?_toArray, List.getElem?_cons_zero, List.getElem?_cons_succ] at k0 k1
      have hsz6 := hM6.ext.size
      clear ho5 hg5 hor hM6 hW6 q5 q6 q7 HW4 hwm hwp
      have hw9 : IntKind.i64.wrap (x1 + (sm + x)) = x1 + (sm + x) := IntWalk.i64_in _ (by omega)
      have htm : Int.tmod (x1 + (sm + x)) 100 = (x1 + (sm + x)) % 100 := Int.tmod_eq_emod_of_nonneg (by omega)
      have HW6 := Lib.hid (by have h := HM6.out.R; rw [metM_rl] at h; exact h : W6.ownsRow g0 27 2 vR (Ls.length + 1) (pairVs (metM x1 x2 x3 Ls).reads))
      go_wp2_with (at_builtin; go_loud (refine wpList_append_lies _ rfl (.tmp 142) (.tmp 151) 28 rfl g0 27 i2 _ 2 16 Tryd.underlying28 HI2.out.1 HI2.out.2.1 HI2.out.2.2.1 HI2.out.2.2.2 rfl (by decide) _ (Ls.length + 1) _ rfl (ownsRow_ext HW6.out ((Ext.refl _).alloc _)) ⟨W6.heap.size, 0, none⟩ 1 1 [.int .i64 ((k : Int) + 1), .int .i64 ((x1 + (sm + x)) % 100)] rfl rfl (one_news2 (heap_new _ _)) (two_cells _ _) (by decide) (by unfold maxLen; omega) (by omega) (by rw [size_alloc]; omega) _ rfl ?_); intro g7 cap7 W7 ho7 hg7 hor _; have q5 := GrB.keep hg7 (heap_ext3 HM6.out.m ((Ext.refl W6).alloc _)) (own_not3 HM6.out.R HM6.out.m (by decide)); have q6 := cell_of_heap q5 1; have q7 := cell_frozen q5 1; simp only [List.getElem?_toArray, List.getElem?_cons_zero, List.getElem?_cons_succ] at q6)
      have e1 : psL Ls Ls.length = sm := by rw [HLL.out]; exact HSM.out.symm
      have e2 : (Ls.length : Int) = (k : Int) := by rw [HLL.out]
      have hM8 := HM6.out.ext' ((Ext.refl W6).alloc (.cells #[.int .i64 ((k : Int) + 1), .int .i64 ((x1 + (sm + x)) % 100)] 27)) |>.setR (v' := .slice (some ⟨g7, 0, none⟩) (Ls.length + 1 + 1) cap7) (l2 := (metM x1 x2 x3 (Ls ++ [x])).reads) hg7 (by rw [metM_rl, metM_snoc_r, List.length_append, pairVs_snoc1, e1, e2]; exact ho7)
      have e3 : sm + x = psL (Ls ++ [x]) (k + 1) := by
        have := psL_all Ls x
        rw [e1, HLL.out] at this
        exact this.symm
      exact ⟨⟨k + 1, by omega, by simp, Ls ++ [x], by rw [List.length_append, HLL.out]; rfl, fun z hz => by
        rcases List.mem_append.1 hz with h | h
        · exact HLB.out z h
        · rw [List.mem_singleton.1 h]; exact hxb, by rw [e3], _, _, hM8⟩, by simp [intOf]; omega⟩
    · obtain rfl : k = N := by omega
      have hl3 : Ls.length ≤ 3 := by have := HLL.out; omega
      have hmt := HMG.out.mt
      have HMT := Lib.hid (fun y (h : Ext wr y) => hmt.ext h)
      have HTR := Lib.hid (HTW.out.ext HEW.out)
      have hsm' : psL Ls Ls.length = sm := by rw [HLL.out]; exact HSM.out.symm
      have hsu := metM_sums (st := x1) (fe := x2) (mo := x3) (L := Ls) (by omega) (by omega) (by omega) (by omega) (by omega) hl3 HLB.out
      have hsh := metM_shows (st := x1) (fe := x2) (mo := x3) (L := Ls) (by omega) (by omega) (by omega) (by omega) (by omega) hl3 HLB.out
      have hro := metM_rounds (st := x1) (fe := x2) (mo := x3) (L := Ls) (by omega) (by omega) (by omega) (by omega) (by omega) hl3 HLB.out
      have hak := metM_ask (st := x1) (fe := x2) (mo := x3) (L := Ls) (by omega) (by omega) (by omega) (by omega) (by omega) hl3 HLB.out
      have hwe := fun i (h : i < Ls.length) => metM_week (st := x1) (fe := x2) (mo := x3) (L := Ls) (by omega) (by omega) (by omega) (by omega) (by omega) hl3 HLB.out h
      rw [hsm', HLL.out] at hsu hsh
      rw [hsm'] at hro
      have HWE := Lib.hid hwe
      have hw9 : IntKind.i64.wrap (x1 + sm) = x1 + sm := IntWalk.i64_in _ (by omega)
      have htm : Int.tmod (x1 + sm) 100 = (x1 + sm) % 100 := Int.tmod_eq_emod_of_nonneg (by omega)
      have htd : Int.tdiv (x1 + sm) 100 = (x1 + sm) / 100 := Int.tdiv_eq_ediv_of_nonneg (by omega)
      obtain ⟨rm, hrm⟩ : ∃ rm, rm = (x1 + sm) % 100 := ⟨_, rfl⟩
      obtain ⟨qd, hqd⟩ : ∃ qd, qd = (x1 + sm) / 100 := ⟨_, rfl⟩
      rw [← hrm] at hsh htm
      rw [← hqd] at hro htd
      have hqb : 0 ≤ qd ∧ qd ≤ 10 := by omega
      have hwq : IntKind.i64.wrap qd = qd := IntWalk.i64_in _ (by omega)
      have hqn : (qd != qd) = false := by simp
      have HSU := Lib.hid (fun x : ExtW wr => ExtW.callL (l := [sm]) (n := 0) (x := x) (by
        have h := Sums04 (metM x1 x2 x3 Ls) 0 (k : Int) _ x.w (HMT.out _ x.h) (by rw [metM_wl]; omega) (by rw [metM_rl]; omega) (HTR.out.ext x.h)
        have h1 := hsu.1
        unfold sumsA at h1
        rw [h1, hsu.2] at h
        exact h))
      have HSH := Lib.hid (fun x : ExtW wr => ExtW.callL (l := [rm]) (n := 0) (x := x) (by
        have h := Shows04 (metM x1 x2 x3 Ls) (k : Int) _ x.w (HMT.out _ x.h) (by rw [metM_wl]; omega) (by rw [metM_rl]; omega)
        have h1 := hsh.1
        unfold showsA at h1
        rw [h1, hsh.2] at h
        exact h))
      have HRO := Lib.hid (fun x : ExtW wr => (by
        have h := Rounds04 (metM x1 x2 x3 Ls) _ x.w (HMT.out _ x.h) (by rw [metM_wl]; omega) (by rw [metM_rl]; omega) (HTR.out.ext x.h)
        rw [hro.1, hro.2, hak] at h
        exact h : Calls Tryd.prog 10 #[.agg #[vW, vR, .int .i64 0]] x.w (RetSp qd qd 0 x.w)))
      have c0 := ExtW.cell (v := vW) (cell_of_heap HMG.out.m 0)
      have c1 := ExtW.cell (v := vR) (cell_of_heap HMG.out.m 1)
      have c2 := ExtW.cell (v := .int .i64 0) (cell_of_heap HMG.out.m 2)
      have hP := ownsRow_ints HMG.out.P
      obtain ⟨pp, pc, hpv, hPI⟩ := hP
      subst hpv
      have HPI := Lib.hid hPI
      obtain ⟨y1, hy1⟩ := ExtW.of (Ext.refl wr)
      clear hl3 hmt hsm' hsu hsh hro hak hwe hrm hqd hPI hlt
      conv => arg 5; rw [hy1]
      clear hy1
      go_upto_region 22 with (first
        | (go_at_call 8; refine (HSU.out _).mono ?_; rintro e _ ⟨p2, c2', rfl, z1, rfl, hE1, hi1, -⟩)
        | (go_at_call 9; refine (HSH.out _).mono ?_; rintro e _ ⟨p3, c3', rfl, z2, rfl, hE2, hi2, -⟩)
        | (go_at_call 10; refine (HRO.out _).mono ?_; rintro e W9 ⟨rfl, hE3⟩))
      obtain ⟨s10, hs10⟩ : ∃ s10, s10 = W9.heap.size := ⟨_, rfl⟩
      obtain ⟨W10, hW10⟩ : ∃ W10, W10 = W9.alloc (.cells #[.int .i64 qd, .int .i64 qd] 43) := ⟨_, rfl⟩
      have m10 : W10.heap[s10]? = some (.cells #[.int .i64 qd, .int .i64 qd] 43) := by rw [hW10, hs10]; exact heap_new _ _
      have hE10 : Ext wr W10 := by rw [hW10]; exact (z2.h.trans hE3).alloc _
      have hi1' : IntsAt W10 p2 [sm] := by rw [hW10]; exact hi1.ext ((hE2.trans hE3).alloc _)
      have hi2' : IntsAt W10 p3 [rm] := by rw [hW10]; exact hi2.ext (hE3.alloc _)
      rw [← hs10, ← hW10]
      have HS1 := Lib.hid (fun y : ExtW W10 => (by
        have h := SameInts02 p2 (some ⟨y.w.heap.size, 0, none⟩) [sm] [sm] c2' 1 (y.w.alloc (.cells #[.int .i64 sm] 3)) (by show 1 ≤ 100000; omega) (by show 1 ≤ 9223372036854775807; omega) (hi1'.ext (y.h.alloc _)) (IntsAt.cells [sm] (heap_new _ _))
        rw [decide_eq_true rfl] at h
        exact h.mono fun e w' hr => ⟨hr.1, ⟨w', (y.h.alloc _).trans hr.2⟩, rfl⟩ : Calls Tryd.prog 11 #[.slice p2 1 c2', .slice (some ⟨y.w.heap.size, 0, none⟩) 1 1] (y.w.alloc (.cells #[.int .i64 sm] 3)) (fun e w' => e = .returned (.bool true) ∧ ∃ z : ExtW W10, w' = z.w)))
      have HS2 := Lib.hid (fun y : ExtW W10 => (by
        have h := SameInts02 p3 (some ⟨y.w.heap.size, 0, none⟩) [rm] [rm] c3' 1 (y.w.alloc (.cells #[.int .i64 rm] 3)) (by show 1 ≤ 100000; omega) (by show 1 ≤ 9223372036854775807; omega) (hi2'.ext (y.h.alloc _)) (IntsAt.cells [rm] (heap_new _ _))
        rw [decide_eq_true rfl] at h
        exact h.mono fun e w' hr => ⟨hr.1, ⟨w', (y.h.alloc _).trans hr.2⟩, rfl⟩ : Calls Tryd.prog 11 #[.slice p3 1 c3', .slice (some ⟨y.w.heap.size, 0, none⟩) 1 1] (y.w.alloc (.cells #[.int .i64 rm] 3)) (fun e w' => e = .returned (.bool true) ∧ ∃ z : ExtW W10, w' = z.w)))
      have u0 := ExtW.cell (hE10.cell (e0 ⟨wr, Ext.refl wr⟩) : W10.cell? ⟨s0, 0, none⟩ = some (.int .i64 xr))
      have u1 := ExtW.cell (hE10.cell (e1 ⟨wr, Ext.refl wr⟩) : W10.cell? ⟨s0, 1, none⟩ = some (.int .i64 x1))
      have u8 := ExtW.cell (v := .int .i64 qd) (cell_of_heap m10 0)
      have u9 := ExtW.cell (v := .int .i64 qd) (cell_of_heap m10 1)
      have v0 := ExtW.cell (hE10.cell (c0 ⟨wr, Ext.refl wr⟩) : W10.cell? ⟨b, 0, none⟩ = some vW)
      have v1 := ExtW.cell (hE10.cell (c1 ⟨wr, Ext.refl wr⟩) : W10.cell? ⟨b, 1, none⟩ = some vR)
      have v2 := ExtW.cell (hE10.cell (c2 ⟨wr, Ext.refl wr⟩) : W10.cell? ⟨b, 2, none⟩ = some (.int .i64 0))
      have HE10 := Lib.hid hE10
      obtain ⟨y10, hy10⟩ := ExtW.of (Ext.refl W10)
      clear hs10 hW10 m10 hE10 hi1' hi2' hE1 hE2 hE3 hi1 hi2 HSU HSH HRO c0 c1 c2 e0 e1 e2 e3
      conv => arg 5; rw [hy10]
      clear hy10
      go_wp2_with (fail)
      go_at_call 11
      with_reducible refine (HS1.out _).mono ?_
      rintro e _ ⟨rfl, z11, rfl⟩
      go_wp2_with (fail)
      go_at_call 11
      with_reducible refine (HS2.out _).mono ?_
      rintro e _ ⟨rfl, z12, rfl⟩
      clear HS1 HS2
      go_upto_region 24 with (fail)
      go_wp2
      have HCW := Lib.hid (fun x : ExtW W10 => ExtW.callX (x := x) (metered04 x.w (HTR.out.ext (HE10.out.trans x.h))))
      go_loopw [18] (fun a wz => ∃ j : Nat, j ≤ k ∧ a = .int .i64 j ∧ ∃ y : ExtW W10, wz = y.w) (fun a _ => k - (intOf a).toNat)
      case atStart => exact ⟨0, Nat.zero_le _, rfl, z12, rfl⟩
      case round =>
        obtain ⟨j, hj, rfl, y, rfl⟩ := hrel
        by_cases hlt : j < k
        · have hjl : j < Ls.length := by have := HLL.out; omega
          have hjL : (j : Int) < (Ls.length : Int) := by omega
          obtain ⟨x, hx⟩ : ∃ x, x = Ls[j] := ⟨_, rfl⟩
          have hwj := HWE.out j hjl
          rw [← hx] at hwj
          have HWK := Lib.hid (fun z : ExtW W10 => (by
            have h := Week04 (metM x1 x2 x3 Ls) (j : Int) _ z.w (HMT.out _ (HE10.out.trans z.h)) (by rw [metM_wl]; have := HLL.out; omega) (by rw [metM_rl]; have := HLL.out; omega) (HTR.out.ext (HE10.out.trans z.h))
            rw [hwj.1, hwj.2.1, hwj.2.2] at h
            exact h : Calls Tryd.prog 12 #[.agg #[vW, vR, .int .i64 0], .int .i64 (j : Int)] z.w (RetSp x x 0 z.w)))
          obtain ⟨pb, po, pv, hpp, hpc, hpv⟩ := HPI.out j hjl
          subst hpp
          rw [← hx] at hpv
          subst hpv
          have HPC := Lib.hid hpc
          clear hjl hx hwj hpc
          go_upto_region 28 with (go_at_call 12; refine (HWK.out _).mono ?_; rintro e W13 ⟨rfl, hE13⟩)
          obtain ⟨s14, hs14⟩ : ∃ s14, s14 = W13.heap.size := ⟨_, rfl⟩
          obtain ⟨W14, hW14⟩ : ∃ W14, W14 = W13.alloc (.cells #[.int .i64 x, .int .i64 x] 43) := ⟨_, rfl⟩
          have m14 : W14.heap[s14]? = some (.cells #[.int .i64 x, .int .i64 x] 43) := by rw [hW14, hs14]; exact heap_new _ _
          have hE14 : Ext W10 W14 := by rw [hW14]; exact (y.h.trans hE13).alloc _
          rw [← hs14, ← hW14]
          have HE14 := Lib.hid hE14
          have t0 := ExtW.cell (v := .int .i64 x) (cell_of_heap m14 0)
          have t1 := ExtW.cell (v := .int .i64 x) (cell_of_heap m14 1)
          have t2 := ExtW.cell ((HE10.out.trans hE14).cell HPC.out)
          obtain ⟨y14, hy14⟩ := ExtW.of (Ext.refl W14)
          clear hs14 hW14 m14 hE14 hE13 HWK HPC
          conv => arg 5; rw [hy14]
          clear hy14
          refine wp_region_extW (by kernel_rfl) (by kernel_rfl) ?_
          repeat (go_big_quiet_step (fail))
          refine wpQuiet_nil ?_
          rintro _ ⟨x15, rfl⟩
          go_wp2
          exact ⟨⟨j + 1, by omega, by simp, ⟨x15.w, HE14.out.trans x15.h⟩, rfl⟩, by simp [intOf]; omega⟩
        · obtain rfl : j = k := by omega
          clear hlt
          have hge : ¬(j : Int) < (Ls.length : Int) := by have := HLL.out; omega
          go_wp2_with (go_at_call 4; refine (HCW.out _).mono ?_; rintro e w2 ⟨rfl, xc, rfl, -⟩)
          go_ret
          exact RetE.fin (HE.out.trans (HEW.out.trans (HE10.out.trans xc.h))) rfl
end Go.Proofs.YtppncdbhebgcaaaDoor
