/- The walk of WearLess. -/
import Derived.Test.YtkcilgjkdiopnaaWLessB
import Derived.Test.YtkcilgjkdiopnaaOpw4
namespace Go.Proofs.Ytkcilgjkdiopnaa
open Go.RowKit

set_option maxRecDepth 20000 in
set_option maxHeartbeats 16000000 in
theorem WearLess03 (v : Value) (X : Wr) (pp : Option Addr) (l : List Wk) (pc : Nat) (y : Ls) (w : World) (hv : WrV w v X) (hM : BigW X) (h : WksAt w pp l) (hP : BigP l) :
    Calls Try.prog 9 #[v, .slice pp l.length pc, .agg #[.int .i64 y.record, .int .i64 y.worn, .int .i64 y.limit, .int .i64 y.week, .int .i64 y.plays, .int .i64 y.age, .int .i64 y.rough, .int .i64 y.step]] w (RetE (.bool true) w) := by
  obtain ⟨yr, yw, yl, yk, yp, ya, yg, ys⟩ := y
  simp only
  have HV := Lib.hid hv
  have HP := Lib.hid hP
  have HB := Lib.hid hM
  have m2 := hM.recs
  have ml := hP.len
  obtain ⟨p, c, q, d, rfl, h1, h2⟩ := hv
  clear hM hP
  go_enter Try.func9, Try.ntmps9
  go_upto_region 1 with (fail)
  have hn := heap_new1 w (.cells (wrCells X p c q d) 25) (.cells #[.int .i64 yr, .int .i64 yw, .int .i64 yl, .int .i64 yk, .int .i64 yp, .int .i64 ya, .int .i64 yg, .int .i64 ys] 64)
  have hn2 := heap_new2 w (.cells (wrCells X p c q d) 25) (.cells #[.int .i64 yr, .int .i64 yw, .int .i64 yl, .int .i64 yk, .int .i64 yp, .int .i64 ya, .int .i64 yg, .int .i64 ys] 64)
  unfold wrCells at hn hn2
  obtain ⟨W, hW⟩ : ∃ W, W = (w.alloc (.cells #[.int .i64 X.weeks, .int .i64 X.price, .int .i64 X.age, .int .i64 X.step, .slice p X.rough.length c, .slice q X.recs.length d] 25)).alloc (.cells #[.int .i64 yr, .int .i64 yw, .int .i64 yl, .int .i64 yk, .int .i64 yp, .int .i64 ya, .int .i64 yg, .int .i64 ys] 64) := ⟨_, rfl⟩
  have hE : Ext w W := by rw [hW]; exact Ext.alloc (Ext.alloc (Ext.refl w) _) _
  rw [← hW] at hn hn2 ⊢
  have q0 := ExtW.cell (v := .int .i64 X.weeks) (cell_of_heap hn 0)
  have q1 := ExtW.cell (v := .int .i64 X.price) (cell_of_heap hn 1)
  have q2 := ExtW.cell (v := .int .i64 X.age) (cell_of_heap hn 2)
  have q3 := ExtW.cell (v := .int .i64 X.step) (cell_of_heap hn 3)
  have q4 := ExtW.cell (v := .slice p X.rough.length c) (cell_of_heap hn 4)
  have q5 := ExtW.cell (v := .slice q X.recs.length d) (cell_of_heap hn 5)
  have u0 := ExtW.cell (v := .int .i64 yr) (cell_of_heap hn2 0)
  have u1 := ExtW.cell (v := .int .i64 yw) (cell_of_heap hn2 1)
  have u2 := ExtW.cell (v := .int .i64 yl) (cell_of_heap hn2 2)
  have u3 := ExtW.cell (v := .int .i64 yk) (cell_of_heap hn2 3)
  have u4 := ExtW.cell (v := .int .i64 yp) (cell_of_heap hn2 4)
  have u5 := ExtW.cell (v := .int .i64 ya) (cell_of_heap hn2 5)
  have u6 := ExtW.cell (v := .int .i64 yg) (cell_of_heap hn2 6)
  have u7 := ExtW.cell (v := .int .i64 ys) (cell_of_heap hn2 7)
  have HWK := Lib.hid (fun x : ExtW W => ExtW.call (works03 x.w))
  have HR := fun x : ExtW W => ready03 _ X x.w (WrV.mono _ _ _ _ (hE.trans x.h) HV.out) HB.out
  have HF := fun x : ExtW W => farPlan03 pp l pc x.w (h.ext (hE.trans x.h)) HP.out
  have HPL := Lib.hid (h.ext hE)
  have HPLw := Lib.hid h
  have HE := Lib.hid hE
  obtain ⟨x0, hx0⟩ := ExtW.of (Ext.refl W)
  clear hW hn hn2 h h1 h2
  conv => arg 5; rw [hx0]
  clear hx0
  by_cases hR : ReadyW X
  case neg =>
    have HR2 := Lib.hid (fun x : ExtW W => ExtW.call (RetE.bf hR (HR x)))
    clear HR HF hR
    go_wp2_with (first | (go_at_call 32; refine (HR2.out _).mono ?_; rintro e w' ⟨rfl, x1, rfl⟩) | (go_at_call 16; refine (HWK.out _).mono ?_; rintro e w' ⟨rfl, x2, rfl⟩))
    go_ret
    exact RetE.fin (hE.trans x2.h) rfl
  have HR2 := Lib.hid (fun x : ExtW W => ExtW.call (RetE.bt hR (HR x)))
  have HRD := Lib.hid hR
  clear HR hR
  by_cases hF : FarP l
  case pos =>
    have HF2 := Lib.hid (fun x : ExtW W => ExtW.call (RetE.bt hF (HF x)))
    clear HF hF
    go_wp2_with (first | (go_at_call 32; refine (HR2.out _).mono ?_; rintro e w' ⟨rfl, x1, rfl⟩) | (go_at_call 15; refine (HF2.out _).mono ?_; rintro e w' ⟨rfl, x3, rfl⟩) | (go_at_call 16; refine (HWK.out _).mono ?_; rintro e w' ⟨rfl, x2, rfl⟩))
    go_ret
    exact RetE.fin (hE.trans x2.h) rfl
  have HF2 := Lib.hid (fun x : ExtW W => ExtW.call (RetE.bf hF (HF x)))
  obtain ⟨hl40, hr40⟩ := not_farP hF
  have hrl := HRD.out.1.recs
  have HI := fun x : ExtW W => IsPlan03 _ X pp l pc x.w (WrV.mono _ _ _ _ (hE.trans x.h) HV.out) (by omega) (by omega) (fun y hy => by have := hr40 y hy; omega) (HPL.out.ext x.h)
  clear hr40 HF hF
  by_cases hI : PlanOK X l
  case neg =>
    have HI2 := Lib.hid (fun x : ExtW W => ExtW.call (RetE.bf hI (HI x)))
    clear HI hI
    go_wp2_with (first | (go_at_call 32; refine (HR2.out _).mono ?_; rintro e w' ⟨rfl, x1, rfl⟩) | (go_at_call 15; refine (HF2.out _).mono ?_; rintro e w' ⟨rfl, x3, rfl⟩) | (go_at_call 33; refine (HI2.out _).mono ?_; rintro e w' ⟨rfl, x4, rfl⟩) | (go_at_call 16; refine (HWK.out _).mono ?_; rintro e w' ⟨rfl, x2, rfl⟩))
    go_ret
    exact RetE.fin (hE.trans x2.h) rfl
  have HI2 := Lib.hid (fun x : ExtW W => ExtW.call (RetE.bt hI (HI x)))
  have HIP := Lib.hid hI
  obtain ⟨mn, hmin, hmn⟩ := min6 yw yl yp ya yg ys
  obtain ⟨mx, hmax, hmx⟩ := max6 yw yl yp ya yg ys
  have HMN := Lib.hid hmn
  have HMX := Lib.hid hmx
  clear HI hI hmn hmx
  by_cases g1 : mn < 0
  · go_wp2_with (first | (go_at_call 32; refine (HR2.out _).mono ?_; rintro e w' ⟨rfl, x1, rfl⟩) | (go_at_call 15; refine (HF2.out _).mono ?_; rintro e w' ⟨rfl, x3, rfl⟩) | (go_at_call 33; refine (HI2.out _).mono ?_; rintro e w' ⟨rfl, x4, rfl⟩) | (go_at_call 16; refine (HWK.out _).mono ?_; rintro e w' ⟨rfl, x2, rfl⟩))
    go_ret
    exact RetE.fin (hE.trans x2.h) rfl
  by_cases g2 : 99999 < mx
  · go_wp2_with (first | (go_at_call 32; refine (HR2.out _).mono ?_; rintro e w' ⟨rfl, x1, rfl⟩) | (go_at_call 15; refine (HF2.out _).mono ?_; rintro e w' ⟨rfl, x3, rfl⟩) | (go_at_call 33; refine (HI2.out _).mono ?_; rintro e w' ⟨rfl, x4, rfl⟩) | (go_at_call 16; refine (HWK.out _).mono ?_; rintro e w' ⟨rfl, x2, rfl⟩))
    go_ret
    exact RetE.fin (hE.trans x2.h) rfl
  have HCP := Lib.hid (fun x : ExtW W => Copy03s _ X x.w (WrV.mono _ _ _ _ (hE.trans x.h) HV.out) HRD.out.1)
  go_upto_region 4 with (first
    | (go_at_call 32; refine (HR2.out _).mono ?_; rintro e w' ⟨rfl, x1, rfl⟩)
    | (go_at_call 15; refine (HF2.out _).mono ?_; rintro e w' ⟨rfl, x3, rfl⟩)
    | (go_at_call 33; refine (HI2.out _).mono ?_; rintro e w' ⟨rfl, x4, rfl⟩)
    | (go_at_call 17; refine (HCP.out _).mono ?_; rintro e W4 ⟨p4, c4, q4', d4, rfl, hE4, ho⟩))
  clear hmin hmax HCP HI2 HF2 HR2
  generalize hW5 : World.alloc _ _ = W5
  have hb5 : W5.heap[W4.heap.size]? = some (.cells (wrCells X p4 c4 q4' d4) 25) := by rw [← hW5]; exact heap_new _ _
  have hE5 : Ext W4 W5 := by rw [← hW5]; exact Ext.alloc (Ext.refl _) _
  obtain ⟨gp, gq, g, cc, rfl, rfl, hown⟩ := OwnE.of ho hE5 (Nat.le_refl _) hb5
  have hEx : Ext W W5 := x4.h.trans (hE4.trans hE5)
  have hbW : W.heap.size ≤ W4.heap.size := (x4.h.trans hE4).size
  obtain ⟨bo, hbo⟩ : ∃ bo, bo = W4.heap.size := ⟨_, rfl⟩
  obtain ⟨B, hB⟩ : ∃ B, B = x4.w.heap.size + 3 := ⟨_, rfl⟩
  have hBW : W.heap.size ≤ B := by rw [hB]; have := x4.h.size; omega
  rw [← hbo] at hown hbW ⊢
  rw [← hB] at hown
  have hmn := HMN.out.1 (by omega)
  have hmx := HMX.out.1 (by omega)
  obtain ⟨n1, n2, n3, n4, n5, n6⟩ := hmn
  obtain ⟨k1, k2, k3, k4, k5, k6⟩ := hmx
  have hag := HRD.out.1.age
  have hst := HRD.out.1.step
  have hrl0 : 0 < X.rough.length := by have := HRD.out.1.rough; omega
  have hrg := HRD.out.1.rg 0 hrl0
  obtain ⟨r0, hr0⟩ : ∃ r0, r0 = X.rough[0] := ⟨_, rfl⟩
  obtain ⟨pb, po, rfl, hpc⟩ : ∃ b o, p = some ⟨b, o, none⟩ ∧ w.cell? ⟨b, o, none⟩ = some (.int .i64 X.rough[0]) := by
    obtain ⟨p', c', q', d', he, hi, -⟩ := HV.out
    simp only [Value.agg.injEq, Array.mk.injEq, List.cons.injEq, Value.slice.injEq] at he
    obtain ⟨-, -, -, -, ⟨rfl, -, -⟩, -⟩ := he
    obtain ⟨b, o, he2, hc⟩ := hi.at 0 hrl0
    exact ⟨b, o, he2, hc⟩
  rw [← hr0] at hpc hrg
  have hw1 : IntKind.i64.wrap (X.age - ya) = X.age - ya := IntWalk.i64_in _ (by omega)
  have hw2 : IntKind.i64.wrap (X.step + ys) = X.step + ys := IntWalk.i64_in _ (by omega)
  have hw3 : IntKind.i64.wrap (r0 - yg) = r0 - yg := IntWalk.i64_in _ (by omega)
  have hS := fun z (h : Ext W z) (h4 : z.cell? ⟨bo, 4, none⟩ = some (.slice (some ⟨gp, 0, none⟩) X.rough.length c4)) =>
    (⟨q2 ⟨z, h⟩, q3 ⟨z, h⟩, q4 ⟨z, h⟩, u5 ⟨z, h⟩, u6 ⟨z, h⟩, u7 ⟨z, h⟩, (HE.out.trans h).cell hpc, h4⟩ :
    z.cell? ⟨w.heap.size, 2, none⟩ = some (.int .i64 X.age) ∧ z.cell? ⟨w.heap.size, 3, none⟩ = some (.int .i64 X.step) ∧ z.cell? ⟨w.heap.size, 4, none⟩ = some (.slice (some ⟨pb, po, none⟩) X.rough.length c) ∧
    z.cell? ⟨w.heap.size + 1, 5, none⟩ = some (.int .i64 ya) ∧ z.cell? ⟨w.heap.size + 1, 6, none⟩ = some (.int .i64 yg) ∧ z.cell? ⟨w.heap.size + 1, 7, none⟩ = some (.int .i64 ys) ∧
    z.cell? ⟨pb, po, none⟩ = some (.int .i64 r0) ∧ z.cell? ⟨bo, 4, none⟩ = some (.slice (some ⟨gp, 0, none⟩) X.rough.length c4))
  have HS := Lib.hid hS
  have h5d := hown.ext (Ext.refl W5).drew
  have HEx := Lib.hid ((hEx.drew : Ext W W5.drew))
  have HW := Lib.hid (fun x : ExtW W => (⟨q0 x, q2 x, u0 x, u1 x, u2 x, u3 x, u4 x⟩ : x.w.cell? ⟨w.heap.size, 0, none⟩ = some (.int .i64 X.weeks) ∧ x.w.cell? ⟨w.heap.size, 2, none⟩ = some (.int .i64 X.age) ∧ x.w.cell? ⟨w.heap.size + 1, 0, none⟩ = some (.int .i64 yr) ∧ x.w.cell? ⟨w.heap.size + 1, 1, none⟩ = some (.int .i64 yw) ∧
    x.w.cell? ⟨w.heap.size + 1, 2, none⟩ = some (.int .i64 yl) ∧ x.w.cell? ⟨w.heap.size + 1, 3, none⟩ = some (.int .i64 yk) ∧ x.w.cell? ⟨w.heap.size + 1, 4, none⟩ = some (.int .i64 yp)))
  have HQ := Lib.hid (fun x : ExtW W => (⟨q0 x, q1 x, q2 x, q3 x, q4 x, q5 x⟩ : x.w.cell? ⟨w.heap.size, 0, none⟩ = some (.int .i64 X.weeks) ∧ x.w.cell? ⟨w.heap.size, 1, none⟩ = some (.int .i64 X.price) ∧ x.w.cell? ⟨w.heap.size, 2, none⟩ = some (.int .i64 X.age) ∧ x.w.cell? ⟨w.heap.size, 3, none⟩ = some (.int .i64 X.step) ∧
    x.w.cell? ⟨w.heap.size, 4, none⟩ = some (.slice (some ⟨pb, po, none⟩) X.rough.length c) ∧ x.w.cell? ⟨w.heap.size, 5, none⟩ = some (.slice q X.recs.length d)))
  have H5 := Lib.hid h5d
  have HR0 := Lib.hid hr0
  clear hW5 hb5 hE5 ho hE4 hown hEx hbo hB hpc hS h5d hr0 q0 q1 q2 q3 q4 q5 u0 u1 u2 u3 u4 u5 u6 u7 x0 x1 x3 x4 hE HWK
  refine wp_region_heldT (fun z => z.cell? ⟨w.heap.size, 2, none⟩ = some (.int .i64 X.age) ∧ z.cell? ⟨w.heap.size, 3, none⟩ = some (.int .i64 X.step) ∧ z.cell? ⟨w.heap.size, 4, none⟩ = some (.slice (some ⟨pb, po, none⟩) X.rough.length c) ∧
    z.cell? ⟨w.heap.size + 1, 5, none⟩ = some (.int .i64 ya) ∧ z.cell? ⟨w.heap.size + 1, 6, none⟩ = some (.int .i64 yg) ∧ z.cell? ⟨w.heap.size + 1, 7, none⟩ = some (.int .i64 ys) ∧
    z.cell? ⟨pb, po, none⟩ = some (.int .i64 r0) ∧ z.cell? ⟨bo, 4, none⟩ = some (.slice (some ⟨gp, 0, none⟩) X.rough.length c4)) 23
    [(true, 0), (true, 1), (true, 2), (true, 3), (true, 4), (true, 5), (true, 6), (true, 7), (true, 8), (true, 9), (true, 10), (true, 11), (true, 12), (true, 13), (true, 14), (true, 15), (true, 16), (true, 17), (true, 18), (true, 19), (false, 20), (true, 21), (false, 22)] (by kernel_rfl) (by kernel_rfl) (HS.out _ HEx.out H5.out.heads.2.2.2.2.1) ?_
  simp only [List.map_cons, List.map_nil, List.getElem?_cons_zero, List.getElem?_cons_succ]
  obtain ⟨Wd, hWd⟩ : ∃ Wd, Wd = W5.drew := ⟨_, rfl⟩
  rw [← hWd] at H5 HEx ⊢
  clear hWd
  repeat (refine wpHL_take (v := ?_) (by rfl) ?_ (fun _ _ _ h => h) ?_; rotate_left 1; (intro z hz; (try dsimp only at hz); go_simp; (try with_reducible rfl)); simp only [Act.put, List.setIfInBounds_toArray, List.set_cons_zero, List.set_cons_succ])
  have hh5 := H5.out.heads
  obtain ⟨-, -, c2, c3, -, -, fz⟩ := hh5
  refine wpHL_step (fun K hK => ?_)
  go_simp
  have h6a := H5.out.head (W' := Wd.setCell ⟨bo, 2, none⟩ (.int .i64 (X.age - ya))) ((Fr.refl _ _).set rfl) (wk := X.weeks) (pr := X.price) (ag := X.age - ya) (st := X.step) (heap_set H5.out.hd rfl)
  have hE6a : Ext W (Wd.setCell ⟨bo, 2, none⟩ (.int .i64 (X.age - ya))) := HEx.out.setCell (p := ⟨bo, 2, none⟩) hbW _
  refine hK.out _ _ (HS.out _ hE6a h6a.heads.2.2.2.2.1) ?_
  clear hK K c2 c3 fz
  generalize hWa : World.setCell _ _ _ = Wa
  rw [hWa] at h6a hE6a
  have H6 := Lib.hid h6a
  have HE6 := Lib.hid hE6a
  clear hWa h6a hE6a H5 HEx
  (try simp only [Act.put, List.setIfInBounds_toArray, List.set_cons_zero, List.set_cons_succ])
  repeat (refine wpHL_take (v := ?_) (by rfl) ?_ (fun _ _ _ h => h) ?_; rotate_left 1; (intro z hz; (try dsimp only at hz); go_simp; (try with_reducible rfl)); simp only [Act.put, List.setIfInBounds_toArray, List.set_cons_zero, List.set_cons_succ])
  have hh6 := H6.out.heads
  obtain ⟨-, -, c2, c3, -, -, fz⟩ := hh6
  refine wpHL_step (fun K hK => ?_)
  go_simp
  have h7a := H6.out.head (W' := Wa.setCell ⟨bo, 3, none⟩ (.int .i64 (X.step + ys))) ((Fr.refl _ _).set rfl) (wk := X.weeks) (pr := X.price) (ag := X.age - ya) (st := X.step + ys) (heap_set H6.out.hd rfl)
  have hE7a : Ext W (Wa.setCell ⟨bo, 3, none⟩ (.int .i64 (X.step + ys))) := HE6.out.setCell (p := ⟨bo, 3, none⟩) hbW _
  refine hK.out _ _ (HS.out _ hE7a h7a.heads.2.2.2.2.1) ?_
  clear hK K c2 c3 fz
  generalize hWb : World.setCell _ _ _ = Wb
  rw [hWb] at h7a hE7a
  have H7 := Lib.hid h7a
  have HE7 := Lib.hid hE7a
  clear hWb h7a hE7a H6 HE6
  (try simp only [Act.put, List.setIfInBounds_toArray, List.set_cons_zero, List.set_cons_succ])
  refine wpHL_nil ?_
  simp only [List.drop_succ_cons, List.drop_zero]
  obtain ⟨gc, gf⟩ := H7.out.roughCell (i := 0) hrl0
  have hlr : (0 : Int) < (X.rough.length : Int) := by omega
  go_upto_region 5 with (fail)
  have h8 := H7.out.roughAt 0 (r0 - yg)
  have hgpW : W.heap.size ≤ gp := by have := (H7.out.rough.lt gp rfl).1; omega
  have hE8 : Ext W (Wb.setCell ⟨gp, 0, none⟩ (.int .i64 (r0 - yg))) := HE7.out.setCell (p := ⟨gp, 0, none⟩) hgpW _
  generalize hWc : World.setCell _ _ _ = Wc
  rw [hWc] at h8 hE8
  obtain ⟨Y1, hY1⟩ : ∃ Y1, Y1 = ({ X with age := X.age - ya, step := X.step + ys, rough := X.rough.set 0 (r0 - yg) } : Wr) := ⟨_, rfl⟩
  have hL1 : LessW X Y1 := by
    rw [hY1]
    exact ((LessW.refl X).head (a := X.age - ya) (s := X.step + ys) (by omega) (by omega)).roughAt hrl0 (by have := HR0.out; show r0 - yg ≤ X.rough[0]; omega)
  have hr1 : Y1.recs = X.recs := by rw [hY1]
  have h8' : OwnE B bo Wc Y1 gp c4 gq d4 g cc := by rw [hY1]; exact h8
  have hlen : Y1.recs.length = X.recs.length := by rw [hr1]
  have hrc1 : ∀ i (h : i < Y1.recs.length), ROK X.weeks Y1.recs[i] := fun i hi => by
    have := HRD.out.1.rc i (by rw [← hlen]; exact hi)
    simpa only [hr1] using this
  have hwk1 : Y1.weeks = X.weeks := by rw [hY1]
  have hpn1 : ∀ r ∈ Y1.recs, r.plays.length ≤ 6 := fun r hr => by
    rw [hr1] at hr
    obtain ⟨i, hi, rfl⟩ := List.mem_iff_getElem.1 hr
    have := (HRD.out.1.rc i hi).len; have := HRD.out.1.weeks; omega
  have HPN := Lib.hid hpn1
  have HY := Lib.hid h8'
  have HL := Lib.hid hL1
  have HEC := Lib.hid hE8
  have HRC1 := Lib.hid hrc1
  have HLEN := Lib.hid hlen
  have hwk := HRD.out.1.weeks
  clear hWc h8 h8' hL1 hrc1 hlen hE8 hr1 hY1 H7 HE7 gc gf HR0 HS hw1 hw2 hw3 hwk1 hpn1 hrl0 hrg hlr hag hst
  obtain ⟨a0, a1, a2, a3, a4, a5, afz⟩ := HY.out.heads
  obtain ⟨w0, wag, v0, v1, v2, v3, v4⟩ := HW.out ⟨Wc, HEC.out⟩
  simp only at w0 wag v0 v1 v2 v3 v4
  go_cut [100] from 90 (fun t wc => t = .bool (decide (0 ≤ yr ∧ yr < Y1.recs.length)) ∧ wc = Wc)
  case first =>
    by_cases hy0 : yr < 0
    · go_wp2
      go_meet
      exact ⟨by rw [show decide (0 ≤ yr ∧ yr < Y1.recs.length) = false from decide_eq_false (by omega)], rfl⟩
    · by_cases hy1 : yr < Y1.recs.length
      · go_wp2
        go_meet
        exact ⟨by rw [show decide (0 ≤ yr ∧ yr < Y1.recs.length) = true from decide_eq_true (by omega)], rfl⟩
      · go_wp2
        go_meet
        exact ⟨by rw [show decide (0 ≤ yr ∧ yr < Y1.recs.length) = false from decide_eq_false (by omega)], rfl⟩
  case rest =>
  obtain ⟨rfl, hwc⟩ := hcut
  rw [hwc]
  clear hwc
  go_upto_if 100 with (fail)
  go_cut [] from 100 (fun Wz => ∃ Y : Wr, Hid (OwnE B bo Wz Y gp c4 gq d4 g cc) ∧ Hid (LessW X Y) ∧ Hid (Ext W Wz) ∧ Hid (∀ r ∈ Y.recs, r.plays.length ≤ 6))
  case first =>
    by_cases hin : 0 ≤ yr ∧ yr < Y1.recs.length
    case neg =>
      rw [show decide (0 ≤ yr ∧ yr < Y1.recs.length) = false from decide_eq_false hin]
      go_wp2
      go_meet
      exact ⟨Y1, HY, HL, HEC, HPN⟩
    case pos =>
      rw [show decide (0 ≤ yr ∧ yr < Y1.recs.length) = true from decide_eq_true hin]
      obtain ⟨j, rfl⟩ : ∃ j : Nat, yr = j := ⟨yr.toNat, by omega⟩
      have hj : j < Y1.recs.length := by omega
      obtain ⟨b1, b2, b4, bfz⟩ := HY.out.recCells hj
      obtain ⟨wn, hwn⟩ : ∃ n, n = Y1.recs[j].worn := ⟨_, rfl⟩
      obtain ⟨lm, hlm⟩ : ∃ n, n = Y1.recs[j].limit := ⟨_, rfl⟩
      obtain ⟨ps, hps⟩ : ∃ ps, ps = Y1.recs[j].plays := ⟨_, rfl⟩
      have hpsl := (HRC1.out j hj).len
      have hpsb := (HRC1.out j hj).play
      rw [← hps] at b4 hpsl
      have HPSB := Lib.hid (show ∀ k (h : k < ps.length), 0 ≤ ps[k] ∧ ps[k] ≤ 99 from fun k hk => by
        have := hpsb k (by rw [← hps]; exact hk)
        simpa only [hps] using this)
      clear hpsb
      have hrw := (HRC1.out j hj).worn
      have hrl := (HRC1.out j hj).limit
      rw [← hwn] at b1 hrw
      rw [← hlm] at b2 hrl
      have hw1 : IntKind.i64.wrap (wn - yw) = wn - yw := IntWalk.i64_in _ (by omega)
      have hw2 : IntKind.i64.wrap (lm + yl) = lm + yl := IntWalk.i64_in _ (by omega)
      have hjI : (j : Int) < (Y1.recs.length : Int) := hin.2
      have HWN := Lib.hid hwn
      have HLM := Lib.hid hlm
      have hf1 : Wc.frozen? ⟨gq, j * 4, none⟩ = false := bfz _
      clear hwn hlm hin afz bfz
      go_upto_region 6 with (fail)
      go_still_tail 12, (by kernel_rfl)
      change wpList _ _ _ _ _ Wc.drew
      obtain ⟨Wd, hWd⟩ : ∃ Wd, Wd = Wc.drew := ⟨_, rfl⟩
      have hEd : Ext Wc Wd := by rw [hWd]; exact (Ext.refl Wc).drew
      have e1 := hEd.cell b1
      have e2 : Wd.frozen? ⟨gq, j * 4, none⟩ = false := by rw [hWd]; exact hf1
      rw [← hWd]
      have h9 := (HY.out.ext hEd).wornAt hj (wn - yw)
      have hgqW : W.heap.size ≤ gq := by obtain ⟨xs, ho, -⟩ := HY.out.recs; have := (ho.lt gq rfl).1; omega
      have hE9 : Ext W (Wd.setCell ⟨gq, j * 4, none⟩ (.int .i64 (wn - yw))) := (HEC.out.trans hEd).setCell (p := ⟨gq, j * 4, none⟩) hgqW _
      obtain ⟨W9, hW9⟩ : ∃ W9, W9 = Wd.setCell ⟨gq, j * 4, none⟩ (.int .i64 (wn - yw)) := ⟨_, rfl⟩
      obtain ⟨Y2, hY2⟩ : ∃ Y2, Y2 = ({ Y1 with recs := Y1.recs.set j { Y1.recs[j] with worn := wn - yw } } : Wr) := ⟨_, rfl⟩
      rw [← hW9, ← hY2] at h9
      rw [← hW9] at hE9
      obtain ⟨hlen2, hget2⟩ := set_facts Y1 _ hY2
      have hL2 : LessW X Y2 := by rw [hY2]; exact HL.out.recAt hj (by have := HWN.out; show wn - yw ≤ Y1.recs[j].worn; omega) (Int.le_refl _) rfl (fun k => Int.le_refl _)
      have hpn2 := set_plays Y1 _ hY2 HPN.out (HPN.out Y1.recs[j] (List.getElem_mem hj))
      have hj2 : j < Y2.recs.length := by omega
      have hlm2 : Y2.recs[j].limit = lm := by rw [hget2 hj2]; exact HLM.out.symm
      have hpl2 : Y2.recs[j].plays = ps := by rw [hget2 hj2]; exact hps.symm
      have HW9 := Lib.hid hW9
      have HY2 := Lib.hid h9
      have HL2 := Lib.hid hL2
      have HE2 := Lib.hid hE9
      have HPN2 := Lib.hid hpn2
      have HPSL := Lib.hid hpsl
      have HPL2 := Lib.hid hpl2
      have HLM2 := Lib.hid hlm2
      have HLEN2 := Lib.hid hlen2
      clear h9 hE9 hWd hEd a0 a1 a2 a3 a4 a5 w0 wag v0 v1 v2 v3 v4 b1 b2 b4 hf1 hw1 hL2 hpn2 hpl2 hlm2 hlen2 hget2 hY2 hW9 hps hpsl
      go_upto_region 7 with (fail)
      rw [← HW9.out]
      obtain ⟨a0, a1, a2, a3, a4, a5, afz⟩ := HY2.out.heads
      obtain ⟨w0, wag, v0, v1, v2, v3, v4⟩ := HW.out ⟨W9, HE2.out⟩
      simp only at w0 wag v0 v1 v2 v3 v4
      obtain ⟨b1, b2, b4, bfz⟩ := HY2.out.recCells hj2
      rw [HLM2.out] at b2
      rw [HPL2.out] at b4
      have hf1 : W9.frozen? ⟨gq, j * 4 + 1, none⟩ = false := bfz _
      have hjI2 : (j : Int) < (Y2.recs.length : Int) := by omega
      clear afz bfz e1 e2 HW9 HWN HLM hjI hj
      go_still_tail 12, (by kernel_rfl)
      change wpList _ _ _ _ _ W9.drew
      obtain ⟨We, hWe⟩ : ∃ We, We = W9.drew := ⟨_, rfl⟩
      have hEd : Ext W9 We := by rw [hWe]; exact (Ext.refl W9).drew
      have e1 := hEd.cell b2
      have e2 : We.frozen? ⟨gq, j * 4 + 1, none⟩ = false := by rw [hWe]; exact hf1
      rw [← hWe]
      have h9 := (HY2.out.ext hEd).limitAt hj2 (lm + yl)
      have hE9 : Ext W (We.setCell ⟨gq, j * 4 + 1, none⟩ (.int .i64 (lm + yl))) := (HE2.out.trans hEd).setCell (p := ⟨gq, j * 4 + 1, none⟩) hgqW _
      obtain ⟨W8, hW8⟩ : ∃ W8, W8 = We.setCell ⟨gq, j * 4 + 1, none⟩ (.int .i64 (lm + yl)) := ⟨_, rfl⟩
      obtain ⟨Y3, hY3⟩ : ∃ Y3, Y3 = ({ Y2 with recs := Y2.recs.set j { Y2.recs[j] with limit := lm + yl } } : Wr) := ⟨_, rfl⟩
      rw [← hW8, ← hY3] at h9
      rw [← hW8] at hE9
      obtain ⟨hlen3, hget3⟩ := set_facts Y2 _ hY3
      have hL3 : LessW X Y3 := by rw [hY3]; exact HL2.out.recAt hj2 (Int.le_refl _) (by have := HLM2.out; show Y2.recs[j].limit ≤ lm + yl; omega) rfl (fun k => Int.le_refl _)
      have hpn3 := set_plays Y2 _ hY3 HPN2.out (HPN2.out Y2.recs[j] (List.getElem_mem hj2))
      have hj3 : j < Y3.recs.length := by omega
      have hpl3 : Y3.recs[j].plays = ps := by rw [hget3 hj3]; exact HPL2.out
      have HW8 := Lib.hid hW8
      have HY3 := Lib.hid h9
      have HL3 := Lib.hid hL3
      have HE3 := Lib.hid hE9
      have HPN3 := Lib.hid hpn3
      have HPL3 := Lib.hid hpl3
      have HLEN3 := Lib.hid hlen3
      clear h9 hE9 hWe hEd a0 a1 a2 a3 a4 a5 w0 wag v0 v1 v2 v3 v4 b1 b2 b4 hf1 hw2 hL3 hpn3 hpl3 hlen3 hget3 hY3 hW8 HLM2
      go_upto_region 8 with (fail)
      rw [← HW8.out]
      obtain ⟨a0, a1, a2, a3, a4, a5, afz⟩ := HY3.out.heads
      obtain ⟨w0, wag, v0, v1, v2, v3, v4⟩ := HW.out ⟨W8, HE3.out⟩
      simp only at w0 wag v0 v1 v2 v3 v4
      clear e1 e2 HW8 afz hjI2 HY HL HEC HPN HY2 HL2 HE2 HPN2 HPL2 HRC1 HLEN
      by_cases hk0 : yk < 0
      case' pos =>
        go_wp2
        go_meet
        exact ⟨Y3, HY3, HL3, HE3, HPN3⟩
      case' neg =>
        by_cases hk1 : ¬yk < X.weeks
        case' pos =>
          go_wp2
          go_meet
          exact ⟨Y3, HY3, HL3, HE3, HPN3⟩
        case' neg =>
          obtain ⟨k, rfl⟩ : ∃ k : Nat, yk = k := ⟨yk.toNat, by omega⟩
          have hkp : k < ps.length := by have := HPSL.out; omega
          have hkpI : (k : Int) < (ps.length : Int) := by omega
          have hjI3 : (j : Int) < (Y3.recs.length : Int) := by omega
          obtain ⟨b1, b2, b4, bfz⟩ := HY3.out.recCells hj3
          obtain ⟨f1, f2⟩ := HY3.out.playCell hj3 (k := k) (by rw [HPL3.out]; exact hkp)
          simp only [HPL3.out] at f1 b4
          obtain ⟨pn, hpn⟩ : ∃ pn, pn = ps[k] := ⟨_, rfl⟩
          have hpb := HPSB.out k hkp
          rw [← hpn] at f1 hpb
          have hw1 : IntKind.i64.wrap (pn - yp) = pn - yp := IntWalk.i64_in _ (by omega)
          have HPNN := Lib.hid hpn
          clear hpn bfz b1 b2
          go_upto_region 9 with (fail)
          go_still_tail 15, (by kernel_rfl)
          change wpList _ _ _ _ _ W8.drew
          obtain ⟨Wf, hWf⟩ : ∃ Wf, Wf = W8.drew := ⟨_, rfl⟩
          have hEd : Ext W8 Wf := by rw [hWf]; exact (Ext.refl W8).drew
          have e1 := hEd.cell f1
          have e2 : Wf.frozen? ⟨g j, k, none⟩ = false := by rw [hWf]; exact f2
          rw [← hWf]
          have h9 := (HY3.out.ext hEd).playAt hj3 k (pn - yp)
          have hgjW : W.heap.size ≤ g j := by have := ((HY3.out.plays j hj3).lt (g j) rfl).1; omega
          have hE9 : Ext W (Wf.setCell ⟨g j, k, none⟩ (.int .i64 (pn - yp))) := (HE3.out.trans hEd).setCell (p := ⟨g j, k, none⟩) hgjW _
          obtain ⟨W7, hW7⟩ : ∃ W7, W7 = Wf.setCell ⟨g j, k, none⟩ (.int .i64 (pn - yp)) := ⟨_, rfl⟩
          obtain ⟨Y4, hY4⟩ : ∃ Y4, Y4 = ({ Y3 with recs := Y3.recs.set j { Y3.recs[j] with plays := Y3.recs[j].plays.set k (pn - yp) } } : Wr) := ⟨_, rfl⟩
          rw [← hW7, ← hY4] at h9
          rw [← hW7] at hE9
          have hL4 : LessW X Y4 := by
            rw [hY4]
            refine HL3.out.recAt hj3 (Int.le_refl _) (Int.le_refl _) rfl (getD_set_le _ (by rw [HPL3.out]; exact hkp) ?_)
            have := HPNN.out
            simp only [HPL3.out]
            omega
          have hpn4 := set_plays Y3 _ hY4 HPN3.out (by show (Y3.recs[j].plays.set k (pn - yp)).length ≤ 6; rw [List.length_set]; exact HPN3.out Y3.recs[j] (List.getElem_mem hj3))
          have HW7 := Lib.hid hW7
          have HY := Lib.hid h9
          have HL := Lib.hid hL4
          have HEC := Lib.hid hE9
          have HPN := Lib.hid hpn4
          clear h9 hE9 hWf hEd a0 a1 a2 a3 a4 a5 w0 wag v0 v1 v2 v3 v4 b4 f1 f2 hw1 hL4 hpn4 hY4 hW7 HPL3 HLEN2 HLEN3 HPSB HPSL HPNN HW
          go_wp2
          go_meet
          rw [← HW7.out]
          exact ⟨Y4, HY, HL, HEC, HPN⟩
  case rest =>
    obtain ⟨Y, HYz, HLz, HEz, HPz⟩ := hcut
    obtain ⟨Wz, hWz⟩ : ∃ Wz, Wz = wc := ⟨_, rfl⟩
    rw [← hWz] at HYz HEz ⊢
    clear hWz HY HL HEC HPN HRC1 HLEN HW a0 a1 a2 a3 a4 a5 afz w0 wag v0 v1 v2 v3 v4
    apply_assumption
    exact lessEnd03 (by kernel_rfl) X Y _ _ _ _ _ _ _ _ _ _ B gp gq g cc _ w Wz HV.out HB.out HRD.out HIP.out (HE.out.trans HEz.out) (HPLw.out) (fun x => HQ.out ⟨x.w, HEz.out.trans x.h⟩) HYz.out HLz.out HPz.out
end Go.Proofs.Ytkcilgjkdiopnaa
