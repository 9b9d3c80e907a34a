/- The walk of SwapsMoved. -/
import Derived.Test.YtpgjkmjejpfkmaaC07f
import Derived.Test.YtpgjkmjejpfkmaaL07j
import Derived.Test.YtpgjkmjejpfkmaaS07a
import Derived.Test.YtpgjkmjejpfkmaaM08b
import Derived.Deep.RegionWith
namespace Go.Proofs.Ytpgjkmjejpfkmaa
open Go.RowKit

theorem Always07w (x : World) (v : Value) (S : Swap) (hv : SwapV x v S) (hS : Valid S) :
    Calls Try.prog 44 #[v] x (fun e w' => ∃ p c, e = .returned (.tuple #[.slice p (alwL S).length c, .int .i64 0]) ∧ PairsAt w' p (alwL S) ∧ Ext x w') := by
  refine (Always07 v S x hv (modest_of_valid hS)).mono ?_
  rintro e w' (⟨-, p, c, rfl, hp, hE⟩ | ⟨h, -⟩)
  · exact ⟨p, c, rfl, hp, hE⟩
  · exact absurd hS h

set_option maxRecDepth 100000 in
set_option maxHeartbeats 8000000 in
theorem SwapsMoved07 (v : Value) (S : Swap) (bx kk ti : Int) (w : World) (hv : SwapV w v S) (hM : Big S) (hk1 : -9223372036854775808 ≤ kk) (hk2 : kk ≤ 9223372036854775807) :
    Calls Try.prog 11 #[v, .agg #[.int .i64 bx, .int .i64 kk, .int .i64 ti]] w (RetE (.bool true) w) := by
  have HV := Lib.hid hv
  obtain ⟨p0, c0, p1, c1, p2, c2, p3, c3, rfl, h0, h1, h2, h3⟩ := hv
  have H0 := Lib.hid h0
  clear h0 h1 h2 h3
  go_enter Try.func11, Try.ntmps11
  go_upto_region 1 with (fail)
  have hn := heap_new1 w (.cells #[.slice p0 S.boxes.length c0, .slice p1 S.stock.length c1, .slice p2 S.earn.length c2, .slice p3 S.keeps.length c3, .int .i64 S.changes] 26) (.cells #[.int .i64 bx, .int .i64 kk, .int .i64 ti] 69)
  have hn2 := heap_new2 w (.cells #[.slice p0 S.boxes.length c0, .slice p1 S.stock.length c1, .slice p2 S.earn.length c2, .slice p3 S.keeps.length c3, .int .i64 S.changes] 26) (.cells #[.int .i64 bx, .int .i64 kk, .int .i64 ti] 69)
  obtain ⟨W, hW⟩ : ∃ W, W = (w.alloc (.cells #[.slice p0 S.boxes.length c0, .slice p1 S.stock.length c1, .slice p2 S.earn.length c2, .slice p3 S.keeps.length c3, .int .i64 S.changes] 26)).alloc (.cells #[.int .i64 bx, .int .i64 kk, .int .i64 ti] 69) := ⟨_, rfl⟩
  have hE : Ext w W := by rw [hW]; exact Ext.alloc (Ext.alloc (Ext.refl w) _) _
  have hWs : W.heap.size = w.heap.size + 2 := by rw [hW]; simp
  rw [← hW] at hn hn2 ⊢
  have q0 := ExtW.cell (v := .slice p0 S.boxes.length c0) (cell_of_heap hn 0)
  have q1 := ExtW.cell (v := .slice p1 S.stock.length c1) (cell_of_heap hn 1)
  have q2 := ExtW.cell (v := .slice p2 S.earn.length c2) (cell_of_heap hn 2)
  have q3 := ExtW.cell (v := .slice p3 S.keeps.length c3) (cell_of_heap hn 3)
  have q4 := ExtW.cell (v := .int .i64 S.changes) (cell_of_heap hn 4)
  have y0 := ExtW.cell (v := .int .i64 bx) (cell_of_heap hn2 0)
  have y1 := ExtW.cell (v := .int .i64 kk) (cell_of_heap hn2 1)
  have y2 := ExtW.cell (v := .int .i64 ti) (cell_of_heap hn2 2)
  have HW := Lib.hid (fun x : ExtW W => ExtW.call (works07 x.w))
  have HR := Lib.hid (fun x : ExtW W => ExtW.call (ready07 _ S x.w (SwapV.mono _ _ _ _ (hE.trans x.h) HV.out) hM))
  obtain ⟨x0, hx0⟩ := ExtW.of (Ext.refl W)
  have HWS := Lib.hid hWs
  clear hW hn hn2 hWs
  conv => arg 5; rw [hx0]
  clear hx0
  by_cases hR : Ready S
  case neg =>
    rw [bP_f hR] at HR
    clear hR
    go_wp2_with fail
    refine (HR.out _).mono ?_
    rintro e _ ⟨rfl, x1, rfl⟩
    go_wp2_with fail
    refine (HW.out _).mono ?_
    rintro e _ ⟨rfl, x2, rfl⟩
    go_wp2
    go_ret
    exact RetE.fin (hE.trans x2.h) rfl
  rw [bP_t hR] at HR
  obtain ⟨hS, -, -⟩ := hR
  have HS := Lib.hid hS
  clear hS
  by_cases b0 : bx < 0
  · have b0' : decide (bx < 0) = true := by simpa using b0
    clear b0
    go_wp2_with fail
    refine (HR.out _).mono ?_
    rintro e _ ⟨rfl, x1, rfl⟩
    go_wp2_with fail
    refine (HW.out _).mono ?_
    rintro e _ ⟨rfl, x2, rfl⟩
    go_wp2
    go_ret
    exact RetE.fin (hE.trans x2.h) rfl
  have b0' : decide (bx < 0) = false := by simpa using b0
  by_cases b1 : (S.boxes.length : Int) ≤ bx
  · have b1' : decide ((S.boxes.length : Int) ≤ bx) = true := by simpa using b1
    clear b1
    go_wp2_with fail
    refine (HR.out _).mono ?_
    rintro e _ ⟨rfl, x1, rfl⟩
    go_wp2_with fail
    refine (HW.out _).mono ?_
    rintro e _ ⟨rfl, x2, rfl⟩
    go_wp2
    go_ret
    exact RetE.fin (hE.trans x2.h) rfl
  have b1' : decide ((S.boxes.length : Int) ≤ bx) = false := by simpa using b1
  by_cases b2 : kk < 0
  · have b2' : decide (kk < 0) = true := by simpa using b2
    clear b2
    go_wp2_with fail
    refine (HR.out _).mono ?_
    rintro e _ ⟨rfl, x1, rfl⟩
    go_wp2_with fail
    refine (HW.out _).mono ?_
    rintro e _ ⟨rfl, x2, rfl⟩
    go_wp2
    go_ret
    exact RetE.fin (hE.trans x2.h) rfl
  have b2' : decide (kk < 0) = false := by simpa using b2
  by_cases b3 : 999 < kk
  · have b3' : decide (999 < kk) = true := by simpa using b3
    clear b3
    go_wp2_with fail
    refine (HR.out _).mono ?_
    rintro e _ ⟨rfl, x1, rfl⟩
    go_wp2_with fail
    refine (HW.out _).mono ?_
    rintro e _ ⟨rfl, x2, rfl⟩
    go_wp2
    go_ret
    exact RetE.fin (hE.trans x2.h) rfl
  have b3' : decide (999 < kk) = false := by simpa using b3
  obtain ⟨bn, rfl⟩ := Int.eq_ofNat_of_zero_le (by omega : 0 ≤ bx)
  have hbn : bn < S.boxes.length := by omega
  have hkk0 : 0 ≤ kk := by omega
  have hkk9 : kk ≤ 999 := by omega
  have hb3 := HS.out.boxes
  have hs6 := HS.out.stock
  have he6 : S.earn.length ≤ 6 := by rw [HS.out.earn]; exact hs6
  have hk4 := HS.out.keeps
  have B1 := Lib.hid b1
  clear b0 b1 b2 b3
  have HCN := Lib.hid (fun (x : ExtW W) => Clone07 _ S x.w (SwapV.mono _ _ _ _ (hE.trans x.h) HV.out) (by omega) (fun i h => by have := (HS.out.box i h).1; omega) (by omega) (by omega) (fun i h => by rw [HS.out.row i h]; omega) (by omega))
  go_wp2_with fail
  refine (HR.out _).mono ?_
  rintro e _ ⟨rfl, x1, rfl⟩
  go_wp2_with fail
  refine (HCN.out x1).mono ?_
  rintro e w4 ⟨v0, v1, v2, v3, g0, k0, g2, k2, B, rfl, hE4, hBB, hco⟩
  obtain ⟨r0, d0, r1, d1, r2, d2, r3, d3, he, -⟩ := hco.swap
  injection he with he
  injection he with he
  simp only [List.cons.injEq, and_true] at he
  obtain ⟨rfl, rfl, rfl, rfl⟩ := he
  obtain ⟨x4, rfl⟩ := ExtW.of (x1.h.trans hE4)
  have HCO := Lib.hid hco
  have hB4 : W.heap.size ≤ B := by have := x1.h.size; omega
  have hsz4 := x4.h.size
  clear hco hE4 HCN hBB
  go_upto_region 4 with (fail)
  have hn6 := heap_new x4.w (.cells #[.slice r0 S.boxes.length d0, .slice r1 S.stock.length d1, .slice r2 S.earn.length d2, .slice r3 S.keeps.length d3, .int .i64 S.changes] 26)
  obtain ⟨W6, hW6⟩ : ∃ W6, W6 = x4.w.alloc (.cells #[.slice r0 S.boxes.length d0, .slice r1 S.stock.length d1, .slice r2 S.earn.length d2, .slice r3 S.keeps.length d3, .int .i64 S.changes] 26) := ⟨_, rfl⟩
  have hE6 : Ext x4.w W6 := by rw [hW6]; exact Ext.alloc (Ext.refl x4.w) _
  rw [← hW6] at hn6 ⊢
  have HCO6 := Lib.hid (HCO.out.ext hE6)
  obtain ⟨B6, hB6⟩ : ∃ B6, B6 = x4.w.heap.size := ⟨_, rfl⟩
  have HB6 := Lib.hid hB6
  have hWlt : W.heap.size ≤ B6 := by rw [hB6]; exact hsz4
  obtain ⟨x6, hx6⟩ := ExtW.of (x4.h.trans hE6)
  rw [← hB6] at hn6 ⊢
  rw [hx6] at hn6 HCO6 ⊢
  have HN6 := Lib.hid hn6
  have hup : ∀ i, i < S.earn.length → g2 i < B6 ∧ W.heap.size ≤ g2 i := by
    intro i hi
    have := HCO.out.e.bd (Or.inr ⟨i, hi, rfl⟩)
    rw [hB6]
    omega
  have HUP := Lib.hid hup
  clear hW6 hB6 hn6 hE6 hx6 hup hsz4
  go_wp2
  go_loopw [6] (fun i wr => ∃ k : Nat, k ≤ S.earn.length ∧ i = .int .i64 k ∧ ∃ x : ExtW W, wr = x.w ∧ x.w.heap[B6]? = some (.cells #[.slice r0 S.boxes.length d0, .slice r1 S.stock.length d1, .slice r2 S.earn.length d2, .slice r3 S.keeps.length d3, .int .i64 S.changes] 26 (0, 0)) ∧
    CloneOwn x.w B (withEarn S (mvTo S.earn bn kk k)) (.slice r0 S.boxes.length d0) (.slice r1 S.stock.length d1) (.slice r2 S.earn.length d2) (.slice r3 S.keeps.length d3) g0 k0 g2 k2) (fun i _ => S.earn.length - (intOf i).toNat)
  case atStart => exact ⟨0, by omega, rfl, x6, rfl, HN6.out, HCO6.out⟩
  case round =>
    clear x6 HCO6 HN6 x0 x1
    obtain ⟨k, hk, rfl, x, rfl, hnr, hcr⟩ := hrel
    have z2 := cell_of_heap hnr 2
    simp at z2
    have HNR := Lib.hid hnr
    have HCR := Lib.hid hcr
    clear hnr hcr
    by_cases hlt : k < S.earn.length
    · have hlm := mvTo_len S.earn bn kk k
      have hkm : k < (mvTo S.earn bn kk k).length := by omega
      obtain ⟨b2, c2', he, hc2⟩ := ownsRow_at HCR.out.e.out k hkm
      injection he with he1 he2 he3
      subst he1 he3
      clear he2
      have hrow := HCR.out.e.row k hkm
      have eg : (mvTo S.earn bn kk k).getD k [] = S.earn[k] := by rw [mvTo_hi _ _ _ _ k (Nat.le_refl _), getD_of_lt _ _ _ hlt]
      have hbl : bn < S.earn[k].length := by rw [HS.out.row k hlt]; exact hbn
      have hc2' : x.w.cell? ⟨b2, k, none⟩ = some (.slice (some ⟨g2 k, 0, none⟩) S.earn[k].length (k2 k)) := by
        rw [hc2]
        show ((List.range (mvTo S.earn bn kk k).length).map (rowV (mvTo S.earn bn kk k) g2 k2))[k]? = _
        rw [List.getElem?_map, List.getElem?_range hkm, Option.map_some]
        simp only [rowV]
        rw [eg]
      have hrow2 : x.w.ownsRow B 3 1 (.slice (some ⟨g2 k, 0, none⟩) S.earn[k].length (k2 k)) S.earn[k].length (intVs S.earn[k]) := by
        have h := hrow
        simp only [rowV] at h
        rw [show (withEarn S (mvTo S.earn bn kk k)).earn.getD k [] = S.earn[k] from eg] at h
        exact h
      obtain ⟨w1, w2⟩ := ownsRow_cell hrow2 hbl
      have hcell := HS.out.cell k hlt bn hbl
      obtain ⟨ev, hev⟩ : ∃ ev, ev = S.earn[k][bn] := ⟨_, rfl⟩
      rw [← hev] at w1 hcell
      have hwst : IntKind.i64.wrap (ev + kk) = ev + kk := IntWalk.i64_in _ (by omega)
      have HEV := Lib.hid hev
      have hl1 : (bn : Int) < (S.earn[k].length : Int) := by omega
      have HBL := Lib.hid hbl
      have HEG := Lib.hid eg
      obtain ⟨ln, hln⟩ : ∃ ln, ln = S.earn[k].length := ⟨_, rfl⟩
      rw [← hln] at hc2' hl1
      have t0 : x.w.cell? ⟨w.heap.size + 1, 0, none⟩ = some (.int .i64 bn) := y0 x
      have t1 : x.w.cell? ⟨w.heap.size + 1, 1, none⟩ = some (.int .i64 kk) := y1 x
      clear hev hrow hrow2 hc2 eg hln hlm
      go_upto_region 7 with (fail)
      go_region_with (fail)
      all_goals
        obtain ⟨wc, hcut⟩ : ∃ wc, wc = (x.w.setCell ⟨g2 k, bn, none⟩ (.int .i64 (ev + kk))).drew := ⟨_, rfl⟩
        rw [← hcut]
        obtain ⟨hu1, hu2⟩ := HUP.out k hlt
        have hmk : (mvTo S.earn bn kk k)[k] = S.earn[k] := by rw [← HEG.out]; exact (getD_of_lt _ _ _ hkm).symm
        have HMK := Lib.hid hmk
        have hbl2 : bn < (mvTo S.earn bn kk k)[k].length := by rw [hmk]; exact HBL.out
        have hco9 := (CloneOwn.setEarn (S := withEarn S (mvTo S.earn bn kk k)) (m := ev + kk) HCR.out hkm hbl2).ext (Ext.drew (Ext.refl _))
        have hnc : wc.heap[B6]? = some (.cells #[.slice r0 S.boxes.length d0, .slice r1 S.stock.length d1, .slice (some ⟨b2, 0, none⟩) S.earn.length d2, .slice r3 S.keeps.length d3, .int .i64 S.changes] 26 (0, 0)) := by
          rw [hcut]
          exact heap_drew (heap_set_ne (by omega) HNR.out)
        have hE9 : Ext W wc := by
          rw [hcut]
          exact Ext.drew (x.h.set (by omega))
        rw [← hcut] at hco9
        obtain ⟨xc, hx9⟩ := ExtW.of hE9
        rw [hx9] at hco9 hnc ⊢
        have HC9 := Lib.hid hco9
        have HN9 := Lib.hid hnc
        clear hco9 hnc hcut hx9 hE9 w1 w2 hc2' hwst z2 t0 t1 hmk hbl2
        go_wp2
        go_roundw
        case rel =>
          refine ⟨k + 1, by omega, by go_num, xc, rfl, HN9.out, ?_⟩
          have hmv : mvTo S.earn bn kk (k + 1) = (mvTo S.earn bn kk k).set k (((mvTo S.earn bn kk k)[k]).set bn (ev + kk)) := by
            show (mvTo S.earn bn kk k).set k (((mvTo S.earn bn kk k).getD k []).set bn (((mvTo S.earn bn kk k).getD k []).getD bn 0 + kk)) = _
            rw [HEG.out, getD_of_lt _ _ _ HBL.out, ← HEV.out]
            rw [HMK.out]
          rw [hmv]
          exact HC9.out
        case measure => simp [intOf]; omega
    · obtain rfl : k = S.earn.length := by omega
      obtain ⟨O, hO'⟩ : ∃ O, O = withEarn S (mvTo S.earn bn kk S.earn.length) := ⟨_, rfl⟩
      have hbig : Big O := by rw [hO']; exact moved_big HS.out bn kk
      have hsvo : SwapV x.w (.agg #[.slice r0 S.boxes.length d0, .slice r1 S.stock.length d1, .slice r2 S.earn.length d2, .slice r3 S.keeps.length d3, .int .i64 S.changes]) O := by
        rw [hO']; exact HCR.out.swap
      have HOO := Lib.hid hO'
      have HSVO := Lib.hid hsvo
      have HBIG := Lib.hid hbig
      have hnc := HNR.out
      have o0 := ExtW.cell (v := .slice r0 S.boxes.length d0) (cell_of_heap hnc 0)
      have o1 := ExtW.cell (v := .slice r1 S.stock.length d1) (cell_of_heap hnc 1)
      have o2 := ExtW.cell (v := .slice r2 S.earn.length d2) (cell_of_heap hnc 2)
      have o3 := ExtW.cell (v := .slice r3 S.keeps.length d3) (cell_of_heap hnc 3)
      have o4 := ExtW.cell (v := .int .i64 S.changes) (cell_of_heap hnc 4)
      have s0 : ∀ z : ExtW x.w, z.w.cell? ⟨w.heap.size, 0, none⟩ = some (.slice p0 S.boxes.length c0) := fun z => q0 ⟨z.w, x.h.trans z.h⟩
      have s1 : ∀ z : ExtW x.w, z.w.cell? ⟨w.heap.size, 1, none⟩ = some (.slice p1 S.stock.length c1) := fun z => q1 ⟨z.w, x.h.trans z.h⟩
      have s2 : ∀ z : ExtW x.w, z.w.cell? ⟨w.heap.size, 2, none⟩ = some (.slice p2 S.earn.length c2) := fun z => q2 ⟨z.w, x.h.trans z.h⟩
      have s3 : ∀ z : ExtW x.w, z.w.cell? ⟨w.heap.size, 3, none⟩ = some (.slice p3 S.keeps.length c3) := fun z => q3 ⟨z.w, x.h.trans z.h⟩
      have s4 : ∀ z : ExtW x.w, z.w.cell? ⟨w.heap.size, 4, none⟩ = some (.int .i64 S.changes) := fun z => q4 ⟨z.w, x.h.trans z.h⟩
      have g0' : ∀ z : ExtW x.w, z.w.cell? ⟨w.heap.size + 1, 0, none⟩ = some (.int .i64 bn) := fun z => y0 ⟨z.w, x.h.trans z.h⟩
      have g1' : ∀ z : ExtW x.w, z.w.cell? ⟨w.heap.size + 1, 1, none⟩ = some (.int .i64 kk) := fun z => y1 ⟨z.w, x.h.trans z.h⟩
      have g2' : ∀ z : ExtW x.w, z.w.cell? ⟨w.heap.size + 1, 2, none⟩ = some (.int .i64 ti) := fun z => y2 ⟨z.w, x.h.trans z.h⟩
      have HWT := Lib.hid (fun z : ExtW x.w => ExtW.call (works07 z.w))
      have HEW := Lib.hid (hE.trans x.h)
      have HBX := Lib.hid ((H0.out.ext (hE.trans x.h)).at bn hbn)
      have HRO0 := fun z : ExtW x.w => ExtW.call (ready07 _ O z.w (SwapV.mono _ _ _ _ z.h HSVO.out) HBIG.out)
      have HSS := Lib.hid (fun z : ExtW x.w => SwapV.mono _ _ _ _ (HEW.out.trans z.h) HV.out)
      obtain ⟨z0, hz0⟩ := ExtW.of (Ext.refl x.w)
      clear q0 q1 q2 q3 q4 y0 y1 y2 hnc hsvo hbig HW HR HCO HCR HNR hO' z2 HUP H0
      conv => arg 5; rw [hz0]
      clear hz0
      by_cases hRO : Ready O
      case neg =>
        rw [bP_f hRO] at HRO0
        have HRO := Lib.hid HRO0
        clear HRO0 hRO
        go_wp2_with fail
        refine (HRO.out _).mono ?_
        rintro e _ ⟨rfl, z1, rfl⟩
        go_wp2_with fail
        refine (HWT.out _).mono ?_
        rintro e _ ⟨rfl, z2, rfl⟩
        go_wp2
        go_ret
        exact RetE.fin (HEW.out.trans z2.h) rfl
      rw [bP_t hRO] at HRO0
      have HRO := Lib.hid HRO0
      obtain ⟨hO, -, -⟩ := hRO
      have HO := Lib.hid hO
      have hMV := mvTo_moved HS.out bn hbn kk
      have hvo : Valid (withEarn S (mvTo S.earn bn kk S.earn.length)) := by rw [← HOO.out]; exact hO
      obtain ⟨f1, f2⟩ := moved_all HS.out hkk0 hbn hMV
      have f3 := moved_copy HS.out hvo hkk0 hbn hMV ti
      rw [← HOO.out] at f1 f2 f3
      have f4 : bestN (openV O) = bestN (openV S) + kk * ((S.boxes.getD bn []).length : Int) := by unfold bestN; rw [f1]
      have hbd := (fair_best HS.out).2.2
      obtain ⟨cn, cm, hcv⟩ := copy_vals S ti
      have HB10 : ∀ z : ExtW x.w, _ := fun z : ExtW x.w => ExtW.call (Best07 _ S z.w (HSS.out z) (modest_of_valid HS.out))
      have HB20 : ∀ z : ExtW x.w, _ := fun z : ExtW x.w => ExtW.call (Best07 _ O z.w (SwapV.mono _ _ _ _ z.h HSVO.out) (modest_of_valid HO.out))
      have HC10 : ∀ z : ExtW x.w, _ := fun z : ExtW x.w => (Copy07 _ S ti z.w (HSS.out z) (modest_of_valid HS.out))
      have HC20 : ∀ z : ExtW x.w, _ := fun z : ExtW x.w => (Copy07 _ O ti z.w (SwapV.mono _ _ _ _ z.h HSVO.out) (modest_of_valid HO.out))
      have HA1 := Lib.hid (fun z : ExtW x.w => Always07w z.w _ S (HSS.out z) HS.out)
      have HA20 := (fun z : ExtW x.w => Always07w z.w _ O (SwapV.mono _ _ _ _ z.h HSVO.out) HO.out)
      rw [ansV_t HS.out] at HB10
      rw [ansV_t HO.out, f4] at HB20
      rw [hcv] at HC10
      rw [f3, hcv] at HC20
      rw [f2] at HA20
      have hal18 := alwL_len S hb3
      have hbx3 := (HS.out.box bn hbn).1
      have egb : S.boxes.getD bn [] = S.boxes[bn] := getD_of_lt _ _ _ hbn
      rw [egb] at HB20
      obtain ⟨ln, hln⟩ : ∃ ln, ln = S.boxes[bn].length := ⟨_, rfl⟩
      rw [← hln] at HB20 hbx3
      obtain ⟨m1, hm1'⟩ : ∃ m, m = bestN (openV S) := ⟨_, rfl⟩
      rw [← hm1'] at HB10 HB20 hbd
      obtain ⟨A, hA⟩ : ∃ A, A = alwL S := ⟨_, rfl⟩
      rw [← hA] at HA1 HA20 hal18
      have hmul0 : 0 ≤ kk * (ln : Int) := Int.mul_nonneg hkk0 (by omega)
      have hmul1 : kk * (ln : Int) ≤ 999 * 3 := Int.mul_le_mul hkk9 (by omega) (by omega) (by omega)
      have hw1 : IntKind.i64.wrap (kk * (ln : Int)) = kk * (ln : Int) := IntWalk.i64_in _ (by omega)
      have hw2 : IntKind.i64.wrap (m1 + kk * (ln : Int)) = m1 + kk * (ln : Int) := IntWalk.i64_in _ (by omega)
      obtain ⟨b5, o5, q5, c5, hp0, hc5, -⟩ := HBX.out
      subst hp0
      rw [← hln] at hc5
      have hx5 := ExtW.cell hc5
      have HB1 := Lib.hid HB10
      have HB2 := Lib.hid HB20
      have HC1 := Lib.hid HC10
      have HC2 := Lib.hid HC20
      have HA2 := Lib.hid HA20
      clear HRO0 hO HB10 HB20 HC10 HC20 HA20 f1 f2 f3 f4 hcv hMV hvo egb hln hm1' hA hmul0 hmul1 hc5 HBX hbd
      go_wp2_with fail
      refine (HRO.out _).mono ?_
      rintro e _ ⟨rfl, z1, rfl⟩
      go_wp2_with fail
      refine (HB1.out _).mono ?_
      rintro e _ ⟨rfl, z2, rfl⟩
      go_wp2_with fail
      refine (HB2.out _).mono ?_
      rintro e _ ⟨rfl, z3, rfl⟩
      go_wp2_with fail
      refine (HA1.out z3).mono ?_
      rintro e w4 ⟨pa, ca, rfl, hpa, hE4⟩
      have HPA := Lib.hid hpa
      obtain ⟨z4, rfl⟩ := ExtW.of (z3.h.trans hE4)
      clear hpa hE4
      go_wp2_with fail
      refine (HA2.out z4).mono ?_
      rintro e w5 ⟨pb, cb, rfl, hpb, hE5⟩
      have HPB := Lib.hid hpb
      replace HPA := Lib.hid (HPA.out.ext hE5)
      obtain ⟨z5, rfl⟩ := ExtW.of (z4.h.trans hE5)
      clear hpb hE5
      go_wp2_with fail
      refine (HC1.out z5).mono ?_
      rintro e w6 ⟨rfl, hE6⟩
      replace HPA := Lib.hid (HPA.out.ext hE6)
      replace HPB := Lib.hid (HPB.out.ext hE6)
      obtain ⟨z6, rfl⟩ := ExtW.of (z5.h.trans hE6)
      clear hE6
      go_wp2_with fail
      refine (HC2.out z6).mono ?_
      rintro e w7 ⟨rfl, hE7⟩
      replace HPA := Lib.hid (HPA.out.ext hE7)
      replace HPB := Lib.hid (HPB.out.ext hE7)
      obtain ⟨z7, rfl⟩ := ExtW.of (z6.h.trans hE7)
      clear hE7
      have HSK := Lib.hid (fun z : ExtW z7.w => ExtW.call (SameKeeps07 pa pb A ca cb z.w (by omega) (HPA.out.ext z.h) (HPB.out.ext z.h)))
      have HWZ := Lib.hid (fun z : ExtW z7.w => ExtW.call (works07 z.w))
      have HEZ := Lib.hid (HEW.out.trans z7.h)
      have t0' : ∀ z : ExtW z7.w, z.w.cell? ⟨w.heap.size, 0, none⟩ = some (.slice (some ⟨b5, o5, none⟩) S.boxes.length c0) := fun z => s0 ⟨z.w, z7.h.trans z.h⟩
      have t1' : ∀ z : ExtW z7.w, z.w.cell? ⟨w.heap.size + 1, 0, none⟩ = some (.int .i64 bn) := fun z => g0' ⟨z.w, z7.h.trans z.h⟩
      have t2' : ∀ z : ExtW z7.w, z.w.cell? ⟨w.heap.size + 1, 1, none⟩ = some (.int .i64 kk) := fun z => g1' ⟨z.w, z7.h.trans z.h⟩
      have t3' : ∀ z : ExtW z7.w, z.w.cell? ⟨b5, o5 + bn, none⟩ = some (.slice q5 ln c5) := fun z => hx5 ⟨z.w, z7.h.trans z.h⟩
      clear s0 s1 s2 s3 s4 g0' g1' g2' o0 o1 o2 o3 o4 hx5
      go_upto_region 16 with (fail)
      obtain ⟨zz, hzz⟩ := ExtW.of (Ext.refl z7.w)
      conv => arg 5; rw [hzz]
      clear hzz
      refine wp_region_extW (by kernel_rfl) (by kernel_rfl) ?_
      repeat (go_big_quiet_step (first | (go_at_call 47; exact HSK.out _) | (go_at_call 15; exact HWZ.out _)))
      refine wpQuiet_nil ?_
      rintro _ ⟨z9, rfl⟩
      go_wp2
      go_ret
      exact RetE.fin (HEZ.out.trans z9.h) rfl
end Go.Proofs.Ytpgjkmjejpfkmaa
