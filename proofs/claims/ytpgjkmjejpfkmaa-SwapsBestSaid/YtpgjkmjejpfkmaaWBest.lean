/- The walk of SwapsBest. -/
import Derived.Test.YtpgjkmjejpfkmaaKD
namespace Go.Proofs.Ytpgjkmjejpfkmaa
open Go.RowKit

theorem far_nil : ¬FarL [] := by rintro (h | ⟨l, hl, -⟩) <;> simp at *

set_option maxRecDepth 100000 in
set_option maxHeartbeats 8000000 in
theorem SwapsBest07 (v : Value) (S : Swap) (w : World) (hv : SwapV w v S) (hM : Big S) :
    Calls Try.prog 12 #[v] w (RetE (.bool true) w) := by
  have HV := Lib.hid hv
  obtain ⟨p0, c0, p1, c1, p2, c2, p3, c3, rfl, h0, h1, h2, h3⟩ := hv
  clear h0 h1 h2 h3
  go_enter Try.func12, Try.ntmps12
  go_upto_region 1 with (fail)
  have hn := heap_new w (.cells #[.slice p0 S.boxes.length c0, .slice p1 S.stock.length c1, .slice p2 S.earn.length c2, .slice p3 S.keeps.length c3, .int .i64 S.changes] 26)
  obtain ⟨W, hW⟩ : ∃ W, W = w.alloc (.cells #[.slice p0 S.boxes.length c0, .slice p1 S.stock.length c1, .slice p2 S.earn.length c2, .slice p3 S.keeps.length c3, .int .i64 S.changes] 26) := ⟨_, rfl⟩
  have hE : Ext w W := by rw [hW]; exact Ext.alloc (Ext.refl w) _
  rw [← hW] at hn ⊢
  have q0 := ExtW.cell (v := .slice p0 S.boxes.length c0) (cell_of_heap hn 0)
  have q1 := ExtW.cell (v := .slice p1 S.stock.length c1) (cell_of_heap hn 1)
  have q2 := ExtW.cell (v := .slice p2 S.earn.length c2) (cell_of_heap hn 2)
  have q3 := ExtW.cell (v := .slice p3 S.keeps.length c3) (cell_of_heap hn 3)
  have q4 := ExtW.cell (v := .int .i64 S.changes) (cell_of_heap hn 4)
  have HW := Lib.hid (fun x : ExtW W => ExtW.call (works07 x.w))
  have HR0 := fun x : ExtW W => ExtW.call (Far07 _ S x.w (SwapV.mono _ _ _ _ (hE.trans x.h) HV.out) hM)
  have HSV := Lib.hid (fun x : ExtW W => SwapV.mono _ _ _ _ (hE.trans x.h) HV.out)
  obtain ⟨x0, hx0⟩ := ExtW.of (Ext.refl W)
  have HEW := Lib.hid hE
  clear hW hn hE
  conv => arg 5; rw [hx0]
  clear hx0
  by_cases hR : FarS S
  · rw [bP_t hR] at HR0
    have HR := Lib.hid HR0
    clear hR HR0
    go_wp2_with fail
    refine (HR.out _).mono ?_
    rintro e _ ⟨rfl, x1, rfl⟩
    go_wp2_with fail
    refine (HW.out _).mono ?_
    rintro e _ ⟨rfl, x2, rfl⟩
    go_wp2
    go_ret
    exact RetE.fin (HEW.out.trans x2.h) rfl
  rw [bP_f hR] at HR0
  have HR := Lib.hid HR0
  have hwd : ¬Wide S := fun h => hR (Or.inl h)
  have HMD := Lib.hid (modest_of hwd)
  have HLS := Lib.hid (lens_of hwd)
  clear hR HR0 hwd
  go_wp2_with fail
  refine (HR.out _).mono ?_
  rintro e _ ⟨rfl, x1, rfl⟩
  go_wp2_with fail
  refine (Clone07c x1 _ S (HSV.out x1) HLS.out).mono ?_
  rintro e _ ⟨r0, d0, r1, d1, r2, d2, r3, d3, rfl, x2, rfl, hsv⟩
  go_upto_region 4 with (fail)
  have hn6 := heap_new x2.w (.cells #[.slice r0 S.boxes.length d0, .slice r1 S.stock.length d1, .slice r2 S.earn.length d2, .slice r3 S.keeps.length d3, .int .i64 S.changes] 26)
  obtain ⟨X, hX⟩ : ∃ X, X = x2.w.alloc (.cells #[.slice r0 S.boxes.length d0, .slice r1 S.stock.length d1, .slice r2 S.earn.length d2, .slice r3 S.keeps.length d3, .int .i64 S.changes] 26) := ⟨_, rfl⟩
  have hEX : Ext x2.w X := by rw [hX]; exact Ext.alloc (Ext.refl x2.w) _
  rw [← hX] at hn6 ⊢
  obtain ⟨B6, hB6⟩ : ∃ B6, B6 = x2.w.heap.size := ⟨_, rfl⟩
  rw [← hB6] at hn6 ⊢
  have hWX : Ext W X := x2.h.trans hEX
  have s0 : ∀ x : ExtW X, x.w.cell? ⟨w.heap.size, 0, none⟩ = some (.slice p0 S.boxes.length c0) := fun x => q0 ⟨x.w, hWX.trans x.h⟩
  have s1 : ∀ x : ExtW X, x.w.cell? ⟨w.heap.size, 1, none⟩ = some (.slice p1 S.stock.length c1) := fun x => q1 ⟨x.w, hWX.trans x.h⟩
  have s2 : ∀ x : ExtW X, x.w.cell? ⟨w.heap.size, 2, none⟩ = some (.slice p2 S.earn.length c2) := fun x => q2 ⟨x.w, hWX.trans x.h⟩
  have s3 : ∀ x : ExtW X, x.w.cell? ⟨w.heap.size, 3, none⟩ = some (.slice p3 S.keeps.length c3) := fun x => q3 ⟨x.w, hWX.trans x.h⟩
  have s4 : ∀ x : ExtW X, x.w.cell? ⟨w.heap.size, 4, none⟩ = some (.int .i64 S.changes) := fun x => q4 ⟨x.w, hWX.trans x.h⟩
  have o0 := ExtW.cell (v := .slice r0 S.boxes.length d0) (cell_of_heap hn6 0)
  have o1 := ExtW.cell (v := .slice r1 S.stock.length d1) (cell_of_heap hn6 1)
  have o2 := ExtW.cell (v := .slice r2 S.earn.length d2) (cell_of_heap hn6 2)
  have o3 := ExtW.cell (v := .slice r3 S.keeps.length d3) (cell_of_heap hn6 3)
  have o4 := ExtW.cell (v := .int .i64 S.changes) (cell_of_heap hn6 4)
  have HSS := Lib.hid (fun x : ExtW X => SwapV.mono _ _ _ _ (HEW.out.trans (hWX.trans x.h)) HV.out)
  have HSO := Lib.hid (fun x : ExtW X => SwapV.mono _ _ _ _ (hEX.trans x.h) hsv)
  have HWT := Lib.hid (fun x : ExtW X => ExtW.call (works07 x.w))
  have HEX := Lib.hid (HEW.out.trans hWX)
  have HSM := Lib.hid (fun x : ExtW X => same07 _ _ S x.w (HSO.out x) (HSS.out x) HMD.out)
  have HBA := Lib.hid (fun x : ExtW X => Best07 _ S x.w (HSO.out x) HMD.out)
  have HBB := Lib.hid (fun x : ExtW X => rBest07 _ S x.w (HSS.out x) HMD.out)
  have HKA := Lib.hid (fun x : ExtW X => Always07 _ S x.w (HSO.out x) HMD.out)
  have HKB := Lib.hid (fun x : ExtW X => rAlways07 _ S x.w (HSS.out x) HMD.out)
  have HFA := Lib.hid (fun x : ExtW X => Fair07 _ S x.w (HSO.out x) HMD.out)
  have HFB := Lib.hid (fun x : ExtW X => rFair07 _ S x.w (HSS.out x) HMD.out)
  have HPL := Lib.hid (fun x : ExtW X => Plan07 _ S x.w (HSO.out x) HMD.out)
  obtain ⟨fa, fb, hfv⟩ := fair_vals S
  obtain ⟨z0, hz0⟩ := ExtW.of (Ext.refl X)
  clear hX hEX hn6 hB6 hWX q0 q1 q2 q3 q4 HW HR HSV HEW hsv
  conv => arg 5; rw [hz0]
  clear hz0
  rw [hfv] at HFA HFB
  clear hfv
  by_cases hS : Valid S
  case neg =>
    have HS := Lib.hid hS
    rw [ansV_f hS] at HBA HBB
    clear hS
    go_wp2_with fail
    refine (HBA.out _).mono ?_
    rintro e w1 ⟨rfl, hE1⟩
    obtain ⟨z1, rfl⟩ := ExtW.of (z0.h.trans hE1)
    clear hE1
    go_wp2_with fail
    refine (HBB.out _).mono ?_
    rintro e w1 ⟨rfl, hE1⟩
    obtain ⟨z2, rfl⟩ := ExtW.of (z1.h.trans hE1)
    clear hE1
    go_wp2_with fail
    refine (HKA.out _).mono ?_
    rintro e w1 (⟨h, -⟩ | ⟨-, rfl, hE1⟩)
    · exact absurd h HS.out
    obtain ⟨z3, rfl⟩ := ExtW.of (z2.h.trans hE1)
    clear hE1
    go_wp2_with fail
    refine (HKB.out _).mono ?_
    rintro e w1 (⟨h, -⟩ | ⟨-, rfl, hE1⟩)
    · exact absurd h HS.out
    obtain ⟨z4, rfl⟩ := ExtW.of (z3.h.trans hE1)
    clear hE1
    go_wp2_with fail
    refine (HFA.out _).mono ?_
    rintro e w1 ⟨rfl, hE1⟩
    obtain ⟨z5, rfl⟩ := ExtW.of (z4.h.trans hE1)
    clear hE1
    go_wp2_with fail
    refine (HFB.out _).mono ?_
    rintro e w1 ⟨rfl, hE1⟩
    obtain ⟨z6, rfl⟩ := ExtW.of (z5.h.trans hE1)
    clear hE1
    go_wp2_with fail
    refine (HPL.out _).mono ?_
    rintro e w1 (⟨h, -⟩ | ⟨-, rfl, hE1⟩)
    · exact absurd h HS.out
    obtain ⟨z7, rfl⟩ := ExtW.of (z6.h.trans hE1)
    have HSK := Lib.hid (SameKeeps07 none none [] 0 0 z7.w (by simp) (PairsAt.nil _ _) (PairsAt.nil _ _))
    have HFL := Lib.hid (fun x : ExtW X => ExtW.call (RetQ.e (RetQ.bf far_nil (farLists07 none [] 0 x.w (by simp) (by simp) (fun i h => absurd h (by simp))))))
    clear hE1
    go_wp2_with fail
    refine HSK.out.mono ?_
    rintro e w1 ⟨rfl, hE1⟩
    obtain ⟨z8, rfl⟩ := ExtW.of (z7.h.trans hE1)
    clear hE1
    go_wp2_with fail
    refine (HFL.out _).mono ?_
    rintro e _ ⟨rfl, z9, rfl⟩
    go_wp2_with fail
    refine (HSM.out _).mono ?_
    rintro e w1 ⟨rfl, hE1⟩
    obtain ⟨z10, rfl⟩ := ExtW.of (z9.h.trans hE1)
    clear hE1
    go_wp2_with fail
    refine (HWT.out _).mono ?_
    rintro e _ ⟨rfl, z11, rfl⟩
    go_wp2
    go_ret
    exact RetE.fin (HEX.out.trans z11.h) rfl
  have HS := Lib.hid hS
  obtain ⟨b1, b2, b3, -⟩ := best_plan hS
  rw [ansV_t hS] at HBA HBB
  have hb3 := hS.boxes
  have hrl : ∀ i (h : i < (bestP S).length), (bestP S)[i].length ≤ 3 := fun i h => b1.row_le hS i h
  have hbl : (bestP S).length ≤ 3 := by rw [b1.1]; exact hb3
  have hnf : ¬FarL (bestP S) := by
    rintro (h | ⟨l, hl, h⟩)
    · omega
    · obtain ⟨i, hi, rfl⟩ := List.getElem_of_mem hl
      have := hrl i hi
      omega
  have HFL := Lib.hid (fun (x : ExtW X) p c (hp : ListsAt x.w p (bestP S)) => RetQ.e (RetQ.bf hnf (farLists07 p (bestP S) c x.w (by omega) (fun l hl => by
    obtain ⟨i, hi, rfl⟩ := List.getElem_of_mem hl
    have := hrl i hi
    omega) hp)))
  have HIP := Lib.hid (fun (x : ExtW X) p c (hp : ListsAt x.w p (bestP S)) => RetE.bt b1 (IsPlan07 _ S p (bestP S) c x.w (HSS.out x) HMD.out hp (by omega) (fun i h => by have := hrl i h; omega)))
  have HDF := Lib.hid (fun (x : ExtW X) p c (hp : ListsAt x.w p (bestP S)) => RetE.bt b2 (DoesFit07 _ S p (bestP S) c x.w (HSS.out x) hS hp b1.1 (fun i h => by have := hrl i h; omega)))
  have hEA := fun (x : ExtW X) p c (hp : ListsAt x.w p (bestP S)) => EarnsAll07 _ S p (bestP S) c x.w (HSS.out x) hS hp (by rw [b1.1]; exact Nat.le_refl _) (fun i h => by have := hrl i h; omega) (fun i h => (b1.2 i h).2.mem)
  rw [b3] at hEA
  have HEA := Lib.hid hEA
  obtain ⟨bn, hbn⟩ : ∃ bn, bn = bestN (openV S) := ⟨_, rfl⟩
  rw [← hbn] at HBA HBB HEA
  obtain ⟨P, hP⟩ : ∃ P, P = bestP S := ⟨_, rfl⟩
  have HPP := Lib.hid (fun (x : ExtW X) => (HPL.out x).mono (R' := fun e w' => ∃ p c, e = .returned (.tuple #[.slice p P.length c, .int .i64 0]) ∧ ListsAt w' p P ∧ Ext x.w w') (by
    rintro e w' (⟨-, u, rfl, ⟨p, c, rfl, hp⟩, hE⟩ | ⟨h, -⟩)
    · rw [hP]; exact ⟨p, c, rfl, hp, hE⟩
    · exact absurd hS h))
  rw [← hP] at HFL HIP HDF HEA hbl
  obtain ⟨K, hK⟩ : ∃ K, K = alwL S := ⟨_, rfl⟩
  have hKl : K.length ≤ 100000 := by
    have := alwTo_len (alwF S) S.boxes.length
    rw [hK]
    unfold alwL
    omega
  have HKA2 := Lib.hid (fun (x : ExtW X) => (HKA.out x).mono (R' := fun e w' => ∃ p c, e = .returned (.tuple #[.slice p K.length c, .int .i64 0]) ∧ PairsAt w' p K ∧ Ext x.w w') (by
    rintro e w' (⟨-, p, c, rfl, hp, hE⟩ | ⟨h, -⟩)
    · rw [hK]; exact ⟨p, c, rfl, hp, hE⟩
    · exact absurd hS h))
  have HKB2 := Lib.hid (fun (x : ExtW X) => (HKB.out x).mono (R' := fun e w' => ∃ p c, e = .returned (.tuple #[.slice p K.length c, .int .i64 0]) ∧ PairsAt w' p K ∧ Ext x.w w') (by
    rintro e w' (⟨-, p, c, rfl, hp, hE⟩ | ⟨h, -⟩)
    · rw [hK]; exact ⟨p, c, rfl, hp, hE⟩
    · exact absurd hS h))
  clear hS b1 b2 b3 hrl hnf hEA hbn hP hK HKA HKB HPL
  go_wp2_with fail
  refine (HBA.out _).mono ?_
  rintro e w1 ⟨rfl, hE1⟩
  obtain ⟨z1, rfl⟩ := ExtW.of (z0.h.trans hE1)
  clear hE1
  go_wp2_with fail
  refine (HBB.out _).mono ?_
  rintro e w1 ⟨rfl, hE1⟩
  obtain ⟨z2, rfl⟩ := ExtW.of (z1.h.trans hE1)
  clear hE1
  go_wp2_with fail
  refine (HKA2.out _).mono ?_
  rintro e w1 ⟨pk, ck, rfl, hpk, hE1⟩
  obtain ⟨z3, rfl⟩ := ExtW.of (z2.h.trans hE1)
  have K3 := Lib.hid hpk
  clear hE1 hpk
  go_wp2_with fail
  refine (HKB2.out _).mono ?_
  rintro e w1 ⟨pl, cl, rfl, hpl, hE1⟩
  obtain ⟨z4, rfl⟩ := ExtW.of (z3.h.trans hE1)
  have K4 := Lib.hid (K3.out.ext hE1)
  have L4 := Lib.hid hpl
  clear hE1 hpl K3
  go_wp2_with fail
  refine (HFA.out _).mono ?_
  rintro e w1 ⟨rfl, hE1⟩
  obtain ⟨z5, rfl⟩ := ExtW.of (z4.h.trans hE1)
  have K5 := Lib.hid (K4.out.ext hE1)
  have L5 := Lib.hid (L4.out.ext hE1)
  clear hE1 K4 L4
  go_wp2_with fail
  refine (HFB.out _).mono ?_
  rintro e w1 ⟨rfl, hE1⟩
  obtain ⟨z6, rfl⟩ := ExtW.of (z5.h.trans hE1)
  have K6 := Lib.hid (K5.out.ext hE1)
  have L6 := Lib.hid (L5.out.ext hE1)
  clear hE1 K5 L5
  go_wp2_with fail
  refine (HPP.out _).mono ?_
  rintro e w1 ⟨pp, cp, rfl, hpp, hE1⟩
  obtain ⟨z7, rfl⟩ := ExtW.of (z6.h.trans hE1)
  have HSK := Lib.hid (SameKeeps07 pk pl K ck cl z7.w hKl (K6.out.ext hE1) (L6.out.ext hE1))
  have P7 := Lib.hid hpp
  clear hE1 hpp K6 L6
  go_wp2_with fail
  refine HSK.out.mono ?_
  rintro e w1 ⟨rfl, hE1⟩
  obtain ⟨z8, rfl⟩ := ExtW.of (z7.h.trans hE1)
  have P8 := Lib.hid (P7.out.ext hE1)
  clear hE1 P7 HSK
  go_wp2_with fail
  refine (HFL.out z8 pp cp P8.out).mono ?_
  rintro e w1 ⟨rfl, hE1⟩
  obtain ⟨z9, rfl⟩ := ExtW.of (z8.h.trans hE1)
  have P9 := Lib.hid (P8.out.ext hE1)
  clear hE1 P8
  go_wp2_with fail
  refine (HSM.out _).mono ?_
  rintro e w1 ⟨rfl, hE1⟩
  obtain ⟨z10, rfl⟩ := ExtW.of (z9.h.trans hE1)
  have P10 := Lib.hid (P9.out.ext hE1)
  clear hE1 P9
  go_wp2_with fail
  refine (HIP.out z10 pp cp P10.out).mono ?_
  rintro e w1 ⟨rfl, hE1⟩
  obtain ⟨z11, rfl⟩ := ExtW.of (z10.h.trans hE1)
  have P11 := Lib.hid (P10.out.ext hE1)
  clear hE1 P10
  go_wp2_with fail
  refine (HDF.out z11 pp cp P11.out).mono ?_
  rintro e w1 ⟨rfl, hE1⟩
  obtain ⟨z12, rfl⟩ := ExtW.of (z11.h.trans hE1)
  have P12 := Lib.hid (P11.out.ext hE1)
  clear hE1 P11
  go_wp2_with fail
  refine (HEA.out z12 pp cp P12.out).mono ?_
  rintro e w1 ⟨rfl, hE1⟩
  obtain ⟨z13, rfl⟩ := ExtW.of (z12.h.trans hE1)
  clear hE1 P12
  go_wp2_with fail
  refine (HWT.out _).mono ?_
  rintro e _ ⟨rfl, z14, rfl⟩
  go_wp2
  go_ret
  exact RetE.fin (HEX.out.trans z14.h) rfl
end Go.Proofs.Ytpgjkmjejpfkmaa
