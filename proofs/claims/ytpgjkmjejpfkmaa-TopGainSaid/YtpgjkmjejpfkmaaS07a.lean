/- The walks of SameLists, SameKeeps, same (of equal ones) and of the reference's Fits. -/
import Derived.Test.YtpgjkmjejpfkmaaA07c
namespace Go.Proofs.Ytpgjkmjejpfkmaa
open Go.RowKit

set_option maxHeartbeats 1600000 in
theorem SameLists07 (p q : Option Addr) (L : List (List Int)) (c d : Nat) (w : World) (hl : L.length ≤ 100000) (hr : ∀ i (h : i < L.length), L[i].length ≤ 100000) (hp : ListsAt w p L) (hq : ListsAt w q L) :
    Calls Try.prog 38 #[.slice p L.length c, .slice q L.length d] w (RetE (.bool true) w) := by
  have HR := Lib.hid hr
  clear hr
  go_enter Try.func38, Try.ntmps38
  have HP := Lib.hid hp
  have HQ := Lib.hid hq
  clear hp hq
  go_wp2
  go_loopw [5] (fun i wr => ∃ k : Nat, k ≤ L.length ∧ i = .int .i64 k ∧ ∃ x : ExtW w, wr = x.w) (fun i _ => L.length - (intOf i).toNat)
  case atStart => exact ⟨0, by omega, rfl, ⟨w, Ext.refl _⟩, rfl⟩
  case round =>
    obtain ⟨k, hk, rfl, x, rfl⟩ := hrel
    by_cases hlt : k < L.length
    · obtain ⟨b, o, q1, c1, rfl, hc1, hq1⟩ := HP.out.at k hlt
      obtain ⟨b2, o2, q2, c2, rfl, hc2, hq2⟩ := HQ.out.at k hlt
      have s1 := ExtW.cell hc1
      have s2 := ExtW.cell hc2
      have hlk := HR.out k hlt
      have HC := Lib.hid (fun x : ExtW w => ExtW.call (RetQ.e (RetQ.bt rfl (SameInts01 q1 q2 L[k] L[k] c1 c2 x.w hlk (by omega) (hq1.ext x.h) (hq2.ext x.h)))))
      obtain ⟨n, hn⟩ : ∃ n, n = L[k].length := ⟨_, rfl⟩
      rw [← hn] at s1 s2 HC
      clear hc1 hc2 hq1 hq2 hn hlk
      go_upto_region 6 with (fail)
      refine wp_region_extW (by kernel_rfl) (by kernel_rfl) ?_
      repeat (go_big_quiet_step ((go_at_call 37; exact HC.out _)))
      refine wpQuiet_nil ?_
      rintro _ ⟨x2, rfl⟩
      go_wp2
      go_roundw
      case rel => exact ⟨k + 1, by omega, by go_num, x2, rfl⟩
      case measure => simp [intOf]; omega
    · obtain rfl : k = L.length := by omega
      go_wp2
      go_ret
      exact RetE.fin x.h rfl

set_option maxHeartbeats 1600000 in
theorem SameKeeps07 (p q : Option Addr) (L : List (Int × Int)) (c d : Nat) (w : World) (hl : L.length ≤ 100000) (hp : PairsAt w p L) (hq : PairsAt w q L) :
    Calls Try.prog 47 #[.slice p L.length c, .slice q L.length d] w (RetE (.bool true) w) := by
  go_enter Try.func47, Try.ntmps47
  have HP := Lib.hid hp
  have HQ := Lib.hid hq
  clear hp hq
  go_wp2
  go_loopw [5] (fun i wr => ∃ k : Nat, k ≤ L.length ∧ i = .int .i64 k ∧ ∃ x : ExtW w, wr = x.w) (fun i _ => L.length - (intOf i).toNat)
  case atStart => exact ⟨0, by omega, rfl, ⟨w, Ext.refl _⟩, rfl⟩
  case round =>
    obtain ⟨k, hk, rfl, x, rfl⟩ := hrel
    by_cases hlt : k < L.length
    · obtain ⟨b, o, rfl, hc1, hd1⟩ := HP.out k hlt
      obtain ⟨b2, o2, rfl, hc2, hd2⟩ := HQ.out k hlt
      have s1 := ExtW.cell hc1
      have s2 := ExtW.cell hc2
      have t1 := ExtW.cell hd1
      have t2 := ExtW.cell hd2
      obtain ⟨n, hn⟩ : ∃ n, n = L[k].1 := ⟨_, rfl⟩
      obtain ⟨m, hm⟩ : ∃ m, m = L[k].2 := ⟨_, rfl⟩
      rw [← hn] at s1 s2
      rw [← hm] at t1 t2
      clear hc1 hc2 hd1 hd2 hn hm
      go_upto_region 6 with (fail)
      refine wp_region_extW (by kernel_rfl) (by kernel_rfl) ?_
      repeat (go_big_quiet_step (fail))
      refine wpQuiet_nil ?_
      rintro _ ⟨x2, rfl⟩
      go_wp2
      go_roundw
      case rel => exact ⟨k + 1, by omega, by go_num, x2, rfl⟩
      case measure => simp [intOf]; omega
    · obtain rfl : k = L.length := by omega
      go_wp2
      go_ret
      exact RetE.fin x.h rfl

set_option maxHeartbeats 1600000 in
theorem same07 (v u : Value) (S : Swap) (w : World) (hv : SwapV w v S) (hu : SwapV w u S) (hM : Modest S) : Calls Try.prog 28 #[v, u] w (RetE (.bool true) w) := by
  obtain ⟨p0, c0, p1, c1, p2, c2, p3, c3, rfl, h0, h1, h2, h3⟩ := hv
  obtain ⟨q0, d0, q1, d1, q2, d2, q3, d3, rfl, g0, g1, g2, g3⟩ := hu
  have HA := Lib.hid (fun (x : ExtW w) => (SameLists07 p0 q0 S.boxes c0 d0 x.w hM.boxes hM.box (h0.ext x.h) (g0.ext x.h)))
  have HB := Lib.hid (fun (x : ExtW w) => (RetQ.e (RetQ.bt rfl (SameInts01 p1 q1 S.stock S.stock c1 d1 x.w hM.stock (by have := hM.stock; omega) (h1.ext x.h) (g1.ext x.h)))))
  have HC := Lib.hid (fun (x : ExtW w) => (SameLists07 p2 q2 S.earn c2 d2 x.w hM.earn hM.row (h2.ext x.h) (g2.ext x.h)))
  have HD := Lib.hid (fun (x : ExtW w) => (SameKeeps07 p3 q3 S.keeps c3 d3 x.w hM.keeps (h3.ext x.h) (g3.ext x.h)))
  clear h0 h1 h2 h3 g0 g1 g2 g3
  go_enter Try.func28, Try.ntmps28
  go_upto_region 1 with (fail)
  obtain ⟨W, hW⟩ : ∃ W, W = (w.alloc (.cells #[.slice p0 S.boxes.length c0, .slice p1 S.stock.length c1, .slice p2 S.earn.length c2, .slice p3 S.keeps.length c3, .int .i64 S.changes] 26)).alloc (.cells #[.slice q0 S.boxes.length d0, .slice q1 S.stock.length d1, .slice q2 S.earn.length d2, .slice q3 S.keeps.length d3, .int .i64 S.changes] 26) := ⟨_, rfl⟩
  have hb0 := heap_new1 w (.cells #[.slice p0 S.boxes.length c0, .slice p1 S.stock.length c1, .slice p2 S.earn.length c2, .slice p3 S.keeps.length c3, .int .i64 S.changes] 26) (.cells #[.slice q0 S.boxes.length d0, .slice q1 S.stock.length d1, .slice q2 S.earn.length d2, .slice q3 S.keeps.length d3, .int .i64 S.changes] 26)
  have hb1 := heap_new2 w (.cells #[.slice p0 S.boxes.length c0, .slice p1 S.stock.length c1, .slice p2 S.earn.length c2, .slice p3 S.keeps.length c3, .int .i64 S.changes] 26) (.cells #[.slice q0 S.boxes.length d0, .slice q1 S.stock.length d1, .slice q2 S.earn.length d2, .slice q3 S.keeps.length d3, .int .i64 S.changes] 26)
  have hE : Ext w W := by rw [hW]; exact Ext.alloc (Ext.alloc (Ext.refl w) _) _
  rw [← hW] at hb0 hb1 ⊢
  obtain ⟨y0, hy0⟩ := ExtW.of hE
  rw [hy0] at hb0 hb1 ⊢
  have A0 := ExtW.cell (v := .slice p0 S.boxes.length c0) (cell_of_heap hb0 0)
  have A1 := ExtW.cell (v := .slice p1 S.stock.length c1) (cell_of_heap hb0 1)
  have A2 := ExtW.cell (v := .slice p2 S.earn.length c2) (cell_of_heap hb0 2)
  have A3 := ExtW.cell (v := .slice p3 S.keeps.length c3) (cell_of_heap hb0 3)
  have A4 := ExtW.cell (v := .int .i64 S.changes) (cell_of_heap hb0 4)
  have B0 := ExtW.cell (v := .slice q0 S.boxes.length d0) (cell_of_heap hb1 0)
  have B1 := ExtW.cell (v := .slice q1 S.stock.length d1) (cell_of_heap hb1 1)
  have B2 := ExtW.cell (v := .slice q2 S.earn.length d2) (cell_of_heap hb1 2)
  have B3 := ExtW.cell (v := .slice q3 S.keeps.length d3) (cell_of_heap hb1 3)
  have B4 := ExtW.cell (v := .int .i64 S.changes) (cell_of_heap hb1 4)
  clear hb0 hb1 hW hy0 hE
  obtain ⟨z0, hz0⟩ := ExtW.of (Ext.refl y0.w)
  conv => arg 5; rw [hz0]
  clear hz0
  go_wp2_with fail
  refine (HA.out ⟨z0.w, y0.h.trans z0.h⟩).mono ?_
  rintro e w1 ⟨rfl, hE1⟩
  obtain ⟨z1, rfl⟩ := ExtW.of (z0.h.trans hE1)
  clear hE1
  go_wp2_with fail
  refine (HB.out ⟨z1.w, y0.h.trans z1.h⟩).mono ?_
  rintro e w2 ⟨rfl, hE2⟩
  obtain ⟨z2, rfl⟩ := ExtW.of (z1.h.trans hE2)
  clear hE2
  go_wp2_with fail
  refine (HC.out ⟨z2.w, y0.h.trans z2.h⟩).mono ?_
  rintro e w3 ⟨rfl, hE3⟩
  obtain ⟨z3, rfl⟩ := ExtW.of (z2.h.trans hE3)
  clear hE3
  go_wp2_with fail
  refine (HD.out ⟨z3.w, y0.h.trans z3.h⟩).mono ?_
  rintro e w4 ⟨rfl, hE4⟩
  obtain ⟨z4, rfl⟩ := ExtW.of (z3.h.trans hE4)
  clear hE4
  go_wp2
  go_ret
  exact RetE.fin (y0.h.trans z4.h) rfl

set_option maxHeartbeats 1600000 in
theorem rFits07 (v : Value) (S : Swap) (q : Option Addr) (L : List (List Int)) (c : Nat) (w : World) (hv : SwapV w v S) (hM : Modest S) (hq : ListsAt w q L) (hl : L.length ≤ 100000)
    (hr : ∀ i (h : i < L.length), L[i].length ≤ 100000) :
    Calls Try.prog 34 #[v, .slice q L.length c] w (RetE (fitsV S L) w) := by
  have HV := Lib.hid hv
  have HQ := Lib.hid hq
  have HR := Lib.hid hr
  obtain ⟨p0, c0, p1, c1, p2, c2, p3, c3, rfl, h0, h1, h2, h3⟩ := hv
  clear h0 h1 h2 h3 hq hr
  go_enter Try.func34, Try.ntmps34
  go_upto_region 1 with (fail)
  have hn := heap_new w (.cells #[.slice p0 S.boxes.length c0, .slice p1 S.stock.length c1, .slice p2 S.earn.length c2, .slice p3 S.keeps.length c3, .int .i64 S.changes] 26)
  obtain ⟨W, hW⟩ : ∃ W, W = w.alloc (.cells #[.slice p0 S.boxes.length c0, .slice p1 S.stock.length c1, .slice p2 S.earn.length c2, .slice p3 S.keeps.length c3, .int .i64 S.changes] 26) := ⟨_, rfl⟩
  have hE : Ext w W := by rw [hW]; exact Ext.alloc (Ext.refl w) _
  rw [← hW] at hn ⊢
  have q0 := ExtW.cell (v := .slice p0 S.boxes.length c0) (cell_of_heap hn 0)
  have q1 := ExtW.cell (v := .slice p1 S.stock.length c1) (cell_of_heap hn 1)
  have q2 := ExtW.cell (v := .slice p2 S.earn.length c2) (cell_of_heap hn 2)
  have q3 := ExtW.cell (v := .slice p3 S.keeps.length c3) (cell_of_heap hn 3)
  have q4 := ExtW.cell (v := .int .i64 S.changes) (cell_of_heap hn 4)
  have HK0 := fun x : ExtW W => ExtW.call (rCheck07 _ S x.w (SwapV.mono _ _ _ _ (hE.trans x.h) HV.out) hM)
  have HI0 := fun x : ExtW W => ExtW.call (IsPlan07 _ S q L c x.w (SwapV.mono _ _ _ _ (hE.trans x.h) HV.out) hM (HQ.out.ext (hE.trans x.h)) hl HR.out)
  obtain ⟨x0, hx0⟩ := ExtW.of (Ext.refl W)
  clear hW hn
  conv => arg 5; rw [hx0]
  clear hx0
  by_cases hS : Valid S
  · rw [chk_t hS] at HK0
    have HK := Lib.hid HK0
    have HS := Lib.hid hS
    clear HK0 hS
    by_cases hP : IsPlan S L
    · rw [bP_t hP] at HI0
      have HI := Lib.hid HI0
      have HFV := Lib.hid (fitsV_plan HS.out hP)
      have HD := Lib.hid (fun x : ExtW W => ExtW.call (DoesFit07 _ S q L c x.w (SwapV.mono _ _ _ _ (hE.trans x.h) HV.out) HS.out (HQ.out.ext (hE.trans x.h)) hP.1 (fun i h => by have := hP.row_le HS.out i h; omega)))
      clear HI0 hP
      go_wp2_with fail
      refine (HK.out _).mono ?_
      rintro e _ ⟨rfl, x1, rfl⟩
      go_wp2_with fail
      refine (HI.out _).mono ?_
      rintro e _ ⟨rfl, x2, rfl⟩
      go_wp2_with fail
      refine (HD.out _).mono ?_
      rintro e _ ⟨rfl, x3, rfl⟩
      go_wp2
      go_ret2
      exact RetE.fin (hE.trans x3.h) HFV.out.symm
    · rw [bP_f hP] at HI0
      have HI := Lib.hid HI0
      have HFV := Lib.hid (show fitsV S L = .tuple #[.bool false, .int .i64 1] from by simp [fitsV, bP_t HS.out, bP_f hP])
      clear HI0 hP
      go_wp2_with fail
      refine (HK.out _).mono ?_
      rintro e _ ⟨rfl, x1, rfl⟩
      go_wp2_with fail
      refine (HI.out _).mono ?_
      rintro e _ ⟨rfl, x2, rfl⟩
      go_wp2
      go_ret2
      exact RetE.fin (hE.trans x2.h) HFV.out.symm
  · rw [chk_f hS] at HK0
    have HK := Lib.hid HK0
    have HFV := Lib.hid (show fitsV S L = .tuple #[.bool false, .int .i64 70] from by simp [fitsV, bP_f hS])
    clear HK0 hS HI0
    go_wp2_with fail
    refine (HK.out _).mono ?_
    rintro e _ ⟨rfl, x1, rfl⟩
    go_wp2
    go_ret2
    exact RetE.fin (hE.trans x1.h) HFV.out.symm
end Go.Proofs.Ytpgjkmjejpfkmaa
