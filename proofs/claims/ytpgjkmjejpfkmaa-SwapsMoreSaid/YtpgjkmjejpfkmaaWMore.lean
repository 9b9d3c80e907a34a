/- The walk of SwapsMore. -/
import Derived.Test.YtpgjkmjejpfkmaaC07f
import Derived.Test.YtpgjkmjejpfkmaaM07c
import Derived.Deep.RegionWith
namespace Go.Proofs.Ytpgjkmjejpfkmaa
open Go.RowKit

def mn4 (a b c d : Int) : Int := if d < (if c < (if b < a then b else a) then c else (if b < a then b else a)) then d else (if c < (if b < a then b else a) then c else (if b < a then b else a))
def mx4 (a b c d : Int) : Int := if d > (if c > (if b > a then b else a) then c else (if b > a then b else a)) then d else (if c > (if b > a then b else a) then c else (if b > a then b else a))
theorem run_min4 {P : Program} (w : World) (ts : Array TypeId) (t : TypeId) (k k' k'' k3 : IntKind) (x y z u : Int) : (Builtin.min_ ts t #[.int k x, .int k' y, .int k'' z, .int k3 u]).run P w = .ok (.int k (mn4 x y z u)) w := by
  simp [Builtin.min_, Builtin.min2, mn4]
theorem run_max4 {P : Program} (w : World) (ts : Array TypeId) (t : TypeId) (k k' k'' k3 : IntKind) (x y z u : Int) : (Builtin.max_ ts t #[.int k x, .int k' y, .int k'' z, .int k3 u]).run P w = .ok (.int k (mx4 x y z u)) w := by
  simp [Builtin.max_, Builtin.max2, mx4]
attribute [local go_sem] run_min4 run_max4
theorem mn4_ge {a b c d : Int} (h : ¬mn4 a b c d < 0) : 0 ≤ a ∧ 0 ≤ b ∧ 0 ≤ c ∧ 0 ≤ d := by
  unfold mn4 at h
  split at h <;> split at h <;> split at h <;> omega
theorem mx4_le {a b c d m : Int} (h : ¬m < mx4 a b c d) : a ≤ m ∧ b ≤ m ∧ c ≤ m ∧ d ≤ m := by
  unfold mx4 at h
  split at h <;> split at h <;> split at h <;> omega

set_option maxRecDepth 100000 in
set_option maxHeartbeats 8000000 in
theorem SwapsMore07 (v : Value) (S : Swap) (ti co bx ea cg ke goal : Int) (w : World) (hv : SwapV w v S) (hM : Big S) :
    Calls Try.prog 3 #[v, .agg #[.int .i64 ti, .int .i64 co, .int .i64 bx, .int .i64 ea, .int .i64 cg, .int .i64 ke], .int .i64 goal] w (RetE (.bool true) w) := by
  have HV := Lib.hid hv
  obtain ⟨p0, c0, p1, c1, p2, c2, p3, c3, rfl, h0, h1, h2, h3⟩ := hv
  clear h0 h1 h2 h3
  go_enter Try.func3, Try.ntmps3
  go_upto_region 1 with (fail)
  have hn := heap_new1 w (.cells #[.slice p0 S.boxes.length c0, .slice p1 S.stock.length c1, .slice p2 S.earn.length c2, .slice p3 S.keeps.length c3, .int .i64 S.changes] 26) (.cells #[.int .i64 ti, .int .i64 co, .int .i64 bx, .int .i64 ea, .int .i64 cg, .int .i64 ke] 28)
  have hn2 := heap_new2 w (.cells #[.slice p0 S.boxes.length c0, .slice p1 S.stock.length c1, .slice p2 S.earn.length c2, .slice p3 S.keeps.length c3, .int .i64 S.changes] 26) (.cells #[.int .i64 ti, .int .i64 co, .int .i64 bx, .int .i64 ea, .int .i64 cg, .int .i64 ke] 28)
  obtain ⟨W, hW⟩ : ∃ W, W = (w.alloc (.cells #[.slice p0 S.boxes.length c0, .slice p1 S.stock.length c1, .slice p2 S.earn.length c2, .slice p3 S.keeps.length c3, .int .i64 S.changes] 26)).alloc (.cells #[.int .i64 ti, .int .i64 co, .int .i64 bx, .int .i64 ea, .int .i64 cg, .int .i64 ke] 28) := ⟨_, rfl⟩
  have hE : Ext w W := by rw [hW]; exact Ext.alloc (Ext.alloc (Ext.refl w) _) _
  have hWs : W.heap.size = w.heap.size + 2 := by rw [hW]; simp
  rw [← hW] at hn hn2 ⊢
  have q0 := ExtW.cell (v := .slice p0 S.boxes.length c0) (cell_of_heap hn 0)
  have q1 := ExtW.cell (v := .slice p1 S.stock.length c1) (cell_of_heap hn 1)
  have q2 := ExtW.cell (v := .slice p2 S.earn.length c2) (cell_of_heap hn 2)
  have q3 := ExtW.cell (v := .slice p3 S.keeps.length c3) (cell_of_heap hn 3)
  have q4 := ExtW.cell (v := .int .i64 S.changes) (cell_of_heap hn 4)
  have y0 := ExtW.cell (v := .int .i64 ti) (cell_of_heap hn2 0)
  have y1 := ExtW.cell (v := .int .i64 co) (cell_of_heap hn2 1)
  have y2 := ExtW.cell (v := .int .i64 bx) (cell_of_heap hn2 2)
  have y3 := ExtW.cell (v := .int .i64 ea) (cell_of_heap hn2 3)
  have y4 := ExtW.cell (v := .int .i64 cg) (cell_of_heap hn2 4)
  have y5 := ExtW.cell (v := .int .i64 ke) (cell_of_heap hn2 5)
  have HW := Lib.hid (fun x : ExtW W => ExtW.call (works07 x.w))
  have HR := Lib.hid (fun x : ExtW W => ExtW.call (ready07 _ S x.w (SwapV.mono _ _ _ _ (hE.trans x.h) HV.out) hM))
  obtain ⟨x0, hx0⟩ := ExtW.of (Ext.refl W)
  have HWS := Lib.hid hWs
  clear hW hn hn2 hWs
  conv => arg 5; rw [hx0]
  clear hx0
  by_cases hR : Ready S
  case neg =>
    rw [bP_f hR] at HR
    clear hR
    go_wp2_with fail
    refine (HR.out _).mono ?_
    rintro e _ ⟨rfl, x1, rfl⟩
    go_wp2_with fail
    refine (HW.out _).mono ?_
    rintro e _ ⟨rfl, x2, rfl⟩
    go_wp2
    go_ret
    exact RetE.fin (hE.trans x2.h) rfl
  rw [bP_t hR] at HR
  obtain ⟨hS, -, -⟩ := hR
  have HS := Lib.hid hS
  clear hS
  by_cases b0 : mn4 co ea cg ke < 0
  · have b0' : decide (mn4 co ea cg ke < 0) = true := by simpa using b0
    clear b0
    go_wp2_with fail
    refine (HR.out _).mono ?_
    rintro e _ ⟨rfl, x1, rfl⟩
    go_wp2_with fail
    refine (HW.out _).mono ?_
    rintro e _ ⟨rfl, x2, rfl⟩
    go_wp2
    go_ret
    exact RetE.fin (hE.trans x2.h) rfl
  have b0' : decide (mn4 co ea cg ke < 0) = false := by simpa using b0
  have B0 := Lib.hid b0
  clear b0
  by_cases b1 : 999 < mx4 co ea cg ke
  · have b1' : decide (999 < mx4 co ea cg ke) = true := by simpa using b1
    clear b1
    go_wp2_with fail
    refine (HR.out _).mono ?_
    rintro e _ ⟨rfl, x1, rfl⟩
    go_wp2_with fail
    refine (HW.out _).mono ?_
    rintro e _ ⟨rfl, x2, rfl⟩
    go_wp2
    go_ret
    exact RetE.fin (hE.trans x2.h) rfl
  have b1' : decide (999 < mx4 co ea cg ke) = false := by simpa using b1
  have B1 := Lib.hid b1
  clear b1
  by_cases b2 : goal < 0
  · have b2' : decide (goal < 0) = true := by simpa using b2
    clear b2
    go_wp2_with fail
    refine (HR.out _).mono ?_
    rintro e _ ⟨rfl, x1, rfl⟩
    go_wp2_with fail
    refine (HW.out _).mono ?_
    rintro e _ ⟨rfl, x2, rfl⟩
    go_wp2
    go_ret
    exact RetE.fin (hE.trans x2.h) rfl
  have b2' : decide (goal < 0) = false := by simpa using b2
  have B2 := Lib.hid b2
  clear b2
  by_cases b3 : 99999 < goal
  · have b3' : decide (99999 < goal) = true := by simpa using b3
    clear b3
    go_wp2_with fail
    refine (HR.out _).mono ?_
    rintro e _ ⟨rfl, x1, rfl⟩
    go_wp2_with fail
    refine (HW.out _).mono ?_
    rintro e _ ⟨rfl, x2, rfl⟩
    go_wp2
    go_ret
    exact RetE.fin (hE.trans x2.h) rfl
  have b3' : decide (99999 < goal) = false := by simpa using b3
  have B3 := Lib.hid b3
  clear b3
  obtain ⟨n1, n2, n3, n4⟩ := mn4_ge B0.out
  obtain ⟨u1, u2, u3, u4⟩ := mx4_le B1.out
  have hch := HS.out.ch
  have hMS := modest_of_valid HS.out
  have hb3 := HS.out.boxes
  have hs6 := HS.out.stock
  have he6 : S.earn.length ≤ 6 := by rw [HS.out.earn]; exact hs6
  have hk4 := HS.out.keeps
  have HCN := Lib.hid (fun (x : ExtW W) => Clone07 _ S x.w (SwapV.mono _ _ _ _ (hE.trans x.h) HV.out) (by omega) (fun i h => by have := (HS.out.box i h).1; omega) (by omega) (by omega) (fun i h => by rw [HS.out.row i h]; omega) (by omega))
  go_wp2_with fail
  refine (HR.out _).mono ?_
  rintro e _ ⟨rfl, x1, rfl⟩
  go_wp2_with fail
  refine (HCN.out x1).mono ?_
  rintro e w4 ⟨v0, v1, v2, v3, g0, k0, g2, k2, B, rfl, hE4, hBB, hco⟩
  obtain ⟨r0, d0, r1, d1, r2, d2, r3, d3, he, -⟩ := hco.swap
  injection he with he
  injection he with he
  simp only [List.cons.injEq, and_true] at he
  obtain ⟨rfl, rfl, rfl, rfl⟩ := he
  obtain ⟨x4, rfl⟩ := ExtW.of (x1.h.trans hE4)
  have HCO := Lib.hid hco
  have hB4 : W.heap.size ≤ B := by have := x1.h.size; omega
  have hsz4 := x4.h.size
  clear hco hE4 HCN hBB
  go_upto_region 4 with (fail)
  have hn6 := heap_new x4.w (.cells #[.slice r0 S.boxes.length d0, .slice r1 S.stock.length d1, .slice r2 S.earn.length d2, .slice r3 S.keeps.length d3, .int .i64 S.changes] 26)
  obtain ⟨W6, hW6⟩ : ∃ W6, W6 = x4.w.alloc (.cells #[.slice r0 S.boxes.length d0, .slice r1 S.stock.length d1, .slice r2 S.earn.length d2, .slice r3 S.keeps.length d3, .int .i64 S.changes] 26) := ⟨_, rfl⟩
  have hE6 : Ext x4.w W6 := by rw [hW6]; exact Ext.alloc (Ext.refl x4.w) _
  rw [← hW6] at hn6 ⊢
  have HCO6 := Lib.hid (HCO.out.ext hE6)
  obtain ⟨B6, hB6⟩ : ∃ B6, B6 = x4.w.heap.size := ⟨_, rfl⟩
  have hlo : ∀ {l : Nat} {v : Value}, v.ownBlock = some l → True := fun _ => trivial
  have hf6 := fun k => cell_frozen hn6 k
  have z0 := cell_of_heap hn6 0
  have z1 := cell_of_heap hn6 1
  have z2 := cell_of_heap hn6 2
  have z3 := cell_of_heap hn6 3
  have z4 := cell_of_heap hn6 4
  have f3 := hf6 3
  have f4 := hf6 4
  simp at z0 z1 z2 z3 z4
  have a2 : W6.cell? ⟨w.heap.size + 1, 4, none⟩ = some (.int .i64 cg) := y4 ⟨W6, x4.h.trans hE6⟩
  have a3 : W6.cell? ⟨w.heap.size + 1, 5, none⟩ = some (.int .i64 ke) := y5 ⟨W6, x4.h.trans hE6⟩
  have hwc : IntKind.i64.wrap (S.changes + cg) = S.changes + cg := IntWalk.i64_in _ (by omega)
  obtain ⟨K, hK⟩ : ∃ K : Nat, (K : Int) = if (S.keeps.length : Int) < ke then (S.keeps.length : Int) else ke := ⟨(if (S.keeps.length : Int) < ke then (S.keeps.length : Int) else ke).toNat, by split <;> omega⟩
  have hKl : K ≤ S.keeps.length := by split at hK <;> omega
  have hKd : S.keeps.length ≤ d3 := own_cap HCO6.out.k
  have hKd2 : K ≤ d3 := by omega
  have hWlt : W.heap.size ≤ x4.w.heap.size := hsz4
  have hww : w.heap.size + 1 < x4.w.heap.size := by have := HWS.out; omega
  have HK := Lib.hid hK
  have hK' := hK.symm
  clear hK hf6
  rw [← hB6] at hn6 z0 z1 z2 z3 z4 f3 f4 hWlt hww ⊢
  have HB6 := Lib.hid hB6
  have HN6 := Lib.hid hn6
  have HE6 := Lib.hid hE6
  clear hW6 hB6 hn6 hE6 hlo
  go_upto_region 6 with (fail)
  obtain ⟨W7, hW7⟩ : ∃ W7, W7 = (W6.setCell ⟨B6, 4, none⟩ (.int .i64 (S.changes + cg))).setCell ⟨B6, 3, none⟩ (.slice r3 K d3) := ⟨_, rfl⟩
  have hbut : But B6 W6 W7 := by rw [hW7]; exact (setCell_but W6 B6 4 _).trans (setCell_but _ B6 3 _)
  have hn7 : W7.heap[B6]? = some (.cells #[.slice r0 S.boxes.length d0, .slice r1 S.stock.length d1, .slice r2 S.earn.length d2, .slice r3 K d3, .int .i64 (S.changes + cg)] 26 (0, 0)) := by
    rw [hW7]; exact heap_set (heap_set HN6.out rfl) rfl
  rw [← hW7]
  have hE7 : Ext W W7 := (x4.h.trans HE6.out).trans' (hbut.below hWlt)
  have HCO7 := Lib.hid (CloneOwn.high HCO.out HCO6.out hbut (by have := HB6.out; omega))
  have HN7 := Lib.hid hn7
  obtain ⟨x7, hx7⟩ := ExtW.of hE7
  rw [hx7] at HCO7 HN7 hn7 ⊢
  have z1' := cell_of_heap hn7 1
  have z0' := cell_of_heap hn7 0
  have z2' := cell_of_heap hn7 2
  simp at z1' z0' z2'
  clear hW7 hbut hE7 hx7 z0 z1 z2 z3 z4 f3 f4 a2 a3 hn7 HCO6 HN6
  have t0 : x7.w.cell? ⟨w.heap.size + 1, 0, none⟩ = some (.int .i64 ti) := y0 x7
  have t1 : x7.w.cell? ⟨w.heap.size + 1, 1, none⟩ = some (.int .i64 co) := y1 x7
  have t2 : x7.w.cell? ⟨w.heap.size + 1, 2, none⟩ = some (.int .i64 bx) := y2 x7
  have t3 : x7.w.cell? ⟨w.heap.size + 1, 3, none⟩ = some (.int .i64 ea) := y3 x7
  by_cases hA1 : ti < 0
  · have e1 : decide ((0 : Int) ≤ ti) = false := by simp; omega
    go_upto_region 10 with (fail)
    obtain ⟨O, hO'⟩ : ∃ O, O = ({ S with keeps := S.keeps.take K, changes := S.changes + cg } : Swap) := ⟨_, rfl⟩
    have hmo : MoreS S O := by rw [hO']; exact moreA HS.out cg K n3
    have hsvo := swap_cut (c := S.changes + cg) HCO7.out.swap hKl
    rw [show ({ S with keeps := S.keeps.take K, changes := S.changes + cg } : Swap) = O from hO'.symm] at hsvo
    have hnc := HN7.out
    obtain ⟨xc, hxc⟩ : ∃ xc : ExtW W, xc = x7 := ⟨_, rfl⟩
    rw [← hxc] at hsvo hnc ⊢
    clear hO' hxc t0 t1 t2 t3 z0' z1' z2'
    have HMOR := Lib.hid hmo
    have HSVO := Lib.hid hsvo
    have o0 := ExtW.cell (v := .slice r0 S.boxes.length d0) (cell_of_heap hnc 0)
    have o1 := ExtW.cell (v := .slice r1 S.stock.length d1) (cell_of_heap hnc 1)
    have o2 := ExtW.cell (v := .slice r2 S.earn.length d2) (cell_of_heap hnc 2)
    have o3 := ExtW.cell (v := .slice r3 K d3) (cell_of_heap hnc 3)
    have o4 := ExtW.cell (v := .int .i64 (S.changes + cg)) (cell_of_heap hnc 4)
    have s0 : ∀ x : ExtW xc.w, x.w.cell? ⟨w.heap.size, 0, none⟩ = some (.slice p0 S.boxes.length c0) := fun x => q0 ⟨x.w, xc.h.trans x.h⟩
    have s1 : ∀ x : ExtW xc.w, x.w.cell? ⟨w.heap.size, 1, none⟩ = some (.slice p1 S.stock.length c1) := fun x => q1 ⟨x.w, xc.h.trans x.h⟩
    have s2 : ∀ x : ExtW xc.w, x.w.cell? ⟨w.heap.size, 2, none⟩ = some (.slice p2 S.earn.length c2) := fun x => q2 ⟨x.w, xc.h.trans x.h⟩
    have s3 : ∀ x : ExtW xc.w, x.w.cell? ⟨w.heap.size, 3, none⟩ = some (.slice p3 S.keeps.length c3) := fun x => q3 ⟨x.w, xc.h.trans x.h⟩
    have s4 : ∀ x : ExtW xc.w, x.w.cell? ⟨w.heap.size, 4, none⟩ = some (.int .i64 S.changes) := fun x => q4 ⟨x.w, xc.h.trans x.h⟩
    have HWT := Lib.hid (fun x : ExtW xc.w => ExtW.call (works07 x.w))
    have HEW := Lib.hid (hE.trans xc.h)
    have HRO0 := fun x : ExtW xc.w => ExtW.call (ready07 _ O x.w (SwapV.mono _ _ _ _ x.h HSVO.out) (more_big HS.out HMOR.out))
    have HSS := Lib.hid (fun x : ExtW xc.w => SwapV.mono _ _ _ _ (HEW.out.trans x.h) HV.out)
    obtain ⟨y0', hy0'⟩ := ExtW.of (Ext.refl xc.w)
    clear q0 q1 q2 q3 q4 y0 y1 y2 y3 y4 y5 hnc hmo hsvo HW HR HCO HCO7 HN7
    conv => arg 5; rw [hy0']
    clear hy0'
    by_cases hRO : Ready O
    case neg =>
      rw [bP_f hRO] at HRO0
      have HRO := Lib.hid HRO0
      clear HRO0 hRO
      go_wp2_with fail
      refine (HRO.out _).mono ?_
      rintro e _ ⟨rfl, z1, rfl⟩
      go_wp2_with fail
      refine (HWT.out _).mono ?_
      rintro e _ ⟨rfl, z2, rfl⟩
      go_wp2
      go_ret
      exact RetE.fin (HEW.out.trans z2.h) rfl
    rw [bP_t hRO] at HRO0
    have HRO := Lib.hid HRO0
    obtain ⟨hO, -, -⟩ := hRO
    have HO := Lib.hid hO
    have hbest := more_best HS.out hO HMOR.out
    obtain ⟨F1, F2, fe, hf1, hf2, hf3, hf4⟩ := fair_pair HS.out hO HMOR.out
    have HB10 : ∀ x : ExtW xc.w, _ := fun x : ExtW xc.w => ExtW.call (Best07 _ S x.w (HSS.out x) (modest_of_valid HS.out))
    have HB20 : ∀ x : ExtW xc.w, _ := fun x : ExtW xc.w => ExtW.call (Best07 _ O x.w (SwapV.mono _ _ _ _ x.h HSVO.out) (modest_of_valid HO.out))
    have HF10 : ∀ x : ExtW xc.w, _ := fun x : ExtW xc.w => ExtW.call (Fair07 _ S x.w (HSS.out x) (modest_of_valid HS.out))
    have HF20 : ∀ x : ExtW xc.w, _ := fun x : ExtW xc.w => ExtW.call (Fair07 _ O x.w (SwapV.mono _ _ _ _ x.h HSVO.out) (modest_of_valid HO.out))
    have HN10 : ∀ x : ExtW xc.w, _ := fun x : ExtW xc.w => ExtW.call (Fewest07 _ S goal x.w (HSS.out x) (modest_of_valid HS.out))
    have HN20 : ∀ x : ExtW xc.w, _ := fun x : ExtW xc.w => ExtW.call (Fewest07 _ O goal x.w (SwapV.mono _ _ _ _ x.h HSVO.out) (modest_of_valid HO.out))
    rw [ansV_t HS.out] at HB10
    rw [ansV_t HO.out] at HB20
    rw [hf1] at HF10
    rw [hf2] at HF20
    obtain ⟨m1, hm1'⟩ : ∃ m, m = bestN (openV S) := ⟨_, rfl⟩
    obtain ⟨m2, hm2'⟩ : ∃ m, m = bestN (openV O) := ⟨_, rfl⟩
    rw [← hm1'] at HB10 hbest
    rw [← hm2'] at HB20 hbest
    have HB1 := Lib.hid HB10
    have HB2 := Lib.hid HB20
    have HF1 := Lib.hid HF10
    have HF2 := Lib.hid HF20
    have HKF := Lib.hid (fun (x : ExtW xc.w) => ExtW.call (known07 fe hf4 x.w))
    have hbest' : decide (m1 ≤ m2) = true := by simpa using hbest
    have hfair' : decide (F1 ≤ F2) = true := by simpa using hf3
    have hfe : (fe != fe) = false := by simp
    clear HRO0 hO HB10 HB20 HF10 HF20 hf1 hf2 hf3 hf4 hm1' hm2' hbest
    rcases few_pair HS.out HO.out HMOR.out goal B2.out B3.out with ⟨n1', n2', hn1, hn2, hn3, hn4⟩ | ⟨n2', j, hn1, hn2, hn3⟩
    · rw [hn1] at HN10
      rw [hn2] at HN20
      have HN1 := Lib.hid HN10
      have HN2 := Lib.hid HN20
      have HK1 := Lib.hid (fun (x : ExtW xc.w) => ExtW.call (known07 0 (Or.inl rfl) x.w))
      have HK2 := HK1
      have hk3 : decide (0 ≤ n2') = true := by simpa using hn3
      have hk4 : decide (n2' ≤ n1') = true := by simpa using hn4
      clear HN10 HN20 hn1 hn2 hn3 hn4
      go_wp2_with fail
      refine (HRO.out _).mono ?_
      rintro e _ ⟨rfl, z1, rfl⟩
      go_wp2_with fail
      refine (HB1.out _).mono ?_
      rintro e _ ⟨rfl, z1, rfl⟩
      go_wp2_with fail
      refine (HB2.out _).mono ?_
      rintro e _ ⟨rfl, z1, rfl⟩
      go_wp2_with fail
      refine (HF1.out _).mono ?_
      rintro e _ ⟨rfl, z1, rfl⟩
      go_wp2_with fail
      refine (HF2.out _).mono ?_
      rintro e _ ⟨rfl, z1, rfl⟩
      go_wp2_with fail
      refine (HN1.out _).mono ?_
      rintro e _ ⟨rfl, z1, rfl⟩
      go_wp2_with fail
      refine (HN2.out _).mono ?_
      rintro e _ ⟨rfl, z1, rfl⟩
      go_wp2_with fail
      refine (HKF.out _).mono ?_
      rintro e _ ⟨rfl, z1, rfl⟩
      go_wp2_with fail
      refine (HK1.out _).mono ?_
      rintro e _ ⟨rfl, z1, rfl⟩
      go_wp2_with fail
      refine (HK2.out _).mono ?_
      rintro e _ ⟨rfl, z1, rfl⟩
      go_wp2_with fail
      refine (HWT.out _).mono ?_
      rintro e _ ⟨rfl, z1, rfl⟩
      go_wp2
      go_ret
      exact RetE.fin (HEW.out.trans z1.h) rfl
    · rw [hn1] at HN10
      rw [hn2] at HN20
      have HN1 := Lib.hid HN10
      have HN2 := Lib.hid HN20
      have HK1 := Lib.hid (fun (x : ExtW xc.w) => ExtW.call (known07 3 (Or.inr rfl) x.w))
      have HK2 := Lib.hid (fun (x : ExtW xc.w) => ExtW.call (known07 j hn3 x.w))
      clear HN10 HN20 hn1 hn2 hn3
      go_wp2_with fail
      refine (HRO.out _).mono ?_
      rintro e _ ⟨rfl, z1, rfl⟩
      go_wp2_with fail
      refine (HB1.out _).mono ?_
      rintro e _ ⟨rfl, z1, rfl⟩
      go_wp2_with fail
      refine (HB2.out _).mono ?_
      rintro e _ ⟨rfl, z1, rfl⟩
      go_wp2_with fail
      refine (HF1.out _).mono ?_
      rintro e _ ⟨rfl, z1, rfl⟩
      go_wp2_with fail
      refine (HF2.out _).mono ?_
      rintro e _ ⟨rfl, z1, rfl⟩
      go_wp2_with fail
      refine (HN1.out _).mono ?_
      rintro e _ ⟨rfl, z1, rfl⟩
      go_wp2_with fail
      refine (HN2.out _).mono ?_
      rintro e _ ⟨rfl, z1, rfl⟩
      go_wp2_with fail
      refine (HKF.out _).mono ?_
      rintro e _ ⟨rfl, z1, rfl⟩
      go_wp2_with fail
      refine (HK1.out _).mono ?_
      rintro e _ ⟨rfl, z1, rfl⟩
      go_wp2_with fail
      refine (HK2.out _).mono ?_
      rintro e _ ⟨rfl, z1, rfl⟩
      go_wp2_with fail
      refine (HWT.out _).mono ?_
      rintro e _ ⟨rfl, z1, rfl⟩
      go_wp2
      go_ret
      exact RetE.fin (HEW.out.trans z1.h) rfl
  by_cases hA2 : (S.stock.length : Int) ≤ ti
  · have e1 : decide ((0 : Int) ≤ ti) = true := by simp; omega
    have e2 : decide (ti < (S.stock.length : Int)) = false := by simp; omega
    go_upto_region 10 with (fail)
    obtain ⟨O, hO'⟩ : ∃ O, O = ({ S with keeps := S.keeps.take K, changes := S.changes + cg } : Swap) := ⟨_, rfl⟩
    have hmo : MoreS S O := by rw [hO']; exact moreA HS.out cg K n3
    have hsvo := swap_cut (c := S.changes + cg) HCO7.out.swap hKl
    rw [show ({ S with keeps := S.keeps.take K, changes := S.changes + cg } : Swap) = O from hO'.symm] at hsvo
    have hnc := HN7.out
    obtain ⟨xc, hxc⟩ : ∃ xc : ExtW W, xc = x7 := ⟨_, rfl⟩
    rw [← hxc] at hsvo hnc ⊢
    clear hO' hxc t0 t1 t2 t3 z0' z1' z2'
    have HMOR := Lib.hid hmo
    have HSVO := Lib.hid hsvo
    have o0 := ExtW.cell (v := .slice r0 S.boxes.length d0) (cell_of_heap hnc 0)
    have o1 := ExtW.cell (v := .slice r1 S.stock.length d1) (cell_of_heap hnc 1)
    have o2 := ExtW.cell (v := .slice r2 S.earn.length d2) (cell_of_heap hnc 2)
    have o3 := ExtW.cell (v := .slice r3 K d3) (cell_of_heap hnc 3)
    have o4 := ExtW.cell (v := .int .i64 (S.changes + cg)) (cell_of_heap hnc 4)
    have s0 : ∀ x : ExtW xc.w, x.w.cell? ⟨w.heap.size, 0, none⟩ = some (.slice p0 S.boxes.length c0) := fun x => q0 ⟨x.w, xc.h.trans x.h⟩
    have s1 : ∀ x : ExtW xc.w, x.w.cell? ⟨w.heap.size, 1, none⟩ = some (.slice p1 S.stock.length c1) := fun x => q1 ⟨x.w, xc.h.trans x.h⟩
    have s2 : ∀ x : ExtW xc.w, x.w.cell? ⟨w.heap.size, 2, none⟩ = some (.slice p2 S.earn.length c2) := fun x => q2 ⟨x.w, xc.h.trans x.h⟩
    have s3 : ∀ x : ExtW xc.w, x.w.cell? ⟨w.heap.size, 3, none⟩ = some (.slice p3 S.keeps.length c3) := fun x => q3 ⟨x.w, xc.h.trans x.h⟩
    have s4 : ∀ x : ExtW xc.w, x.w.cell? ⟨w.heap.size, 4, none⟩ = some (.int .i64 S.changes) := fun x => q4 ⟨x.w, xc.h.trans x.h⟩
    have HWT := Lib.hid (fun x : ExtW xc.w => ExtW.call (works07 x.w))
    have HEW := Lib.hid (hE.trans xc.h)
    have HRO0 := fun x : ExtW xc.w => ExtW.call (ready07 _ O x.w (SwapV.mono _ _ _ _ x.h HSVO.out) (more_big HS.out HMOR.out))
    have HSS := Lib.hid (fun x : ExtW xc.w => SwapV.mono _ _ _ _ (HEW.out.trans x.h) HV.out)
    obtain ⟨y0', hy0'⟩ := ExtW.of (Ext.refl xc.w)
    clear q0 q1 q2 q3 q4 y0 y1 y2 y3 y4 y5 hnc hmo hsvo HW HR HCO HCO7 HN7
    conv => arg 5; rw [hy0']
    clear hy0'
    by_cases hRO : Ready O
    case neg =>
      rw [bP_f hRO] at HRO0
      have HRO := Lib.hid HRO0
      clear HRO0 hRO
      go_wp2_with fail
      refine (HRO.out _).mono ?_
      rintro e _ ⟨rfl, z1, rfl⟩
      go_wp2_with fail
      refine (HWT.out _).mono ?_
      rintro e _ ⟨rfl, z2, rfl⟩
      go_wp2
      go_ret
      exact RetE.fin (HEW.out.trans z2.h) rfl
    rw [bP_t hRO] at HRO0
    have HRO := Lib.hid HRO0
    obtain ⟨hO, -, -⟩ := hRO
    have HO := Lib.hid hO
    have hbest := more_best HS.out hO HMOR.out
    obtain ⟨F1, F2, fe, hf1, hf2, hf3, hf4⟩ := fair_pair HS.out hO HMOR.out
    have HB10 : ∀ x : ExtW xc.w, _ := fun x : ExtW xc.w => ExtW.call (Best07 _ S x.w (HSS.out x) (modest_of_valid HS.out))
    have HB20 : ∀ x : ExtW xc.w, _ := fun x : ExtW xc.w => ExtW.call (Best07 _ O x.w (SwapV.mono _ _ _ _ x.h HSVO.out) (modest_of_valid HO.out))
    have HF10 : ∀ x : ExtW xc.w, _ := fun x : ExtW xc.w => ExtW.call (Fair07 _ S x.w (HSS.out x) (modest_of_valid HS.out))
    have HF20 : ∀ x : ExtW xc.w, _ := fun x : ExtW xc.w => ExtW.call (Fair07 _ O x.w (SwapV.mono _ _ _ _ x.h HSVO.out) (modest_of_valid HO.out))
    have HN10 : ∀ x : ExtW xc.w, _ := fun x : ExtW xc.w => ExtW.call (Fewest07 _ S goal x.w (HSS.out x) (modest_of_valid HS.out))
    have HN20 : ∀ x : ExtW xc.w, _ := fun x : ExtW xc.w => ExtW.call (Fewest07 _ O goal x.w (SwapV.mono _ _ _ _ x.h HSVO.out) (modest_of_valid HO.out))
    rw [ansV_t HS.out] at HB10
    rw [ansV_t HO.out] at HB20
    rw [hf1] at HF10
    rw [hf2] at HF20
    obtain ⟨m1, hm1'⟩ : ∃ m, m = bestN (openV S) := ⟨_, rfl⟩
    obtain ⟨m2, hm2'⟩ : ∃ m, m = bestN (openV O) := ⟨_, rfl⟩
    rw [← hm1'] at HB10 hbest
    rw [← hm2'] at HB20 hbest
    have HB1 := Lib.hid HB10
    have HB2 := Lib.hid HB20
    have HF1 := Lib.hid HF10
    have HF2 := Lib.hid HF20
    have HKF := Lib.hid (fun (x : ExtW xc.w) => ExtW.call (known07 fe hf4 x.w))
    have hbest' : decide (m1 ≤ m2) = true := by simpa using hbest
    have hfair' : decide (F1 ≤ F2) = true := by simpa using hf3
    have hfe : (fe != fe) = false := by simp
    clear HRO0 hO HB10 HB20 HF10 HF20 hf1 hf2 hf3 hf4 hm1' hm2' hbest
    rcases few_pair HS.out HO.out HMOR.out goal B2.out B3.out with ⟨n1', n2', hn1, hn2, hn3, hn4⟩ | ⟨n2', j, hn1, hn2, hn3⟩
    · rw [hn1] at HN10
      rw [hn2] at HN20
      have HN1 := Lib.hid HN10
      have HN2 := Lib.hid HN20
      have HK1 := Lib.hid (fun (x : ExtW xc.w) => ExtW.call (known07 0 (Or.inl rfl) x.w))
      have HK2 := HK1
      have hk3 : decide (0 ≤ n2') = true := by simpa using hn3
      have hk4 : decide (n2' ≤ n1') = true := by simpa using hn4
      clear HN10 HN20 hn1 hn2 hn3 hn4
      go_wp2_with fail
      refine (HRO.out _).mono ?_
      rintro e _ ⟨rfl, z1, rfl⟩
      go_wp2_with fail
      refine (HB1.out _).mono ?_
      rintro e _ ⟨rfl, z1, rfl⟩
      go_wp2_with fail
      refine (HB2.out _).mono ?_
      rintro e _ ⟨rfl, z1, rfl⟩
      go_wp2_with fail
      refine (HF1.out _).mono ?_
      rintro e _ ⟨rfl, z1, rfl⟩
      go_wp2_with fail
      refine (HF2.out _).mono ?_
      rintro e _ ⟨rfl, z1, rfl⟩
      go_wp2_with fail
      refine (HN1.out _).mono ?_
      rintro e _ ⟨rfl, z1, rfl⟩
      go_wp2_with fail
      refine (HN2.out _).mono ?_
      rintro e _ ⟨rfl, z1, rfl⟩
      go_wp2_with fail
      refine (HKF.out _).mono ?_
      rintro e _ ⟨rfl, z1, rfl⟩
      go_wp2_with fail
      refine (HK1.out _).mono ?_
      rintro e _ ⟨rfl, z1, rfl⟩
      go_wp2_with fail
      refine (HK2.out _).mono ?_
      rintro e _ ⟨rfl, z1, rfl⟩
      go_wp2_with fail
      refine (HWT.out _).mono ?_
      rintro e _ ⟨rfl, z1, rfl⟩
      go_wp2
      go_ret
      exact RetE.fin (HEW.out.trans z1.h) rfl
    · rw [hn1] at HN10
      rw [hn2] at HN20
      have HN1 := Lib.hid HN10
      have HN2 := Lib.hid HN20
      have HK1 := Lib.hid (fun (x : ExtW xc.w) => ExtW.call (known07 3 (Or.inr rfl) x.w))
      have HK2 := Lib.hid (fun (x : ExtW xc.w) => ExtW.call (known07 j hn3 x.w))
      clear HN10 HN20 hn1 hn2 hn3
      go_wp2_with fail
      refine (HRO.out _).mono ?_
      rintro e _ ⟨rfl, z1, rfl⟩
      go_wp2_with fail
      refine (HB1.out _).mono ?_
      rintro e _ ⟨rfl, z1, rfl⟩
      go_wp2_with fail
      refine (HB2.out _).mono ?_
      rintro e _ ⟨rfl, z1, rfl⟩
      go_wp2_with fail
      refine (HF1.out _).mono ?_
      rintro e _ ⟨rfl, z1, rfl⟩
      go_wp2_with fail
      refine (HF2.out _).mono ?_
      rintro e _ ⟨rfl, z1, rfl⟩
      go_wp2_with fail
      refine (HN1.out _).mono ?_
      rintro e _ ⟨rfl, z1, rfl⟩
      go_wp2_with fail
      refine (HN2.out _).mono ?_
      rintro e _ ⟨rfl, z1, rfl⟩
      go_wp2_with fail
      refine (HKF.out _).mono ?_
      rintro e _ ⟨rfl, z1, rfl⟩
      go_wp2_with fail
      refine (HK1.out _).mono ?_
      rintro e _ ⟨rfl, z1, rfl⟩
      go_wp2_with fail
      refine (HK2.out _).mono ?_
      rintro e _ ⟨rfl, z1, rfl⟩
      go_wp2_with fail
      refine (HWT.out _).mono ?_
      rintro e _ ⟨rfl, z1, rfl⟩
      go_wp2
      go_ret
      exact RetE.fin (HEW.out.trans z1.h) rfl
  obtain ⟨tn, rfl⟩ := Int.eq_ofNat_of_zero_le (by omega : 0 ≤ ti)
  have htn : tn < S.stock.length := by omega
  have htn2 : tn < S.earn.length := by have := HS.out.earn; omega
  obtain ⟨b1, c1', he, -⟩ := ownsRow_at HCO7.out.s tn htn
  cases he
  obtain ⟨w1, w2⟩ := ownsRow_cell HCO7.out.s htn
  have hst := HS.out.st tn htn
  obtain ⟨sv, hsv⟩ : ∃ sv, sv = S.stock[tn] := ⟨_, rfl⟩
  rw [← hsv] at w1 hst
  have hwst : IntKind.i64.wrap (sv + co) = sv + co := IntWalk.i64_in _ (by omega)
  have HSV0 := Lib.hid hsv
  clear hsv
  have hm1 : (0 : Int) ≤ (tn : Int) := by omega
  have hm2 : (tn : Int) < (S.stock.length : Int) := by omega
  go_upto_region 7 with (fail)
  go_cut [] from 85 (fun wc => wc = (x7.w.setCell ⟨b1, tn, none⟩ (.int .i64 (sv + co))).drew)
  case first =>
    go_region_with (fail)
    all_goals
      go_wp2
      go_meet
      rfl
  case rest =>
    have hco8 := (CloneOwn.setStock (m := sv + co) HCO7.out htn).ext (Ext.drew (Ext.refl _))
    have hbl := HCO7.out.s.lt b1 rfl
    have hb1l := HCO.out.s.lt b1 rfl
    have hn8 : wc.heap[B6]? = some (.cells #[.slice r0 S.boxes.length d0, .slice (some ⟨b1, 0, none⟩) S.stock.length d1, .slice r2 S.earn.length d2, .slice r3 K d3, .int .i64 (S.changes + cg)] 26 (0, 0)) := by
      rw [hcut]
      exact heap_drew (heap_set_ne (by have := HB6.out; omega) HN7.out)
    have hE8 : Ext W wc := by
      rw [hcut]
      exact Ext.drew (x7.h.set (by omega))
    rw [← hcut] at hco8
    obtain ⟨x8, hx8⟩ := ExtW.of hE8
    rw [hx8] at hco8 hn8 ⊢
    have HCO8 := Lib.hid hco8
    have HN8 := Lib.hid hn8
    clear hcut hE8 hx8 hco8 hn8 w1 w2 hwst t0 t1 t2 t3 z0' z1' z2'
    have z0' := cell_of_heap HN8.out 0
    have z2' := cell_of_heap HN8.out 2
    simp at z0' z2'
    have t0 : x8.w.cell? ⟨w.heap.size + 1, 0, none⟩ = some (.int .i64 tn) := y0 x8
    have t2 : x8.w.cell? ⟨w.heap.size + 1, 2, none⟩ = some (.int .i64 bx) := y2 x8
    have t3 : x8.w.cell? ⟨w.heap.size + 1, 3, none⟩ = some (.int .i64 ea) := y3 x8
    by_cases hB1 : bx < 0
    · have e3 : decide ((0 : Int) ≤ bx) = false := by simp; omega
      go_upto_region 10 with (fail)
      obtain ⟨O, hO'⟩ : ∃ O, O = ({ S with stock := S.stock.set tn (S.stock[tn] + co), keeps := S.keeps.take K, changes := S.changes + cg } : Swap) := ⟨_, rfl⟩
      have hmo : MoreS S O := by rw [hO']; exact moreB HS.out cg K n3 tn htn co n1
      have hsvo := swap_cut (S := { S with stock := S.stock.set tn (sv + co) }) (c := S.changes + cg) HCO8.out.swap hKl
      rw [HSV0.out] at hsvo
      rw [show ({ S with stock := S.stock.set tn (S.stock[tn] + co), keeps := S.keeps.take K, changes := S.changes + cg } : Swap) = O from hO'.symm] at hsvo
      have hnc := HN8.out
      obtain ⟨xc, hxc⟩ : ∃ xc : ExtW W, xc = x8 := ⟨_, rfl⟩
      rw [← hxc] at hsvo hnc ⊢
      clear hO' hxc t0 t2 t3 z0' z2' HN8 HCO8
      have HMOR := Lib.hid hmo
      have HSVO := Lib.hid hsvo
      have o0 := ExtW.cell (v := .slice r0 S.boxes.length d0) (cell_of_heap hnc 0)
      have o1 := ExtW.cell (v := .slice (some ⟨b1, 0, none⟩) S.stock.length d1) (cell_of_heap hnc 1)
      have o2 := ExtW.cell (v := .slice r2 S.earn.length d2) (cell_of_heap hnc 2)
      have o3 := ExtW.cell (v := .slice r3 K d3) (cell_of_heap hnc 3)
      have o4 := ExtW.cell (v := .int .i64 (S.changes + cg)) (cell_of_heap hnc 4)
      have s0 : ∀ x : ExtW xc.w, x.w.cell? ⟨w.heap.size, 0, none⟩ = some (.slice p0 S.boxes.length c0) := fun x => q0 ⟨x.w, xc.h.trans x.h⟩
      have s1 : ∀ x : ExtW xc.w, x.w.cell? ⟨w.heap.size, 1, none⟩ = some (.slice p1 S.stock.length c1) := fun x => q1 ⟨x.w, xc.h.trans x.h⟩
      have s2 : ∀ x : ExtW xc.w, x.w.cell? ⟨w.heap.size, 2, none⟩ = some (.slice p2 S.earn.length c2) := fun x => q2 ⟨x.w, xc.h.trans x.h⟩
      have s3 : ∀ x : ExtW xc.w, x.w.cell? ⟨w.heap.size, 3, none⟩ = some (.slice p3 S.keeps.length c3) := fun x => q3 ⟨x.w, xc.h.trans x.h⟩
      have s4 : ∀ x : ExtW xc.w, x.w.cell? ⟨w.heap.size, 4, none⟩ = some (.int .i64 S.changes) := fun x => q4 ⟨x.w, xc.h.trans x.h⟩
      have HWT := Lib.hid (fun x : ExtW xc.w => ExtW.call (works07 x.w))
      have HEW := Lib.hid (hE.trans xc.h)
      have HRO0 := fun x : ExtW xc.w => ExtW.call (ready07 _ O x.w (SwapV.mono _ _ _ _ x.h HSVO.out) (more_big HS.out HMOR.out))
      have HSS := Lib.hid (fun x : ExtW xc.w => SwapV.mono _ _ _ _ (HEW.out.trans x.h) HV.out)
      obtain ⟨y0', hy0'⟩ := ExtW.of (Ext.refl xc.w)
      clear q0 q1 q2 q3 q4 y0 y1 y2 y3 y4 y5 hnc hmo hsvo HW HR HCO HCO7 HN7
      conv => arg 5; rw [hy0']
      clear hy0'
      by_cases hRO : Ready O
      case neg =>
        rw [bP_f hRO] at HRO0
        have HRO := Lib.hid HRO0
        clear HRO0 hRO
        go_wp2_with fail
        refine (HRO.out _).mono ?_
        rintro e _ ⟨rfl, z1, rfl⟩
        go_wp2_with fail
        refine (HWT.out _).mono ?_
        rintro e _ ⟨rfl, z2, rfl⟩
        go_wp2
        go_ret
        exact RetE.fin (HEW.out.trans z2.h) rfl
      rw [bP_t hRO] at HRO0
      have HRO := Lib.hid HRO0
      obtain ⟨hO, -, -⟩ := hRO
      have HO := Lib.hid hO
      have hbest := more_best HS.out hO HMOR.out
      obtain ⟨F1, F2, fe, hf1, hf2, hf3, hf4⟩ := fair_pair HS.out hO HMOR.out
      have HB10 : ∀ x : ExtW xc.w, _ := fun x : ExtW xc.w => ExtW.call (Best07 _ S x.w (HSS.out x) (modest_of_valid HS.out))
      have HB20 : ∀ x : ExtW xc.w, _ := fun x : ExtW xc.w => ExtW.call (Best07 _ O x.w (SwapV.mono _ _ _ _ x.h HSVO.out) (modest_of_valid HO.out))
      have HF10 : ∀ x : ExtW xc.w, _ := fun x : ExtW xc.w => ExtW.call (Fair07 _ S x.w (HSS.out x) (modest_of_valid HS.out))
      have HF20 : ∀ x : ExtW xc.w, _ := fun x : ExtW xc.w => ExtW.call (Fair07 _ O x.w (SwapV.mono _ _ _ _ x.h HSVO.out) (modest_of_valid HO.out))
      have HN10 : ∀ x : ExtW xc.w, _ := fun x : ExtW xc.w => ExtW.call (Fewest07 _ S goal x.w (HSS.out x) (modest_of_valid HS.out))
      have HN20 : ∀ x : ExtW xc.w, _ := fun x : ExtW xc.w => ExtW.call (Fewest07 _ O goal x.w (SwapV.mono _ _ _ _ x.h HSVO.out) (modest_of_valid HO.out))
      rw [ansV_t HS.out] at HB10
      rw [ansV_t HO.out] at HB20
      rw [hf1] at HF10
      rw [hf2] at HF20
      obtain ⟨m1, hm1'⟩ : ∃ m, m = bestN (openV S) := ⟨_, rfl⟩
      obtain ⟨m2, hm2'⟩ : ∃ m, m = bestN (openV O) := ⟨_, rfl⟩
      rw [← hm1'] at HB10 hbest
      rw [← hm2'] at HB20 hbest
      have HB1 := Lib.hid HB10
      have HB2 := Lib.hid HB20
      have HF1 := Lib.hid HF10
      have HF2 := Lib.hid HF20
      have HKF := Lib.hid (fun (x : ExtW xc.w) => ExtW.call (known07 fe hf4 x.w))
      have hbest' : decide (m1 ≤ m2) = true := by simpa using hbest
      have hfair' : decide (F1 ≤ F2) = true := by simpa using hf3
      have hfe : (fe != fe) = false := by simp
      clear HRO0 hO HB10 HB20 HF10 HF20 hf1 hf2 hf3 hf4 hm1' hm2' hbest
      rcases few_pair HS.out HO.out HMOR.out goal B2.out B3.out with ⟨n1', n2', hn1, hn2, hn3, hn4⟩ | ⟨n2', j, hn1, hn2, hn3⟩
      · rw [hn1] at HN10
        rw [hn2] at HN20
        have HN1 := Lib.hid HN10
        have HN2 := Lib.hid HN20
        have HK1 := Lib.hid (fun (x : ExtW xc.w) => ExtW.call (known07 0 (Or.inl rfl) x.w))
        have HK2 := HK1
        have hk3 : decide (0 ≤ n2') = true := by simpa using hn3
        have hk4 : decide (n2' ≤ n1') = true := by simpa using hn4
        clear HN10 HN20 hn1 hn2 hn3 hn4
        go_wp2_with fail
        refine (HRO.out _).mono ?_
        rintro e _ ⟨rfl, z1, rfl⟩
        go_wp2_with fail
        refine (HB1.out _).mono ?_
        rintro e _ ⟨rfl, z1, rfl⟩
        go_wp2_with fail
        refine (HB2.out _).mono ?_
        rintro e _ ⟨rfl, z1, rfl⟩
        go_wp2_with fail
        refine (HF1.out _).mono ?_
        rintro e _ ⟨rfl, z1, rfl⟩
        go_wp2_with fail
        refine (HF2.out _).mono ?_
        rintro e _ ⟨rfl, z1, rfl⟩
        go_wp2_with fail
        refine (HN1.out _).mono ?_
        rintro e _ ⟨rfl, z1, rfl⟩
        go_wp2_with fail
        refine (HN2.out _).mono ?_
        rintro e _ ⟨rfl, z1, rfl⟩
        go_wp2_with fail
        refine (HKF.out _).mono ?_
        rintro e _ ⟨rfl, z1, rfl⟩
        go_wp2_with fail
        refine (HK1.out _).mono ?_
        rintro e _ ⟨rfl, z1, rfl⟩
        go_wp2_with fail
        refine (HK2.out _).mono ?_
        rintro e _ ⟨rfl, z1, rfl⟩
        go_wp2_with fail
        refine (HWT.out _).mono ?_
        rintro e _ ⟨rfl, z1, rfl⟩
        go_wp2
        go_ret
        exact RetE.fin (HEW.out.trans z1.h) rfl
      · rw [hn1] at HN10
        rw [hn2] at HN20
        have HN1 := Lib.hid HN10
        have HN2 := Lib.hid HN20
        have HK1 := Lib.hid (fun (x : ExtW xc.w) => ExtW.call (known07 3 (Or.inr rfl) x.w))
        have HK2 := Lib.hid (fun (x : ExtW xc.w) => ExtW.call (known07 j hn3 x.w))
        clear HN10 HN20 hn1 hn2 hn3
        go_wp2_with fail
        refine (HRO.out _).mono ?_
        rintro e _ ⟨rfl, z1, rfl⟩
        go_wp2_with fail
        refine (HB1.out _).mono ?_
        rintro e _ ⟨rfl, z1, rfl⟩
        go_wp2_with fail
        refine (HB2.out _).mono ?_
        rintro e _ ⟨rfl, z1, rfl⟩
        go_wp2_with fail
        refine (HF1.out _).mono ?_
        rintro e _ ⟨rfl, z1, rfl⟩
        go_wp2_with fail
        refine (HF2.out _).mono ?_
        rintro e _ ⟨rfl, z1, rfl⟩
        go_wp2_with fail
        refine (HN1.out _).mono ?_
        rintro e _ ⟨rfl, z1, rfl⟩
        go_wp2_with fail
        refine (HN2.out _).mono ?_
        rintro e _ ⟨rfl, z1, rfl⟩
        go_wp2_with fail
        refine (HKF.out _).mono ?_
        rintro e _ ⟨rfl, z1, rfl⟩
        go_wp2_with fail
        refine (HK1.out _).mono ?_
        rintro e _ ⟨rfl, z1, rfl⟩
        go_wp2_with fail
        refine (HK2.out _).mono ?_
        rintro e _ ⟨rfl, z1, rfl⟩
        go_wp2_with fail
        refine (HWT.out _).mono ?_
        rintro e _ ⟨rfl, z1, rfl⟩
        go_wp2
        go_ret
        exact RetE.fin (HEW.out.trans z1.h) rfl
    by_cases hB2 : (S.boxes.length : Int) ≤ bx
    · have e3 : decide ((0 : Int) ≤ bx) = true := by simp; omega
      have e4 : decide (bx < (S.boxes.length : Int)) = false := by simp; omega
      go_upto_region 10 with (fail)
      obtain ⟨O, hO'⟩ : ∃ O, O = ({ S with stock := S.stock.set tn (S.stock[tn] + co), keeps := S.keeps.take K, changes := S.changes + cg } : Swap) := ⟨_, rfl⟩
      have hmo : MoreS S O := by rw [hO']; exact moreB HS.out cg K n3 tn htn co n1
      have hsvo := swap_cut (S := { S with stock := S.stock.set tn (sv + co) }) (c := S.changes + cg) HCO8.out.swap hKl
      rw [HSV0.out] at hsvo
      rw [show ({ S with stock := S.stock.set tn (S.stock[tn] + co), keeps := S.keeps.take K, changes := S.changes + cg } : Swap) = O from hO'.symm] at hsvo
      have hnc := HN8.out
      obtain ⟨xc, hxc⟩ : ∃ xc : ExtW W, xc = x8 := ⟨_, rfl⟩
      rw [← hxc] at hsvo hnc ⊢
      clear hO' hxc t0 t2 t3 z0' z2' HN8 HCO8
      have HMOR := Lib.hid hmo
      have HSVO := Lib.hid hsvo
      have o0 := ExtW.cell (v := .slice r0 S.boxes.length d0) (cell_of_heap hnc 0)
      have o1 := ExtW.cell (v := .slice (some ⟨b1, 0, none⟩) S.stock.length d1) (cell_of_heap hnc 1)
      have o2 := ExtW.cell (v := .slice r2 S.earn.length d2) (cell_of_heap hnc 2)
      have o3 := ExtW.cell (v := .slice r3 K d3) (cell_of_heap hnc 3)
      have o4 := ExtW.cell (v := .int .i64 (S.changes + cg)) (cell_of_heap hnc 4)
      have s0 : ∀ x : ExtW xc.w, x.w.cell? ⟨w.heap.size, 0, none⟩ = some (.slice p0 S.boxes.length c0) := fun x => q0 ⟨x.w, xc.h.trans x.h⟩
      have s1 : ∀ x : ExtW xc.w, x.w.cell? ⟨w.heap.size, 1, none⟩ = some (.slice p1 S.stock.length c1) := fun x => q1 ⟨x.w, xc.h.trans x.h⟩
      have s2 : ∀ x : ExtW xc.w, x.w.cell? ⟨w.heap.size, 2, none⟩ = some (.slice p2 S.earn.length c2) := fun x => q2 ⟨x.w, xc.h.trans x.h⟩
      have s3 : ∀ x : ExtW xc.w, x.w.cell? ⟨w.heap.size, 3, none⟩ = some (.slice p3 S.keeps.length c3) := fun x => q3 ⟨x.w, xc.h.trans x.h⟩
      have s4 : ∀ x : ExtW xc.w, x.w.cell? ⟨w.heap.size, 4, none⟩ = some (.int .i64 S.changes) := fun x => q4 ⟨x.w, xc.h.trans x.h⟩
      have HWT := Lib.hid (fun x : ExtW xc.w => ExtW.call (works07 x.w))
      have HEW := Lib.hid (hE.trans xc.h)
      have HRO0 := fun x : ExtW xc.w => ExtW.call (ready07 _ O x.w (SwapV.mono _ _ _ _ x.h HSVO.out) (more_big HS.out HMOR.out))
      have HSS := Lib.hid (fun x : ExtW xc.w => SwapV.mono _ _ _ _ (HEW.out.trans x.h) HV.out)
      obtain ⟨y0', hy0'⟩ := ExtW.of (Ext.refl xc.w)
      clear q0 q1 q2 q3 q4 y0 y1 y2 y3 y4 y5 hnc hmo hsvo HW HR HCO HCO7 HN7
      conv => arg 5; rw [hy0']
      clear hy0'
      by_cases hRO : Ready O
      case neg =>
        rw [bP_f hRO] at HRO0
        have HRO := Lib.hid HRO0
        clear HRO0 hRO
        go_wp2_with fail
        refine (HRO.out _).mono ?_
        rintro e _ ⟨rfl, z1, rfl⟩
        go_wp2_with fail
        refine (HWT.out _).mono ?_
        rintro e _ ⟨rfl, z2, rfl⟩
        go_wp2
        go_ret
        exact RetE.fin (HEW.out.trans z2.h) rfl
      rw [bP_t hRO] at HRO0
      have HRO := Lib.hid HRO0
      obtain ⟨hO, -, -⟩ := hRO
      have HO := Lib.hid hO
      have hbest := more_best HS.out hO HMOR.out
      obtain ⟨F1, F2, fe, hf1, hf2, hf3, hf4⟩ := fair_pair HS.out hO HMOR.out
      have HB10 : ∀ x : ExtW xc.w, _ := fun x : ExtW xc.w => ExtW.call (Best07 _ S x.w (HSS.out x) (modest_of_valid HS.out))
      have HB20 : ∀ x : ExtW xc.w, _ := fun x : ExtW xc.w => ExtW.call (Best07 _ O x.w (SwapV.mono _ _ _ _ x.h HSVO.out) (modest_of_valid HO.out))
      have HF10 : ∀ x : ExtW xc.w, _ := fun x : ExtW xc.w => ExtW.call (Fair07 _ S x.w (HSS.out x) (modest_of_valid HS.out))
      have HF20 : ∀ x : ExtW xc.w, _ := fun x : ExtW xc.w => ExtW.call (Fair07 _ O x.w (SwapV.mono _ _ _ _ x.h HSVO.out) (modest_of_valid HO.out))
      have HN10 : ∀ x : ExtW xc.w, _ := fun x : ExtW xc.w => ExtW.call (Fewest07 _ S goal x.w (HSS.out x) (modest_of_valid HS.out))
      have HN20 : ∀ x : ExtW xc.w, _ := fun x : ExtW xc.w => ExtW.call (Fewest07 _ O goal x.w (SwapV.mono _ _ _ _ x.h HSVO.out) (modest_of_valid HO.out))
      rw [ansV_t HS.out] at HB10
      rw [ansV_t HO.out] at HB20
      rw [hf1] at HF10
      rw [hf2] at HF20
      obtain ⟨m1, hm1'⟩ : ∃ m, m = bestN (openV S) := ⟨_, rfl⟩
      obtain ⟨m2, hm2'⟩ : ∃ m, m = bestN (openV O) := ⟨_, rfl⟩
      rw [← hm1'] at HB10 hbest
      rw [← hm2'] at HB20 hbest
      have HB1 := Lib.hid HB10
      have HB2 := Lib.hid HB20
      have HF1 := Lib.hid HF10
      have HF2 := Lib.hid HF20
      have HKF := Lib.hid (fun (x : ExtW xc.w) => ExtW.call (known07 fe hf4 x.w))
      have hbest' : decide (m1 ≤ m2) = true := by simpa using hbest
      have hfair' : decide (F1 ≤ F2) = true := by simpa using hf3
      have hfe : (fe != fe) = false := by simp
      clear HRO0 hO HB10 HB20 HF10 HF20 hf1 hf2 hf3 hf4 hm1' hm2' hbest
      rcases few_pair HS.out HO.out HMOR.out goal B2.out B3.out with ⟨n1', n2', hn1, hn2, hn3, hn4⟩ | ⟨n2', j, hn1, hn2, hn3⟩
      · rw [hn1] at HN10
        rw [hn2] at HN20
        have HN1 := Lib.hid HN10
        have HN2 := Lib.hid HN20
        have HK1 := Lib.hid (fun (x : ExtW xc.w) => ExtW.call (known07 0 (Or.inl rfl) x.w))
        have HK2 := HK1
        have hk3 : decide (0 ≤ n2') = true := by simpa using hn3
        have hk4 : decide (n2' ≤ n1') = true := by simpa using hn4
        clear HN10 HN20 hn1 hn2 hn3 hn4
        go_wp2_with fail
        refine (HRO.out _).mono ?_
        rintro e _ ⟨rfl, z1, rfl⟩
        go_wp2_with fail
        refine (HB1.out _).mono ?_
        rintro e _ ⟨rfl, z1, rfl⟩
        go_wp2_with fail
        refine (HB2.out _).mono ?_
        rintro e _ ⟨rfl, z1, rfl⟩
        go_wp2_with fail
        refine (HF1.out _).mono ?_
        rintro e _ ⟨rfl, z1, rfl⟩
        go_wp2_with fail
        refine (HF2.out _).mono ?_
        rintro e _ ⟨rfl, z1, rfl⟩
        go_wp2_with fail
        refine (HN1.out _).mono ?_
        rintro e _ ⟨rfl, z1, rfl⟩
        go_wp2_with fail
        refine (HN2.out _).mono ?_
        rintro e _ ⟨rfl, z1, rfl⟩
        go_wp2_with fail
        refine (HKF.out _).mono ?_
        rintro e _ ⟨rfl, z1, rfl⟩
        go_wp2_with fail
        refine (HK1.out _).mono ?_
        rintro e _ ⟨rfl, z1, rfl⟩
        go_wp2_with fail
        refine (HK2.out _).mono ?_
        rintro e _ ⟨rfl, z1, rfl⟩
        go_wp2_with fail
        refine (HWT.out _).mono ?_
        rintro e _ ⟨rfl, z1, rfl⟩
        go_wp2
        go_ret
        exact RetE.fin (HEW.out.trans z1.h) rfl
      · rw [hn1] at HN10
        rw [hn2] at HN20
        have HN1 := Lib.hid HN10
        have HN2 := Lib.hid HN20
        have HK1 := Lib.hid (fun (x : ExtW xc.w) => ExtW.call (known07 3 (Or.inr rfl) x.w))
        have HK2 := Lib.hid (fun (x : ExtW xc.w) => ExtW.call (known07 j hn3 x.w))
        clear HN10 HN20 hn1 hn2 hn3
        go_wp2_with fail
        refine (HRO.out _).mono ?_
        rintro e _ ⟨rfl, z1, rfl⟩
        go_wp2_with fail
        refine (HB1.out _).mono ?_
        rintro e _ ⟨rfl, z1, rfl⟩
        go_wp2_with fail
        refine (HB2.out _).mono ?_
        rintro e _ ⟨rfl, z1, rfl⟩
        go_wp2_with fail
        refine (HF1.out _).mono ?_
        rintro e _ ⟨rfl, z1, rfl⟩
        go_wp2_with fail
        refine (HF2.out _).mono ?_
        rintro e _ ⟨rfl, z1, rfl⟩
        go_wp2_with fail
        refine (HN1.out _).mono ?_
        rintro e _ ⟨rfl, z1, rfl⟩
        go_wp2_with fail
        refine (HN2.out _).mono ?_
        rintro e _ ⟨rfl, z1, rfl⟩
        go_wp2_with fail
        refine (HKF.out _).mono ?_
        rintro e _ ⟨rfl, z1, rfl⟩
        go_wp2_with fail
        refine (HK1.out _).mono ?_
        rintro e _ ⟨rfl, z1, rfl⟩
        go_wp2_with fail
        refine (HK2.out _).mono ?_
        rintro e _ ⟨rfl, z1, rfl⟩
        go_wp2_with fail
        refine (HWT.out _).mono ?_
        rintro e _ ⟨rfl, z1, rfl⟩
        go_wp2
        go_ret
        exact RetE.fin (HEW.out.trans z1.h) rfl
    obtain ⟨bn, rfl⟩ := Int.eq_ofNat_of_zero_le (by omega : 0 ≤ bx)
    have hbn : bn < S.earn[tn].length := by rw [HS.out.row tn htn2]; omega
    obtain ⟨b2, c2', he, hc2⟩ := ownsRow_at HCO8.out.e.out tn htn2
    cases he
    have hc2' : x8.w.cell? ⟨b2, tn, none⟩ = some (.slice (some ⟨g2 tn, 0, none⟩) S.earn[tn].length (k2 tn)) := by
      rw [hc2]
      simp [htn2, rowV]
    have hrow := HCO8.out.e.row tn htn2
    have eg : S.earn.getD tn [] = S.earn[tn] := getD_of_lt _ _ _ htn2
    simp only [rowV, eg] at hrow
    obtain ⟨w1, w2⟩ := ownsRow_cell hrow hbn
    have hcell := HS.out.cell tn htn2 bn hbn
    obtain ⟨ev, hev⟩ : ∃ ev, ev = S.earn[tn][bn] := ⟨_, rfl⟩
    rw [← hev] at w1 hcell
    have hwst : IntKind.i64.wrap (ev + ea) = ev + ea := IntWalk.i64_in _ (by omega)
    have HEV := Lib.hid hev
    have hl1 : (bn : Int) < (S.earn[tn].length : Int) := by omega
    have hl2 : (tn : Int) < (S.earn.length : Int) := by omega
    have hl3 : (bn : Int) < (S.boxes.length : Int) := by omega
    have hl4 : (0 : Int) ≤ (bn : Int) := by omega
    obtain ⟨ln, hln⟩ : ∃ ln, ln = S.earn[tn].length := ⟨_, rfl⟩
    have HLN := Lib.hid hln
    have HROW := Lib.hid hrow
    rw [← hln] at hc2' hl1
    clear hev hrow hc2 eg hln
    go_upto_region 9 with (fail)
    go_cut [] from 106 (fun wc => wc = (x8.w.setCell ⟨g2 tn, bn, none⟩ (.int .i64 (ev + ea))).drew)
    case first =>
      go_region_with (fail)
      all_goals
        go_wp2
        go_meet
        rfl
    case rest =>
      have hco9 := (CloneOwn.setEarn (m := ev + ea) HCO8.out htn2 hbn).ext (Ext.drew (Ext.refl _))
      have hbl2 := HCO.out.e.bd (Or.inr ⟨tn, htn2, rfl⟩)
      have hnc : wc.heap[B6]? = some (.cells #[.slice r0 S.boxes.length d0, .slice (some ⟨b1, 0, none⟩) S.stock.length d1, .slice (some ⟨b2, 0, none⟩) S.earn.length d2, .slice r3 K d3, .int .i64 (S.changes + cg)] 26 (0, 0)) := by
        rw [hcut]
        exact heap_drew (heap_set_ne (by have := HB6.out; omega) HN8.out)
      have hE9 : Ext W wc := by
        rw [hcut]
        exact Ext.drew (x8.h.set (by omega))
      rw [← hcut] at hco9
      obtain ⟨xc, hx9⟩ := ExtW.of hE9
      rw [hx9] at hco9 hnc ⊢
      obtain ⟨O, hO'⟩ : ∃ O, O = ({ S with stock := S.stock.set tn (S.stock[tn] + co), earn := S.earn.set tn (S.earn[tn].set bn (S.earn[tn][bn] + ea)), keeps := S.keeps.take K, changes := S.changes + cg } : Swap) := ⟨_, rfl⟩
      have hmo : MoreS S O := by rw [hO']; exact moreC HS.out cg K n3 tn htn co n1 htn2 bn hbn ea n2
      have hsvo0 := hco9.swap
      have hsvo : SwapV xc.w (.agg #[.slice r0 S.boxes.length d0, .slice (some ⟨b1, 0, none⟩) S.stock.length d1, .slice (some ⟨b2, 0, none⟩) S.earn.length d2, .slice r3 K d3, .int .i64 (S.changes + cg)]) O := by
        rw [hO', ← HSV0.out, ← HEV.out]
        exact swap_cut (S := { S with stock := S.stock.set tn (sv + co), earn := S.earn.set tn (S.earn[tn].set bn (ev + ea)) }) (c := S.changes + cg) hsvo0 hKl
      clear hO' hcut hE9 hx9 hco9 hsvo0 t0 t2 t3 z0' z2' HN8 HCO8 w1 w2 hwst hc2' hl1 HROW
      go_upto_region 10 with (fail)
      have HMOR := Lib.hid hmo
      have HSVO := Lib.hid hsvo
      have o0 := ExtW.cell (v := .slice r0 S.boxes.length d0) (cell_of_heap hnc 0)
      have o1 := ExtW.cell (v := .slice (some ⟨b1, 0, none⟩) S.stock.length d1) (cell_of_heap hnc 1)
      have o2 := ExtW.cell (v := .slice (some ⟨b2, 0, none⟩) S.earn.length d2) (cell_of_heap hnc 2)
      have o3 := ExtW.cell (v := .slice r3 K d3) (cell_of_heap hnc 3)
      have o4 := ExtW.cell (v := .int .i64 (S.changes + cg)) (cell_of_heap hnc 4)
      have s0 : ∀ x : ExtW xc.w, x.w.cell? ⟨w.heap.size, 0, none⟩ = some (.slice p0 S.boxes.length c0) := fun x => q0 ⟨x.w, xc.h.trans x.h⟩
      have s1 : ∀ x : ExtW xc.w, x.w.cell? ⟨w.heap.size, 1, none⟩ = some (.slice p1 S.stock.length c1) := fun x => q1 ⟨x.w, xc.h.trans x.h⟩
      have s2 : ∀ x : ExtW xc.w, x.w.cell? ⟨w.heap.size, 2, none⟩ = some (.slice p2 S.earn.length c2) := fun x => q2 ⟨x.w, xc.h.trans x.h⟩
      have s3 : ∀ x : ExtW xc.w, x.w.cell? ⟨w.heap.size, 3, none⟩ = some (.slice p3 S.keeps.length c3) := fun x => q3 ⟨x.w, xc.h.trans x.h⟩
      have s4 : ∀ x : ExtW xc.w, x.w.cell? ⟨w.heap.size, 4, none⟩ = some (.int .i64 S.changes) := fun x => q4 ⟨x.w, xc.h.trans x.h⟩
      have HWT := Lib.hid (fun x : ExtW xc.w => ExtW.call (works07 x.w))
      have HEW := Lib.hid (hE.trans xc.h)
      have HRO0 := fun x : ExtW xc.w => ExtW.call (ready07 _ O x.w (SwapV.mono _ _ _ _ x.h HSVO.out) (more_big HS.out HMOR.out))
      have HSS := Lib.hid (fun x : ExtW xc.w => SwapV.mono _ _ _ _ (HEW.out.trans x.h) HV.out)
      obtain ⟨y0', hy0'⟩ := ExtW.of (Ext.refl xc.w)
      clear q0 q1 q2 q3 q4 y0 y1 y2 y3 y4 y5 hnc hmo hsvo HW HR HCO HCO7 HN7
      conv => arg 5; rw [hy0']
      clear hy0'
      by_cases hRO : Ready O
      case neg =>
        rw [bP_f hRO] at HRO0
        have HRO := Lib.hid HRO0
        clear HRO0 hRO
        go_wp2_with fail
        refine (HRO.out _).mono ?_
        rintro e _ ⟨rfl, z1, rfl⟩
        go_wp2_with fail
        refine (HWT.out _).mono ?_
        rintro e _ ⟨rfl, z2, rfl⟩
        go_wp2
        go_ret
        exact RetE.fin (HEW.out.trans z2.h) rfl
      rw [bP_t hRO] at HRO0
      have HRO := Lib.hid HRO0
      obtain ⟨hO, -, -⟩ := hRO
      have HO := Lib.hid hO
      have hbest := more_best HS.out hO HMOR.out
      obtain ⟨F1, F2, fe, hf1, hf2, hf3, hf4⟩ := fair_pair HS.out hO HMOR.out
      have HB10 : ∀ x : ExtW xc.w, _ := fun x : ExtW xc.w => ExtW.call (Best07 _ S x.w (HSS.out x) (modest_of_valid HS.out))
      have HB20 : ∀ x : ExtW xc.w, _ := fun x : ExtW xc.w => ExtW.call (Best07 _ O x.w (SwapV.mono _ _ _ _ x.h HSVO.out) (modest_of_valid HO.out))
      have HF10 : ∀ x : ExtW xc.w, _ := fun x : ExtW xc.w => ExtW.call (Fair07 _ S x.w (HSS.out x) (modest_of_valid HS.out))
      have HF20 : ∀ x : ExtW xc.w, _ := fun x : ExtW xc.w => ExtW.call (Fair07 _ O x.w (SwapV.mono _ _ _ _ x.h HSVO.out) (modest_of_valid HO.out))
      have HN10 : ∀ x : ExtW xc.w, _ := fun x : ExtW xc.w => ExtW.call (Fewest07 _ S goal x.w (HSS.out x) (modest_of_valid HS.out))
      have HN20 : ∀ x : ExtW xc.w, _ := fun x : ExtW xc.w => ExtW.call (Fewest07 _ O goal x.w (SwapV.mono _ _ _ _ x.h HSVO.out) (modest_of_valid HO.out))
      rw [ansV_t HS.out] at HB10
      rw [ansV_t HO.out] at HB20
      rw [hf1] at HF10
      rw [hf2] at HF20
      obtain ⟨m1, hm1'⟩ : ∃ m, m = bestN (openV S) := ⟨_, rfl⟩
      obtain ⟨m2, hm2'⟩ : ∃ m, m = bestN (openV O) := ⟨_, rfl⟩
      rw [← hm1'] at HB10 hbest
      rw [← hm2'] at HB20 hbest
      have HB1 := Lib.hid HB10
      have HB2 := Lib.hid HB20
      have HF1 := Lib.hid HF10
      have HF2 := Lib.hid HF20
      have HKF := Lib.hid (fun (x : ExtW xc.w) => ExtW.call (known07 fe hf4 x.w))
      have hbest' : decide (m1 ≤ m2) = true := by simpa using hbest
      have hfair' : decide (F1 ≤ F2) = true := by simpa using hf3
      have hfe : (fe != fe) = false := by simp
      clear HRO0 hO HB10 HB20 HF10 HF20 hf1 hf2 hf3 hf4 hm1' hm2' hbest
      rcases few_pair HS.out HO.out HMOR.out goal B2.out B3.out with ⟨n1', n2', hn1, hn2, hn3, hn4⟩ | ⟨n2', j, hn1, hn2, hn3⟩
      · rw [hn1] at HN10
        rw [hn2] at HN20
        have HN1 := Lib.hid HN10
        have HN2 := Lib.hid HN20
        have HK1 := Lib.hid (fun (x : ExtW xc.w) => ExtW.call (known07 0 (Or.inl rfl) x.w))
        have HK2 := HK1
        have hk3 : decide (0 ≤ n2') = true := by simpa using hn3
        have hk4 : decide (n2' ≤ n1') = true := by simpa using hn4
        clear HN10 HN20 hn1 hn2 hn3 hn4
        go_wp2_with fail
        refine (HRO.out _).mono ?_
        rintro e _ ⟨rfl, z1, rfl⟩
        go_wp2_with fail
        refine (HB1.out _).mono ?_
        rintro e _ ⟨rfl, z1, rfl⟩
        go_wp2_with fail
        refine (HB2.out _).mono ?_
        rintro e _ ⟨rfl, z1, rfl⟩
        go_wp2_with fail
        refine (HF1.out _).mono ?_
        rintro e _ ⟨rfl, z1, rfl⟩
        go_wp2_with fail
        refine (HF2.out _).mono ?_
        rintro e _ ⟨rfl, z1, rfl⟩
        go_wp2_with fail
        refine (HN1.out _).mono ?_
        rintro e _ ⟨rfl, z1, rfl⟩
        go_wp2_with fail
        refine (HN2.out _).mono ?_
        rintro e _ ⟨rfl, z1, rfl⟩
        go_wp2_with fail
        refine (HKF.out _).mono ?_
        rintro e _ ⟨rfl, z1, rfl⟩
        go_wp2_with fail
        refine (HK1.out _).mono ?_
        rintro e _ ⟨rfl, z1, rfl⟩
        go_wp2_with fail
        refine (HK2.out _).mono ?_
        rintro e _ ⟨rfl, z1, rfl⟩
        go_wp2_with fail
        refine (HWT.out _).mono ?_
        rintro e _ ⟨rfl, z1, rfl⟩
        go_wp2
        go_ret
        exact RetE.fin (HEW.out.trans z1.h) rfl
      · rw [hn1] at HN10
        rw [hn2] at HN20
        have HN1 := Lib.hid HN10
        have HN2 := Lib.hid HN20
        have HK1 := Lib.hid (fun (x : ExtW xc.w) => ExtW.call (known07 3 (Or.inr rfl) x.w))
        have HK2 := Lib.hid (fun (x : ExtW xc.w) => ExtW.call (known07 j hn3 x.w))
        clear HN10 HN20 hn1 hn2 hn3
        go_wp2_with fail
        refine (HRO.out _).mono ?_
        rintro e _ ⟨rfl, z1, rfl⟩
        go_wp2_with fail
        refine (HB1.out _).mono ?_
        rintro e _ ⟨rfl, z1, rfl⟩
        go_wp2_with fail
        refine (HB2.out _).mono ?_
        rintro e _ ⟨rfl, z1, rfl⟩
        go_wp2_with fail
        refine (HF1.out _).mono ?_
        rintro e _ ⟨rfl, z1, rfl⟩
        go_wp2_with fail
        refine (HF2.out _).mono ?_
        rintro e _ ⟨rfl, z1, rfl⟩
        go_wp2_with fail
        refine (HN1.out _).mono ?_
        rintro e _ ⟨rfl, z1, rfl⟩
        go_wp2_with fail
        refine (HN2.out _).mono ?_
        rintro e _ ⟨rfl, z1, rfl⟩
        go_wp2_with fail
        refine (HKF.out _).mono ?_
        rintro e _ ⟨rfl, z1, rfl⟩
        go_wp2_with fail
        refine (HK1.out _).mono ?_
        rintro e _ ⟨rfl, z1, rfl⟩
        go_wp2_with fail
        refine (HK2.out _).mono ?_
        rintro e _ ⟨rfl, z1, rfl⟩
        go_wp2_with fail
        refine (HWT.out _).mono ?_
        rintro e _ ⟨rfl, z1, rfl⟩
        go_wp2
        go_ret
        exact RetE.fin (HEW.out.trans z1.h) rfl
end Go.Proofs.Ytpgjkmjejpfkmaa
