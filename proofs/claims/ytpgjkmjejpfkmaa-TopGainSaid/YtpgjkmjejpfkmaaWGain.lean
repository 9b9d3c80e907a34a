/- The walk of TopGain. -/
import Derived.Test.YtpgjkmjejpfkmaaTB
namespace Go.Proofs.Ytpgjkmjejpfkmaa
open Go.RowKit

def mn3 (a b c : Int) : Int := if c < (if b < a then b else a) then c else (if b < a then b else a)
theorem run_min3 {P : Program} (w : World) (ts : Array TypeId) (t : TypeId) (k k' k'' : IntKind) (x y z : Int) : (Builtin.min_ ts t #[.int k x, .int k' y, .int k'' z]).run P w = .ok (.int k (mn3 x y z)) w := by
  simp [Builtin.min_, Builtin.min2, mn3]
attribute [local go_sem] run_min3

theorem Clone07e (v : Value) (S : Swap) (z : World) (hv : SwapV z v S) (h : Lens S) :
    Calls Try.prog 16 #[v] z (fun e w' => ∃ r0 d0 r1 d1 r2 d2 r3 d3, e = .returned (.agg #[.slice r0 S.boxes.length d0, .slice r1 S.stock.length d1, .slice r2 S.earn.length d2, .slice r3 S.keeps.length d3, .int .i64 S.changes]) ∧
      Ext z w' ∧ SwapV w' (.agg #[.slice r0 S.boxes.length d0, .slice r1 S.stock.length d1, .slice r2 S.earn.length d2, .slice r3 S.keeps.length d3, .int .i64 S.changes]) S) := by
  refine (Clone07 v S z hv h.b h.br h.s h.e h.er h.k).mono ?_
  rintro e w' ⟨v0, v1, v2, v3, g0, k0, g2, k2, B, rfl, hE, -, hco⟩
  obtain ⟨r0, d0, r1, d1, r2, d2, r3, d3, he, h1⟩ := hco.swap
  injection he with he
  injection he with he
  simp only [List.cons.injEq, and_true] at he
  obtain ⟨rfl, rfl, rfl, rfl⟩ := he
  exact ⟨r0, d0, r1, d1, r2, d2, r3, d3, rfl, hE, hco.swap⟩
theorem CloneLists07e (p : Option Addr) (l : List (List Int)) (c0 : Nat) (z : World) (hl : l.length ≤ 1000) (hr : ∀ i (h : i < l.length), l[i].length ≤ 1000) (hp : ListsAt z p l) :
    Calls Try.prog 30 #[.slice p l.length c0] z (fun e w' => ∃ q cap, e = .returned (.slice q l.length cap) ∧ Ext z w' ∧ ListsAt w' q l) := by
  refine (CloneLists07s p l c0 z hl hr hp).mono ?_
  rintro e w' ⟨q, cap, g, c, rfl, hE, hR⟩
  obtain ⟨q', c', he, hl'⟩ := hR.lists
  injection he with he _ _
  subst he
  exact ⟨q, cap, rfl, hE, hl'⟩
/-- what titles earn now -/
theorem EarnsNow07 (v : Value) (S : Swap) (q : Option Addr) (c : Nat) (z : World) (hv : SwapV z v S) (hS : Valid S) (hq : ListsAt z q S.boxes) :
    Calls Try.prog 35 #[v, .slice q S.boxes.length c] z (fun e w' => ∃ u, e = .returned (.tuple #[u, .int .i64 (earnsAll S S.boxes), .int .i64 0]) ∧ Ext z w') := by
  have hb := hS.boxes
  obtain ⟨hP, -⟩ := fit_boxes hS
  have hs := fit_sum hS hP
  refine (Earns07 v S q c S.boxes z hv (modest_of_valid hS) hq (by omega) (fun i h => by have := (hS.box i h).1; omega)).mono ?_
  rintro e w' (⟨-, -, u, rfl, -, hE⟩ | ⟨-, h, -⟩ | ⟨h, -⟩)
  · exact ⟨u, by rw [hs], hE⟩
  · exact absurd hP h
  · exact absurd hS h

set_option maxRecDepth 100000 in
set_option maxHeartbeats 8000000 in
theorem TopGain07 (p : Option Addr) (cs : List Cl) (cap : Nat) (loan : Int) (v : Value) (S : Swap) (w : World) (hp : ClsAt w p cs) (hl : cs.length ≤ 9223372036854775807) (hv : SwapV w v S) (hM : Big S) :
    Calls Try.prog 8 #[.agg #[.slice p cs.length cap, .int .i64 loan], v] w (RetE (.bool true) w) := by
  have HV := Lib.hid hv
  have HP := Lib.hid hp
  obtain ⟨p0, c0, p1, c1, p2, c2, p3, c3, rfl, h0, h1, h2, h3⟩ := hv
  have HL0 := Lib.hid h0
  clear h0 h1 h2 h3 hp
  go_enter Try.func8, Try.ntmps8
  go_upto_region 1 with (fail)
  have hn := heap_new1 w (.cells #[.slice p cs.length cap, .int .i64 loan] 58) (.cells #[.slice p0 S.boxes.length c0, .slice p1 S.stock.length c1, .slice p2 S.earn.length c2, .slice p3 S.keeps.length c3, .int .i64 S.changes] 26)
  have hn2 := heap_new2 w (.cells #[.slice p cs.length cap, .int .i64 loan] 58) (.cells #[.slice p0 S.boxes.length c0, .slice p1 S.stock.length c1, .slice p2 S.earn.length c2, .slice p3 S.keeps.length c3, .int .i64 S.changes] 26)
  obtain ⟨W, hW⟩ : ∃ W, W = (w.alloc (.cells #[.slice p cs.length cap, .int .i64 loan] 58)).alloc (.cells #[.slice p0 S.boxes.length c0, .slice p1 S.stock.length c1, .slice p2 S.earn.length c2, .slice p3 S.keeps.length c3, .int .i64 S.changes] 26) := ⟨_, rfl⟩
  have hE : Ext w W := by rw [hW]; exact Ext.alloc (Ext.alloc (Ext.refl w) _) _
  rw [← hW] at hn hn2 ⊢
  have y0 := ExtW.cell (v := .slice p cs.length cap) (cell_of_heap hn 0)
  have y1 := ExtW.cell (v := .int .i64 loan) (cell_of_heap hn 1)
  have q0 := ExtW.cell (v := .slice p0 S.boxes.length c0) (cell_of_heap hn2 0)
  have q1 := ExtW.cell (v := .slice p1 S.stock.length c1) (cell_of_heap hn2 1)
  have q2 := ExtW.cell (v := .slice p2 S.earn.length c2) (cell_of_heap hn2 2)
  have q3 := ExtW.cell (v := .slice p3 S.keeps.length c3) (cell_of_heap hn2 3)
  have q4 := ExtW.cell (v := .int .i64 S.changes) (cell_of_heap hn2 4)
  have HH := Lib.hid (fun x : ExtW W => ExtW.call (halved09 x.w))
  have HE0 := fun x : ExtW W => ExtW.call (even09 p cs cap loan x.w (HP.out.ext (hE.trans x.h)) hl)
  have HR0 := fun x : ExtW W => ExtW.call (Far07 _ S x.w (SwapV.mono _ _ _ _ (hE.trans x.h) HV.out) hM)
  have HSV := Lib.hid (fun x : ExtW W => SwapV.mono _ _ _ _ (hE.trans x.h) HV.out)
  have HEW := Lib.hid hE
  obtain ⟨x0, hx0⟩ := ExtW.of (Ext.refl W)
  clear hW hn hn2 hE
  conv => arg 5; rw [hx0]
  clear hx0
  by_cases hev : EvenS cs loan
  case neg =>
    rw [bP_f hev] at HE0
    have HE := Lib.hid HE0
    clear HE0 HR0 hev
    go_wp2_with fail
    refine (HE.out _).mono ?_
    rintro e _ ⟨rfl, x1, rfl⟩
    go_wp2_with fail
    refine (HH.out _).mono ?_
    rintro e _ ⟨rfl, x2, rfl⟩
    go_wp2
    go_ret
    exact RetE.fin (HEW.out.trans x2.h) rfl
  rw [bP_t hev] at HE0
  have HE := Lib.hid HE0
  have HEV := Lib.hid hev
  clear HE0 hev
  by_cases hR : FarS S
  · rw [bP_t hR] at HR0
    have HR := Lib.hid HR0
    clear hR HR0
    go_wp2_with fail
    refine (HE.out _).mono ?_
    rintro e _ ⟨rfl, x1, rfl⟩
    go_wp2_with fail
    refine (HR.out _).mono ?_
    rintro e _ ⟨rfl, x2, rfl⟩
    go_wp2_with fail
    refine (HH.out _).mono ?_
    rintro e _ ⟨rfl, x3, rfl⟩
    go_wp2
    go_ret
    exact RetE.fin (HEW.out.trans x3.h) rfl
  rw [bP_f hR] at HR0
  have HR := Lib.hid HR0
  have hwd : ¬Wide S := fun h => hR (Or.inl h)
  have HMD := Lib.hid (modest_of hwd)
  have HLS := Lib.hid (lens_of hwd)
  clear hR HR0 hwd
  have HK0 := fun x : ExtW W => ExtW.call (rCheck07 _ S x.w (HSV.out x) HMD.out)
  by_cases hS : Valid S
  case neg =>
    rw [chk_f hS] at HK0
    have HK := Lib.hid HK0
    clear HK0 hS
    go_wp2_with fail
    refine (HE.out _).mono ?_
    rintro e _ ⟨rfl, x1, rfl⟩
    go_wp2_with fail
    refine (HR.out _).mono ?_
    rintro e _ ⟨rfl, x2, rfl⟩
    go_wp2_with fail
    refine (HK.out _).mono ?_
    rintro e _ ⟨rfl, x3, rfl⟩
    go_wp2_with fail
    refine (HH.out _).mono ?_
    rintro e _ ⟨rfl, x4, rfl⟩
    go_wp2
    go_ret
    exact RetE.fin (HEW.out.trans x4.h) rfl
  rw [chk_t hS] at HK0
  have HK := Lib.hid HK0
  have HS := Lib.hid hS
  clear HK0 hS
  go_wp2_with fail
  refine (HE.out _).mono ?_
  rintro e _ ⟨rfl, x1, rfl⟩
  go_wp2_with fail
  refine (HR.out _).mono ?_
  rintro e _ ⟨rfl, x2, rfl⟩
  go_wp2_with fail
  refine (HK.out _).mono ?_
  rintro e _ ⟨rfl, x3, rfl⟩
  have HQ := Lib.hid (fun (z : World) (hz : Ext W z) => (⟨q0 ⟨z, hz⟩, q1 ⟨z, hz⟩, q2 ⟨z, hz⟩, q3 ⟨z, hz⟩, q4 ⟨z, hz⟩⟩ : z.cell? ⟨w.heap.size + 1, 0, none⟩ = some (.slice p0 S.boxes.length c0) ∧ z.cell? ⟨w.heap.size + 1, 1, none⟩ = some (.slice p1 S.stock.length c1) ∧ z.cell? ⟨w.heap.size + 1, 2, none⟩ = some (.slice p2 S.earn.length c2) ∧ z.cell? ⟨w.heap.size + 1, 3, none⟩ = some (.slice p3 S.keeps.length c3) ∧ z.cell? ⟨w.heap.size + 1, 4, none⟩ = some (.int .i64 S.changes)))
  have HCN := Lib.hid (fun (z : World) (hz : Ext W z) => Clone07e _ S z (SwapV.mono _ _ _ _ (HEW.out.trans hz) HV.out) HLS.out)
  have HCL := Lib.hid (fun (z : World) (hz : Ext W z) => CloneLists07e p0 S.boxes c0 z HLS.out.b HLS.out.br (HL0.out.ext (HEW.out.trans hz)))
  have HER := Lib.hid (fun (z : World) v (hv : SwapV z v S) q c (hq : ListsAt z q S.boxes) => EarnsNow07 v S q c z hv HS.out hq)
  obtain ⟨now, hnow⟩ : ∃ now, now = earnsAll S S.boxes := ⟨_, rfl⟩
  rw [← hnow] at HER
  have HNOW := Lib.hid hnow
  clear hnow
  have HX := Lib.hid x3.h
  go_upto_region 3 with (fail)
  go_region_held3 (fun z => z.cell? ⟨w.heap.size + 1, 0, none⟩ = some (.slice p0 S.boxes.length c0) ∧ z.cell? ⟨w.heap.size + 1, 1, none⟩ = some (.slice p1 S.stock.length c1) ∧ z.cell? ⟨w.heap.size + 1, 2, none⟩ = some (.slice p2 S.earn.length c2) ∧ z.cell? ⟨w.heap.size + 1, 3, none⟩ = some (.slice p3 S.keeps.length c3) ∧ z.cell? ⟨w.heap.size + 1, 4, none⟩ = some (.int .i64 S.changes))
    ((refine HQ.out _ ?_; repeat (first | with_reducible exact HX.out | with_reducible refine Ext.alloc ?_ _ | with_reducible refine Ext.drew ?_ | with_reducible refine Ext.trans ?_ (StpT.out (by assumption)))))
    (first
      | (go_at_call 16; refine (HCN.out _ (by repeat (first | with_reducible exact HX.out | with_reducible refine Ext.alloc ?_ _ | with_reducible refine Ext.drew ?_ | with_reducible refine Ext.trans ?_ (StpT.out (by assumption))))).mono ?_; rintro e w5 ⟨r0, d0, r1, d1, r2, d2, r3, d3, rfl, hE5, hsv5⟩; have hS5 := StpT.mk hE5; have HSV5 := Lib.hid hsv5; clear hE5 hsv5)
      | (go_at_call 30; refine (HCL.out _ (by repeat (first | with_reducible exact HX.out | with_reducible refine Ext.alloc ?_ _ | with_reducible refine Ext.drew ?_ | with_reducible refine Ext.trans ?_ (StpT.out (by assumption))))).mono ?_; rintro e w6 ⟨q6, cap6, rfl, hE6, hl6⟩; have hS6 := StpT.mk hE6; have HL6 := Lib.hid hl6; clear hE6 hl6)
      | (go_at_call 35; refine (HER.out _ _ (SwapV.mono _ _ _ _ (by repeat (first | with_reducible exact Ext.refl _ | with_reducible refine Ext.alloc ?_ _ | with_reducible refine Ext.drew ?_ | with_reducible refine Ext.trans ?_ (StpT.out (by assumption)))) HSV5.out) q6 cap6 (ListsAt.ext HL6.out (by repeat (first | with_reducible exact Ext.refl _ | with_reducible refine Ext.alloc ?_ _ | with_reducible refine Ext.drew ?_ | with_reducible refine Ext.trans ?_ (StpT.out (by assumption)))))).mono ?_; rintro e w7 ⟨u7, rfl, hE7⟩; have hS7 := StpT.mk hE7; clear hE7))
  all_goals
    have hW7 : StpT W w7 := StpT.mk (by repeat (first | with_reducible exact HX.out | with_reducible refine Ext.alloc ?_ _ | with_reducible refine Ext.drew ?_ | with_reducible refine Ext.trans ?_ (StpT.out (by assumption))))
    obtain ⟨x7, hx7⟩ := ExtW.of hW7.out
    have HBE := Lib.hid (fun (z : World) v (hv : SwapV z v S) => (ansV_t HS.out (n := bestN (openV S))) ▸ Best07 v S z hv HMD.out)
    have hpf := plan_facts HS.out (fit_boxes HS.out).1 (fit_boxes HS.out).2
    rw [← HNOW.out] at hpf
    obtain ⟨best, hbest⟩ : ∃ best, best = bestN (openV S) := ⟨_, rfl⟩
    rw [← hbest] at HBE hpf
    obtain ⟨hn0, hnb, hb18, -⟩ := hpf
    have hd1 : decide (now < 0) = false := by simp; omega
    have hd2 : decide (best < now) = false := by simp; omega
    have HD1 := Lib.hid hd1
    have HD2 := Lib.hid hd2
    have HNB := Lib.hid hnb
    have HN0 := Lib.hid hn0
    rw [hx7]
    clear hbest hW7 hS5 hS6 hS7 hx7 hd1 hd2 hb18 HSV5 HL6
    go_wp2_with fail
    refine (HCN.out _ x7.h).mono ?_
    rintro e w8 ⟨r0', d0', r1', d1', r2', d2', r3', d3', rfl, hE8, hsv8⟩
    have HC8 := Lib.hid (HBE.out w8 _ hsv8)
    obtain ⟨x8, rfl⟩ := ExtW.of (x7.h.trans hE8)
    clear hE8 hsv8
    go_wp2_with fail
    refine HC8.out.mono ?_
    rintro e w9 ⟨rfl, hE9⟩
    obtain ⟨x9, rfl⟩ := ExtW.of (x8.h.trans hE9)
    have hd1 := HD1.out
    have hd2 := HD2.out
    clear hE9 HC8
    by_cases hbig : 9999 < best
    · have hd3 : decide (9999 < best) = true := by simpa using hbig
      clear hbig
      go_wp2_with fail
      refine (HH.out _).mono ?_
      rintro e _ ⟨rfl, x10, rfl⟩
      go_wp2
      go_ret
      exact RetE.fin (HEW.out.trans x10.h) rfl
    have hd3 : decide (9999 < best) = false := by simpa using hbig
    have hok := HEV.out.1
    have hcnt := HEV.out.2
    have HWK := Lib.hid (fun (z : World) (hz : Ext W z) t (ht : 0 ≤ t ∧ t ≤ 9999) => week09 p cs cap loan t z (HP.out.ext (HEW.out.trans hz)) hok ht)
    have ok1 := runW_ok cs hok.cl (startW_ok (t := now) ⟨hn0, by omega⟩ hok.loan)
    have ok2 := runW_ok cs hok.cl (startW_ok (t := best) ⟨by omega, by omega⟩ hok.loan)
    have hmono := owner_mono hok.cl hcnt hok.loan hn0 hnb (by omega)
    have hW1 := fun (z : World) (hz : Ext W z) => HWK.out z hz now ⟨hn0, by omega⟩
    have hW2 := fun (z : World) (hz : Ext W z) => HWK.out z hz best ⟨by omega, by omega⟩
    unfold splitV at hW1 hW2
    obtain ⟨x, hx⟩ : ∃ x, x = runW cs (startW now loan) := ⟨_, rfl⟩
    obtain ⟨y, hy⟩ : ∃ y, y = runW cs (startW best loan) := ⟨_, rfl⟩
    rw [← hx] at hW1 ok1 hmono
    rw [← hy] at hW2 ok2 hmono
    have f1 := ok1.op
    have f2 := ok1.ow
    have f3 := ok1.rest
    have f4 := ok1.sum
    have g1 := ok2.op
    have g2 := ok2.ow
    have g3 := ok2.rest
    have g4 := ok2.sum
    obtain ⟨xo, hxo⟩ : ∃ xo, xo = x.op + x.rest := ⟨_, rfl⟩
    obtain ⟨yo, hyo⟩ : ∃ yo, yo = y.op + y.rest := ⟨_, rfl⟩
    obtain ⟨xw, hxw⟩ : ∃ xw, xw = x.ow := ⟨_, rfl⟩
    obtain ⟨yw, hyw⟩ : ∃ yw, yw = y.ow := ⟨_, rfl⟩
    rw [← hxo, ← hxw] at hW1
    rw [← hyo, ← hyw] at hW2
    rw [← hxw, ← hyw] at hmono
    have e1 : 0 ≤ xo ∧ 0 ≤ xw ∧ 0 ≤ yo ∧ 0 ≤ yw ∧ xo + xw = now ∧ yo + yw = best := by omega
    obtain ⟨e1, e2, e3, e4, e5, e6⟩ := e1
    have m1 : decide (0 ≤ mn3 xw xo yo) = true := by
      unfold mn3
      simp only [decide_eq_true_eq]
      split <;> split <;> omega
    have m2 : decide (xw ≤ yw) = true := by simpa using hmono
    have m3 : decide (yw ≤ best) = true := by simp; omega
    have m4 : IntKind.i64.wrap (yo + yw) = yo + yw := IntWalk.i64_in _ (by omega)
    have m5 : IntKind.i64.wrap (yo + yw - xo) = yo + yw - xo := IntWalk.i64_in _ (by omega)
    have m6 : IntKind.i64.wrap (yo + yw - xo - xw) = yo + yw - xo - xw := IntWalk.i64_in _ (by omega)
    have m7 : IntKind.i64.wrap (best - now) = best - now := IntWalk.i64_in _ (by omega)
    have m8 : (yo + yw - xo - xw == best - now) = true := by rw [beq_iff_eq]; omega
    have HPOS := Lib.hid (⟨e1, e2, e3⟩ : 0 ≤ xo ∧ 0 ≤ xw ∧ 0 ≤ yo)
    have M1 := Lib.hid m1
    have M2 := Lib.hid m2
    have M3 := Lib.hid m3
    have M4 := Lib.hid m4
    have M5 := Lib.hid m5
    have M6 := Lib.hid m6
    have M7 := Lib.hid m7
    have M8 := Lib.hid m8
    have HW1 := Lib.hid hW1
    have HW2 := Lib.hid hW2
    clear hbig hok hcnt HWK ok1 ok2 hmono hW1 hW2 hx hy f1 f2 f3 f4 g1 g2 g3 g4 hxo hyo hxw hyw e1 e2 e3 e4 e5 e6 m1 m2 m3 m4 m5 m6 m7 m8 hn0 hnb
    go_wp2_with fail
    refine (HW1.out _ x9.h).mono ?_
    rintro e w10 ⟨rfl, hE10⟩
    obtain ⟨x10, rfl⟩ := ExtW.of (x9.h.trans hE10)
    clear hE10
    go_upto_region 10 with (fail)
    obtain ⟨xr, hxr⟩ : ∃ xr, xr = x.rp := ⟨_, rfl⟩
    rw [← hxr]
    have hn11 := heap_new x10.w (.cells #[.int .i64 xo, .int .i64 xw, .int .i64 xr] 61)
    obtain ⟨W11, hW11⟩ : ∃ W11, W11 = x10.w.alloc (.cells #[.int .i64 xo, .int .i64 xw, .int .i64 xr] 61) := ⟨_, rfl⟩
    have hE11 : Ext W W11 := by rw [hW11]; exact x10.h.alloc _
    rw [← hW11] at hn11 ⊢
    obtain ⟨B1, hB1⟩ : ∃ B1, B1 = x10.w.heap.size := ⟨_, rfl⟩
    rw [← hB1] at hn11 ⊢
    have t0 := ExtW.cell (v := .int .i64 xo) (cell_of_heap hn11 0)
    have t1 := ExtW.cell (v := .int .i64 xw) (cell_of_heap hn11 1)
    have y0' : ∀ x : ExtW W11, x.w.cell? ⟨w.heap.size, 0, none⟩ = some (.slice p cs.length cap) := fun x => y0 ⟨x.w, hE11.trans x.h⟩
    have y1' : ∀ x : ExtW W11, x.w.cell? ⟨w.heap.size, 1, none⟩ = some (.int .i64 loan) := fun x => y1 ⟨x.w, hE11.trans x.h⟩
    have HW2' := Lib.hid (fun z : ExtW W11 => ExtW.call (HW2.out z.w (hE11.trans z.h)))
    have HE11 := Lib.hid (HEW.out.trans hE11)
    obtain ⟨z0, hz0⟩ := ExtW.of (Ext.refl W11)
    clear hW11 hn11 hB1 hE11 y0 y1 q0 q1 q2 q3 q4 HW1 HW2 HQ HCN HCL HER HBE hxr
    conv => arg 5; rw [hz0]
    clear hz0
    go_wp2_with fail
    refine (HW2'.out _).mono ?_
    rintro e _ ⟨rfl, z1, rfl⟩
    go_upto_region 11 with (fail)
    obtain ⟨yr, hyr⟩ : ∃ yr, yr = y.rp := ⟨_, rfl⟩
    rw [← hyr]
    have hn13 := heap_new z1.w (.cells #[.int .i64 yo, .int .i64 yw, .int .i64 yr] 61)
    obtain ⟨W13, hW13⟩ : ∃ W13, W13 = z1.w.alloc (.cells #[.int .i64 yo, .int .i64 yw, .int .i64 yr] 61) := ⟨_, rfl⟩
    have hE13 : Ext W11 W13 := by rw [hW13]; exact z1.h.alloc _
    rw [← hW13] at hn13 ⊢
    have v0 := t0 ⟨W13, hE13⟩
    have v1 := t1 ⟨W13, hE13⟩
    have u0 := cell_of_heap hn13 0
    have u1 := cell_of_heap hn13 1
    simp at u0 u1 v0 v1
    have HH13 := Lib.hid (halved09 W13)
    have HE13 := Lib.hid (HE11.out.trans hE13)
    clear hW13 hn13 hE13 hyr t0 t1 y0' y1' HW2'
    have m1 := M1.out
    have m2 := M2.out
    have m3 := M3.out
    have m4 := M4.out
    have m5 := M5.out
    have m6 := M6.out
    have m7 := M7.out
    have m8 := M8.out
    go_wp2_with fail
    all_goals first
      | (exfalso; have hpos := HPOS.out; omega)
      | (refine HH13.out.mono ?_
         rintro e w14 ⟨rfl, hE14⟩
         have HE14 := Lib.hid (HE13.out.trans hE14)
         clear hE14
         go_wp2
         go_ret
         exact RetE.fin HE14.out rfl)
end Go.Proofs.Ytpgjkmjejpfkmaa
