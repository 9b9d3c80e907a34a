/- The walks of same and samePlan, of equal boxes and plans. -/
import Derived.Test.YtkcilgjkdiopnaaR3d
import Derived.Deep.RegionHeld3
namespace Go.Proofs.Ytkcilgjkdiopnaa
open Go.RowKit

def zeroRc : Obj := .cells #[.int .i64 0, .int .i64 0, .int .i64 0, .slice none 0 0] 54

set_option maxRecDepth 20000 in
set_option maxHeartbeats 8000000 in
theorem same03 (u v : Value) (X : Wr) (w : World) (hu : WrV w u X) (hv : WrV w v X) (hM : ModestW X) : Calls Try.prog 26 #[u, v] w (RetE (.bool true) w) := by
  have m1 := hM.rough
  have m2 := hM.recs
  have HM := Lib.hid hM
  obtain ⟨p, c, q, d, rfl, hr, hg⟩ := hu
  obtain ⟨p', c', q', d', rfl, hr', hg'⟩ := hv
  have HG := Lib.hid hg
  have HG' := Lib.hid hg'
  have hSI := fun y (hE : Ext w y) => RetQ.bt rfl (SameInts01 p p' X.rough X.rough c c' y m1 (by omega) (hr.ext hE) (hr'.ext hE))
  have HSI := Lib.hid hSI
  clear hM hg hg' hr hr' hSI
  go_enter Try.func26, Try.ntmps26
  go_upto_region 1 with (fail)
  obtain ⟨W, hW⟩ : ∃ W, W = (w.alloc (.cells #[.int .i64 X.weeks, .int .i64 X.price, .int .i64 X.age, .int .i64 X.step, .slice p X.rough.length c, .slice q X.recs.length d] 25)).alloc (.cells #[.int .i64 X.weeks, .int .i64 X.price, .int .i64 X.age, .int .i64 X.step, .slice p' X.rough.length c', .slice q' X.recs.length d'] 25) := ⟨_, rfl⟩
  have hb0 : W.heap[w.heap.size]? = some (.cells #[.int .i64 X.weeks, .int .i64 X.price, .int .i64 X.age, .int .i64 X.step, .slice p X.rough.length c, .slice q X.recs.length d] 25) := by rw [hW]; exact heap_new1 _ _ _
  have hb1 : W.heap[w.heap.size + 1]? = some (.cells #[.int .i64 X.weeks, .int .i64 X.price, .int .i64 X.age, .int .i64 X.step, .slice p' X.rough.length c', .slice q' X.recs.length d'] 25) := by rw [hW]; exact heap_new2 _ _ _
  have hE : Ext w W := by rw [hW]; exact Ext.alloc (Ext.alloc (Ext.refl w) _) _
  rw [← hW]
  have q0 := ExtW.cell (v := .int .i64 X.weeks) (cell_of_heap hb0 0)
  have q1 := ExtW.cell (v := .int .i64 X.price) (cell_of_heap hb0 1)
  have q2 := ExtW.cell (v := .int .i64 X.age) (cell_of_heap hb0 2)
  have q3 := ExtW.cell (v := .int .i64 X.step) (cell_of_heap hb0 3)
  have q4 := ExtW.cell (v := .slice p X.rough.length c) (cell_of_heap hb0 4)
  have q5 := ExtW.cell (v := .slice q X.recs.length d) (cell_of_heap hb0 5)
  have r0 := ExtW.cell (v := .int .i64 X.weeks) (cell_of_heap hb1 0)
  have r1 := ExtW.cell (v := .int .i64 X.price) (cell_of_heap hb1 1)
  have r2 := ExtW.cell (v := .int .i64 X.age) (cell_of_heap hb1 2)
  have r3 := ExtW.cell (v := .int .i64 X.step) (cell_of_heap hb1 3)
  have r4 := ExtW.cell (v := .slice p' X.rough.length c') (cell_of_heap hb1 4)
  have r5 := ExtW.cell (v := .slice q' X.recs.length d') (cell_of_heap hb1 5)
  have HS1 := Lib.hid (fun x : ExtW W => ExtW.call (RetQ.e (HSI.out x.w (hE.trans x.h))))
  have HE := Lib.hid hE
  obtain ⟨x0, hx0⟩ := ExtW.of (Ext.refl W)
  clear hW hb0 hb1 hE HSI
  conv => arg 5; rw [hx0]
  clear hx0
  go_upto_region 3 with (go_at_call 25; refine (HS1.out _).mono ?_; rintro e w' ⟨rfl, x1, rfl⟩)
  go_wp2
  go_loopw [5] (fun i wr => ∃ k : Nat, k ≤ X.recs.length ∧ i = .int .i64 k ∧ ∃ x : ExtW W, wr = x.w) (fun i _ => X.recs.length - (intOf i).toNat)
  case atStart => exact ⟨0, Nat.zero_le _, rfl, x1, rfl⟩
  case round =>
    clear x0 x1
    obtain ⟨k, hk, rfl, x, rfl⟩ := hrel
    by_cases hlt : k < X.recs.length
    · obtain ⟨b, o, s1, d1, rfl, h0, h1, h2, h3, h4⟩ := HG.out k hlt
      obtain ⟨b', o', s2, d2, rfl, h0', h1', h2', h3', h4'⟩ := HG'.out k hlt
      have hml := HM.out.plays k hlt
      obtain ⟨r, hr⟩ : ∃ r, r = X.recs[k] := ⟨_, rfl⟩
      rw [← hr] at h0 h1 h2 h3 h4 h0' h1' h2' h3' h4' hml
      have HSR := Lib.hid (fun y (hE : Ext w y) => RetQ.bt rfl (SameInts01 s1 s2 r.plays r.plays d1 d2 y hml (by omega) (h4.ext hE) (h4'.ext hE)))
      obtain ⟨rw, hrw⟩ : ∃ n, n = r.worn := ⟨_, rfl⟩
      obtain ⟨rl, hrl⟩ : ∃ n, n = r.limit := ⟨_, rfl⟩
      obtain ⟨rp, hrp⟩ : ∃ n, n = r.price := ⟨_, rfl⟩
      obtain ⟨ln, hln⟩ : ∃ n, n = r.plays.length := ⟨_, rfl⟩
      rw [← hrw] at h0 h0'
      rw [← hrl] at h1 h1'
      rw [← hrp] at h2 h2'
      rw [← hln] at h3 h3'
      rw [← hln] at HSR
      have hkI : (k : Int) < (X.recs.length : Int) := by omega
      have hEx := HE.out.trans x.h
      have HCL := Lib.hid (fun z (hz : Ext x.w z) => (⟨hz.cell (q5 x), hz.cell (r5 x), (hEx.trans hz).cell h0, (hEx.trans hz).cell h1, (hEx.trans hz).cell h2, (hEx.trans hz).cell h3, (hEx.trans hz).cell h0', (hEx.trans hz).cell h1', (hEx.trans hz).cell h2', (hEx.trans hz).cell h3'⟩ :
        z.cell? ⟨w.heap.size, 5, none⟩ = some (.slice (some ⟨b, o, none⟩) X.recs.length d) ∧ z.cell? ⟨w.heap.size + 1, 5, none⟩ = some (.slice (some ⟨b', o', none⟩) X.recs.length d') ∧
        z.cell? ⟨b, o + k * 4, none⟩ = some (.int .i64 rw) ∧ z.cell? ⟨b, o + k * 4 + 1, none⟩ = some (.int .i64 rl) ∧ z.cell? ⟨b, o + k * 4 + 2, none⟩ = some (.int .i64 rp) ∧ z.cell? ⟨b, o + k * 4 + 3, none⟩ = some (.slice s1 ln d1) ∧
        z.cell? ⟨b', o' + k * 4, none⟩ = some (.int .i64 rw) ∧ z.cell? ⟨b', o' + k * 4 + 1, none⟩ = some (.int .i64 rl) ∧ z.cell? ⟨b', o' + k * 4 + 2, none⟩ = some (.int .i64 rp) ∧ z.cell? ⟨b', o' + k * 4 + 3, none⟩ = some (.slice s2 ln d2)))
      have HEX := Lib.hid hEx
      clear hr hrw hrl hrp hln h0 h1 h2 h3 h4 h0' h1' h2' h3' h4' hEx hml HS1
      go_upto_region 6 with (fail)
      have hlx := lt_of_cell (q0 x)
      have hlx2 := lt_of_cell (r0 x)
      have hz0 : x.w.heap.size < x.w.heap.size + 1 := by omega
      go_region_held3 (fun z => z.cell? ⟨w.heap.size, 5, none⟩ = some (.slice (some ⟨b, o, none⟩) X.recs.length d) ∧ z.cell? ⟨w.heap.size + 1, 5, none⟩ = some (.slice (some ⟨b', o', none⟩) X.recs.length d') ∧
        z.cell? ⟨b, o + k * 4, none⟩ = some (.int .i64 rw) ∧ z.cell? ⟨b, o + k * 4 + 1, none⟩ = some (.int .i64 rl) ∧ z.cell? ⟨b, o + k * 4 + 2, none⟩ = some (.int .i64 rp) ∧ z.cell? ⟨b, o + k * 4 + 3, none⟩ = some (.slice s1 ln d1) ∧
        z.cell? ⟨b', o' + k * 4, none⟩ = some (.int .i64 rw) ∧ z.cell? ⟨b', o' + k * 4 + 1, none⟩ = some (.int .i64 rl) ∧ z.cell? ⟨b', o' + k * 4 + 2, none⟩ = some (.int .i64 rp) ∧ z.cell? ⟨b', o' + k * 4 + 3, none⟩ = some (.slice s2 ln d2))
        ((refine HCL.out _ ?_; repeat (first | with_reducible exact Ext.refl _ | with_reducible refine Ext.alloc ?_ _ | with_reducible refine Ext.drew ?_ | with_reducible refine Ext.set ?_ (by simp))))
        (fail)
      all_goals
        clear hz0
        go_wp2_with (go_at_call 25; refine (HSR.out _ (HEX.out.trans (by repeat (first | with_reducible exact Ext.refl _ | with_reducible refine Ext.alloc ?_ _ | with_reducible refine Ext.drew ?_ | with_reducible refine Ext.set ?_ (by simp))))).mono ?_; rintro e w' ⟨rfl, m9, rfl⟩)
        go_roundw
        case rel => exact ⟨k + 1, by omega, by go_num, ExtW.of (x.h.trans ((Ext.alloc (Ext.alloc (Ext.refl _) _) _).trans ((Qt.refl _).drewN _).ext))⟩
        case measure => simp [intOf]; omega
    · obtain rfl : k = X.recs.length := by omega
      go_wp2
      go_ret
      exact RetE.fin (HE.out.trans x.h) rfl
set_option maxRecDepth 20000 in
set_option maxHeartbeats 8000000 in
theorem samePlan03 (p p' : Option Addr) (l : List Wk) (c c' : Nat) (w : World) (h : WksAt w p l) (h' : WksAt w p' l) (hl : l.length ≤ 100000) (hr : ∀ x ∈ l, x.recs.length ≤ 100000) :
    Calls Try.prog 27 #[.slice p l.length c, .slice p' l.length c'] w (RetE (.bool true) w) := by
  have HG := Lib.hid h
  have HG' := Lib.hid h'
  have HRL := Lib.hid hr
  clear h h' hr
  go_enter Try.func27, Try.ntmps27
  obtain ⟨x0, hx0⟩ := ExtW.of (Ext.refl w)
  conv => arg 5; rw [hx0]
  clear hx0
  go_wp2
  go_loopw [5] (fun i wr => ∃ k : Nat, k ≤ l.length ∧ i = .int .i64 k ∧ ∃ x : ExtW w, wr = x.w) (fun i _ => l.length - (intOf i).toNat)
  case atStart => exact ⟨0, Nat.zero_le _, rfl, x0, rfl⟩
  case round =>
    clear x0
    obtain ⟨k, hk, rfl, x, rfl⟩ := hrel
    by_cases hlt : k < l.length
    · obtain ⟨b, o, s1, d1, rfl, h0, h1, h4⟩ := HG.out k hlt
      obtain ⟨b', o', s2, d2, rfl, h0', h1', h4'⟩ := HG'.out k hlt
      have hml := HRL.out _ (List.getElem_mem hlt)
      obtain ⟨r, hr⟩ : ∃ r, r = l[k] := ⟨_, rfl⟩
      rw [← hr] at h0 h1 h4 h0' h1' h4' hml
      have HSR := Lib.hid (fun y : ExtW w => ExtW.call (RetQ.e (RetQ.bt rfl (SameInts01 s1 s2 r.recs r.recs d1 d2 y.w hml (by omega) (h4.ext y.h) (h4'.ext y.h)))))
      obtain ⟨rn, hrn⟩ : ∃ n, n = r.needle := ⟨_, rfl⟩
      obtain ⟨ln, hln⟩ : ∃ n, n = r.recs.length := ⟨_, rfl⟩
      rw [← hrn] at h0 h0'
      rw [← hln] at h1 h1' HSR
      have hkI : (k : Int) < (l.length : Int) := by omega
      have u0 := ExtW.cell h0
      have u1 := ExtW.cell h1
      have u0' := ExtW.cell h0'
      have u1' := ExtW.cell h1'
      clear hr hrn hln h0 h1 h4 h0' h1' h4' hml
      go_upto_region 6 with (fail)
      refine wp_region_extW (by kernel_rfl) (by kernel_rfl) ?_
      repeat (go_big_quiet_step ((go_at_call 25; exact HSR.out _)))
      refine wpQuiet_nil ?_
      rintro _ ⟨x6, rfl⟩
      go_wp2
      go_roundw
      case rel => exact ⟨k + 1, by omega, by go_num, x6, rfl⟩
      case measure => simp [intOf]; omega
    · obtain rfl : k = l.length := by omega
      go_wp2
      go_ret
      exact RetE.fin x.h rfl
end Go.Proofs.Ytkcilgjkdiopnaa
