
/- Charts: the walk of same, of equal charts. -/
import Derived.Test.YtaoamnhchidjfaaGreatDoorCE
import Derived.Test.YtaoamnhchidjfaaGreatDoorQ8g
namespace Go.Proofs.YtaoamnhchidjfaaGreatDoor
open Go.RowKit

set_option maxRecDepth 20000 in
set_option maxHeartbeats 3200000 in
theorem same06 (C : Ch) (hs : ChSm C) (u v : Value) (w : World) (hu : ChV w u C) (hv : ChV w v C) :
    Calls Tryz.prog 23 #[u, v] w (RetE (.bool true) w) := by
  obtain ⟨p, c, q, d, rfl, hp, hq⟩ := hu
  obtain ⟨p', c', q', d', rfl, hp', hq'⟩ := hv
  have HS := Lib.hid hs
  have hn20 := hs.nm
  have HP := Lib.hid (fun y (h : Ext w y) => (⟨hp.ext h, hq.ext h, hp'.ext h, hq'.ext h⟩ : MtsAt y p C.meters ∧ IntsAt y q C.extra ∧ MtsAt y p' C.meters ∧ IntsAt y q' C.extra))
  clear hp hq hp' hq' hs
  go_enter Tryz.func23, Tryz.ntmps23
  go_upto_region 1 with (fail)
  obtain ⟨s0, hs0⟩ : ∃ s0, s0 = w.heap.size := ⟨_, rfl⟩
  obtain ⟨W, hW⟩ : ∃ W, W = (w.alloc (.cells #[.slice p C.meters.length c, .slice q C.extra.length d, .int .i64 C.frm, .int .i64 C.tto] 25)).alloc (.cells #[.slice p' C.meters.length c', .slice q' C.extra.length d', .int .i64 C.frm, .int .i64 C.tto] 25) := ⟨_, rfl⟩
  have m0 : W.heap[s0]? = some (.cells #[.slice p C.meters.length c, .slice q C.extra.length d, .int .i64 C.frm, .int .i64 C.tto] 25) := by rw [hs0, hW, Below.heap_alloc _ _ _ (by rw [size_alloc]; omega)]; exact heap_new _ _
  have m1 : W.heap[s0 + 1]? = some (.cells #[.slice p' C.meters.length c', .slice q' C.extra.length d', .int .i64 C.frm, .int .i64 C.tto] 25) := by rw [hs0, hW]; exact heap_new2 _ _ _
  have hE : Ext w W := by rw [hW]; exact Ext.alloc (Ext.alloc (Ext.refl _) _) _
  rw [← hs0, ← hW]
  have a0 := ExtW.cell (v := .slice p C.meters.length c) (cell_of_heap m0 0)
  have a1 := ExtW.cell (v := .slice q C.extra.length d) (cell_of_heap m0 1)
  have a2 := ExtW.cell (v := .int .i64 C.frm) (cell_of_heap m0 2)
  have a3 := ExtW.cell (v := .int .i64 C.tto) (cell_of_heap m0 3)
  have b0 := ExtW.cell (v := .slice p' C.meters.length c') (cell_of_heap m1 0)
  have b1 := ExtW.cell (v := .slice q' C.extra.length d') (cell_of_heap m1 1)
  have b2 := ExtW.cell (v := .int .i64 C.frm) (cell_of_heap m1 2)
  have b3 := ExtW.cell (v := .int .i64 C.tto) (cell_of_heap m1 3)
  have HE := Lib.hid hE
  have HSI := Lib.hid (fun x : ExtW W => ExtW.call (by
    have h := SameInts02 q q' C.extra C.extra d d' x.w (by have := HS.out.nx; omega) (by have := HS.out.nx; omega) (HP.out _ (HE.out.trans x.h)).2.1 (HP.out _ (HE.out.trans x.h)).2.2.2
    rw [decide_eq_true rfl] at h
    exact h))
  obtain ⟨x0, hx0⟩ := ExtW.of (Ext.refl W)
  clear hW m0 m1 hE hs0
  conv => arg 5; rw [hx0]
  clear hx0
  go_wp2_with (go_at_call 22; refine (HSI.out _).mono ?_; rintro e _ ⟨rfl, x1, rfl⟩)
  go_loopw [5] (fun i wr => ∃ k : Nat, k ≤ C.meters.length ∧ i = .int .i64 k ∧ ∃ x : ExtW W, wr = x.w) (fun i _ => C.meters.length - (intOf i).toNat)
  case atStart => exact ⟨0, Nat.zero_le _, rfl, x1, rfl⟩
  case round =>
    obtain ⟨k, hk, rfl, x, rfl⟩ := hrel
    by_cases hlt : k < C.meters.length
    · have hlt' : (k : Int) < (C.meters.length : Int) := by omega
      obtain ⟨h1, -, h2, -⟩ := HP.out W HE.out
      obtain ⟨b, o, p1, d1, p2, d2, rfl, r0, r1, r2, r3, r4⟩ := h1 k hlt
      obtain ⟨b', o', p1', d1', p2', d2', rfl, r0', r1', r2', r3', r4'⟩ := h2 k hlt
      have hml := HS.out.mt _ (List.getElem_mem hlt)
      obtain ⟨M, hM⟩ : ∃ M, M = C.meters[k] := ⟨_, rfl⟩
      rw [← hM] at r0 r1 r2 r3 r4 r0' r1' r2' r3' r4' hml
      have k0 := ExtW.cell r0
      have k1 := ExtW.cell r1
      have k2 := ExtW.cell r2
      have k3 := ExtW.cell r0'
      have k4 := ExtW.cell r1'
      have k5 := ExtW.cell r2'
      have HSM := Lib.hid (fun x : ExtW W => ExtW.call (same04 M (by omega) (by omega) (.agg #[.slice p1 M.weeks.length d1, .slice p2 M.reads.length d2, .int .i64 M.wrong]) (.agg #[.slice p1' M.weeks.length d1', .slice p2' M.reads.length d2', .int .i64 M.wrong]) x.w
        ⟨p1, d1, p2, d2, rfl, r3.ext x.h, r4.ext x.h⟩ ⟨p1', d1', p2', d2', rfl, r3'.ext x.h, r4'.ext x.h⟩))
      clear h1 h2 r0 r1 r2 r3 r4 r0' r1' r2' r3' r4' hml hM
      go_upto_region 6 with (fail)
      refine wp_region_extW (by kernel_rfl) (by kernel_rfl) ?_
      repeat (go_big_quiet_step ((go_at_call 71; exact HSM.out _)))
      refine wpQuiet_nil ?_
      rintro _ ⟨x2, rfl⟩
      go_wp2
      go_roundw
      case rel => exact ⟨k + 1, by omega, by simp, x2, rfl⟩
      case measure => simp [intOf]; omega
    · obtain rfl : k = C.meters.length := by omega
      have hge : ¬(C.meters.length : Int) < (C.meters.length : Int) := by omega
      go_wp2
      go_ret
      exact RetE.fin (HE.out.trans x.h) rfl
end Go.Proofs.YtaoamnhchidjfaaGreatDoor
