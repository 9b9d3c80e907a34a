
/- The walk of Same, of equal meters. -/
import Derived.Test.YtaoamnhchidjfaaGreatDoorQ8a
namespace Go.Proofs.YtaoamnhchidjfaaGreatDoor
open Go.RowKit

set_option maxRecDepth 20000 in
set_option maxHeartbeats 3200000 in
theorem same04 (M : Mt) (hb1 : M.weeks.length ≤ 1000) (hb2 : M.reads.length ≤ 1000) (u v : Value) (w : World) (hu : MtV w u M) (hv : MtV w v M) :
    Calls Tryz.prog 71 #[u, v] w (RetE (.bool true) w) := by
  obtain ⟨p, c, qq, d, rfl, hp, hq⟩ := hu
  obtain ⟨p', c', qq', d', rfl, hp', hq'⟩ := hv
  have HP := Lib.hid (fun y (h : Ext w y) => (⟨hp.ext h, hq.ext h, hp'.ext h, hq'.ext h⟩ : PairsAt y p M.weeks ∧ PairsAt y qq M.reads ∧ PairsAt y p' M.weeks ∧ PairsAt y qq' M.reads))
  clear hp hq hp' hq'
  go_enter Tryz.func71, Tryz.ntmps71
  go_upto_region 1 with (fail)
  obtain ⟨s0, hs0⟩ : ∃ s0, s0 = w.heap.size := ⟨_, rfl⟩
  obtain ⟨W, hW⟩ : ∃ W, W = (w.alloc (.cells #[.slice p M.weeks.length c, .slice qq M.reads.length d, .int .i64 M.wrong] 55)).alloc (.cells #[.slice p' M.weeks.length c', .slice qq' M.reads.length d', .int .i64 M.wrong] 55) := ⟨_, rfl⟩
  have m0 : W.heap[s0]? = some (.cells #[.slice p M.weeks.length c, .slice qq M.reads.length d, .int .i64 M.wrong] 55) := by rw [hs0]; exact heap_at0 (by rw [hW]; exact (by repeat (first | exact Ext.refl _ | assumption | refine Ext.drewN ?_ _ | refine Ext.drew ?_ | refine Ext.alloc ?_ _)))
  have m1 : W.heap[s0 + 1]? = some (.cells #[.slice p' M.weeks.length c', .slice qq' M.reads.length d', .int .i64 M.wrong] 55) := by rw [hs0, hW]; exact heap_new2 _ _ _
  have hE : Ext w W := by rw [hW]; exact (by repeat (first | exact Ext.refl _ | assumption | refine Ext.drewN ?_ _ | refine Ext.drew ?_ | refine Ext.alloc ?_ _))
  rw [← hs0, ← hW]
  have a0 := ExtW.cell (v := .slice p M.weeks.length c) (cell_of_heap m0 0)
  have a1 := ExtW.cell (v := .slice qq M.reads.length d) (cell_of_heap m0 1)
  have a2 := ExtW.cell (v := .int .i64 M.wrong) (cell_of_heap m0 2)
  have b0 := ExtW.cell (v := .slice p' M.weeks.length c') (cell_of_heap m1 0)
  have b1 := ExtW.cell (v := .slice qq' M.reads.length d') (cell_of_heap m1 1)
  have b2 := ExtW.cell (v := .int .i64 M.wrong) (cell_of_heap m1 2)
  have HE := Lib.hid hE
  obtain ⟨x0, hx0⟩ := ExtW.of (Ext.refl W)
  clear hW m0 m1 hE hs0
  conv => arg 5; rw [hx0]
  clear hx0
  go_wp2
  go_loopw [5] (fun i wr => ∃ k : Nat, k ≤ M.weeks.length ∧ i = .int .i64 k ∧ ∃ x : ExtW W, wr = x.w) (fun i _ => M.weeks.length - (intOf i).toNat)
  case atStart => exact ⟨0, Nat.zero_le _, rfl, x0, rfl⟩
  case round =>
    obtain ⟨k, hk, rfl, x, rfl⟩ := hrel
    by_cases hlt : k < M.weeks.length
    · have hlt' : (k : Int) < (M.weeks.length : Int) := by omega
      obtain ⟨h1, -, h2, -⟩ := HP.out W HE.out
      obtain ⟨b, o, rfl, hc0, hc1⟩ := h1.at2 k hlt
      obtain ⟨b', o', rfl, hc0', hc1'⟩ := h2.at2 k hlt
      have k0 := ExtW.cell hc0
      have k1 := ExtW.cell hc1
      have k2 := ExtW.cell hc0'
      have k3 := ExtW.cell hc1'
      clear h1 h2 hc0 hc1 hc0' hc1'
      go_upto_region 6 with (fail)
      refine wp_region_extW (by kernel_rfl) (by kernel_rfl) ?_
      repeat (go_big_quiet_step (fail))
      refine wpQuiet_nil ?_
      rintro _ ⟨x2, rfl⟩
      go_wp2
      go_roundw
      case rel => exact ⟨k + 1, by omega, by simp, x2, rfl⟩
      case measure => simp [intOf]; omega
    · obtain rfl : k = M.weeks.length := by omega
      clear hlt
      go_wp2
      go_loopw [6] (fun i wr => ∃ k : Nat, k ≤ M.reads.length ∧ i = .int .i64 k ∧ ∃ x : ExtW W, wr = x.w) (fun i _ => M.reads.length - (intOf i).toNat)
      case atStart => exact ⟨0, Nat.zero_le _, rfl, x, rfl⟩
      case round =>
        obtain ⟨k, hk, rfl, x, rfl⟩ := hrel
        by_cases hlt : k < M.reads.length
        · have hlt' : (k : Int) < (M.reads.length : Int) := by omega
          obtain ⟨-, h1, -, h2⟩ := HP.out W HE.out
          obtain ⟨b, o, rfl, hc0, hc1⟩ := h1.at2 k hlt
          obtain ⟨b', o', rfl, hc0', hc1'⟩ := h2.at2 k hlt
          have k0 := ExtW.cell hc0
          have k1 := ExtW.cell hc1
          have k2 := ExtW.cell hc0'
          have k3 := ExtW.cell hc1'
          clear h1 h2 hc0 hc1 hc0' hc1'
          go_upto_region 11 with (fail)
          refine wp_region_extW (by kernel_rfl) (by kernel_rfl) ?_
          repeat (go_big_quiet_step (fail))
          refine wpQuiet_nil ?_
          rintro _ ⟨x2, rfl⟩
          go_wp2
          go_roundw
          case rel => exact ⟨k + 1, by omega, by simp, x2, rfl⟩
          case measure => simp [intOf]; omega
        · obtain rfl : k = M.reads.length := by omega
          go_wp2
          go_ret
          exact RetE.fin (HE.out.trans x.h) rfl
end Go.Proofs.YtaoamnhchidjfaaGreatDoor
