/- The walks of sane, holds, subset. -/
import Derived.Test.YtimelbcfaniifaaDoorXI
namespace Go.Proofs.YtimelbcfaniifaaDoor
open Go.RowKit

def saneB (lo hi : Int) : Bool := decide (0 ≤ lo) && (decide (lo ≤ hi) && decide (hi ≤ 100000))
theorem saneB_t {lo hi : Int} (h : 0 ≤ lo ∧ lo ≤ hi ∧ hi ≤ 100000) : saneB lo hi = true := by unfold saneB; simp; exact h

set_option maxRecDepth 20000 in
theorem sane04 (lo hi : Int) (w : World) (h : 0 ≤ lo ∧ lo ≤ hi ∧ hi ≤ 100000) : Calls Tryd.prog 32 #[.agg #[.int .i64 lo, .int .i64 hi]] w (RetE (.bool true) w) := by
  obtain ⟨h1, h2, h3⟩ := h
  go_enter Tryd.func32, Tryd.ntmps32
  go_upto_region 1 with (fail)
  obtain ⟨s0, hs0⟩ : ∃ s0, s0 = w.heap.size := ⟨_, rfl⟩
  generalize hW : World.alloc _ _ = W
  have m0 : W.heap[s0]? = some (.cells #[.int .i64 lo, .int .i64 hi] 39) := by rw [hs0, ← hW]; exact heap_new _ _
  have hE : Ext w W := by rw [← hW]; exact (by repeat (first | exact Ext.refl _ | assumption | refine Ext.drewN ?_ _ | refine Ext.drew ?_ | refine Ext.alloc ?_ _))
  rw [← hs0]
  have c0 : W.cell? ⟨s0, 0, none⟩ = some (.int .i64 lo) := cell_of_heap m0 0
  have c1 : W.cell? ⟨s0, 1, none⟩ = some (.int .i64 hi) := cell_of_heap m0 1
  have HE := Lib.hid hE
  clear hW m0 hE hs0
  go_wp2
  go_ret
  exact RetE.fin HE.out rfl

set_option maxRecDepth 20000 in
theorem holds04 (lo hi n : Int) (w : World) (h : lo ≤ n ∧ n ≤ hi) : Calls Tryd.prog 50 #[.agg #[.int .i64 lo, .int .i64 hi], .int .i64 n] w (RetE (.bool true) w) := by
  obtain ⟨h1, h2⟩ := h
  go_enter Tryd.func50, Tryd.ntmps50
  go_upto_region 1 with (fail)
  obtain ⟨s0, hs0⟩ : ∃ s0, s0 = w.heap.size := ⟨_, rfl⟩
  generalize hW : World.alloc _ _ = W
  have m0 : W.heap[s0]? = some (.cells #[.int .i64 lo, .int .i64 hi] 39) := by rw [hs0, ← hW]; exact heap_new _ _
  have hE : Ext w W := by rw [← hW]; exact (by repeat (first | exact Ext.refl _ | assumption | refine Ext.drewN ?_ _ | refine Ext.drew ?_ | refine Ext.alloc ?_ _))
  rw [← hs0]
  have c0 : W.cell? ⟨s0, 0, none⟩ = some (.int .i64 lo) := cell_of_heap m0 0
  have c1 : W.cell? ⟨s0, 1, none⟩ = some (.int .i64 hi) := cell_of_heap m0 1
  have HE := Lib.hid hE
  clear hW m0 hE hs0
  go_wp2
  go_ret
  exact RetE.fin HE.out rfl

set_option maxHeartbeats 800000 in
theorem subset04 (p q : Option Addr) (a b : List Int) (c d : Nat) (w : World) (ha : IntsAt w p a) (hb : IntsAt w q b) (hl : a.length ≤ b.length) (hm : b.length ≤ 2000) (hs : ∀ x ∈ a, x ∈ b) :
    Calls Tryd.prog 31 #[.slice p a.length c, .slice q b.length d] w (RetE (.bool true) w) := by
  have HA := Lib.hid ha
  have HB := Lib.hid hb
  have HS := Lib.hid hs
  have g1 : ¬(b.length : Int) < (a.length : Int) := by omega
  have g2 : ¬2000 < (b.length : Int) := by omega
  clear ha hb hs
  go_enter Tryd.func31, Tryd.ntmps31
  go_upto_region 3 with (fail)
  clear g1 g2
  go_wp2
  go_loopw [5] (fun i wr => ∃ k : Nat, k ≤ a.length ∧ i = .int .i64 k ∧ ∃ x : ExtW w, wr = x.w) (fun i _ => a.length - (intOf i).toNat)
  case atStart => exact ⟨0, Nat.zero_le _, rfl, ⟨w, Ext.refl _⟩, rfl⟩
  case round =>
    obtain ⟨k, hk, rfl, x, rfl⟩ := hrel
    by_cases hlt : k < a.length
    · have hlt' : (k : Int) < (a.length : Int) := by omega
      obtain ⟨bb, o, rfl, hc⟩ := HA.out.at k hlt
      have hcx := ExtW.cell hc
      have hin := fun x : ExtW w => ExtW.callX (x := x) (in04 q b d a[k] x.w (by omega) (HB.out.ext x.h))
      rw [(inL_iff b a[k]).2 (HS.out _ (List.getElem_mem hlt))] at hin
      have HIN := Lib.hid hin
      clear hc hin
      go_wp2_with (go_at_call 20; refine (HIN.out _).mono ?_; rintro e w2 ⟨rfl, x3, rfl, -⟩)
      go_roundw
      case rel => exact ⟨k + 1, by omega, by simp, x3, rfl⟩
      case measure => simp [intOf]; omega
    · obtain rfl : k = a.length := by omega
      go_wp2
      go_ret
      exact RetE.fin x.h rfl
end Go.Proofs.YtimelbcfaniifaaDoor
