/- The walks of sum, all and fits. -/
import Derived.Test.YtpgjkmjejpfkmaaW07b
namespace Go.Proofs.Ytpgjkmjejpfkmaa
open Go.RowKit

def sumTo (V : Visit) (f : Nat → Nat) : Nat → Int
  | 0 => 0
  | k + 1 => sumTo V f k + earnTo V.S.earn (f k) k V.S.earn.length
def allTo (V : Visit) (f : Nat → Nat) : Nat → Nat
  | 0 => 0
  | k + 1 => allTo V f k + popc (dif (f k) (V.now k))
theorem popc_le (s : Nat) : popc s ≤ 6 := by
  unfold popc
  exact Nat.le_trans (List.length_filter_le _ _) (by simp)
theorem allTo_le (V : Visit) (f : Nat → Nat) : ∀ k, allTo V f k ≤ 6 * k
  | 0 => Nat.le_refl _
  | k + 1 => by have := allTo_le V f k; have := popc_le (dif (f k) (V.now k)); unfold allTo; omega
theorem earnTo_all {V : Visit} (hO : VOK V) (m k : Nat) : 0 ≤ earnTo V.S.earn m k V.S.earn.length ∧ earnTo V.S.earn m k V.S.earn.length ≤ 5994 := by
  have h := earnTo_bd hO m k V.S.earn.length (Nat.le_refl _)
  have := hO.earn
  have := hO.stock
  omega
theorem sumTo_bd {V : Visit} (hO : VOK V) (f : Nat → Nat) : ∀ k, 0 ≤ sumTo V f k ∧ sumTo V f k ≤ 5994 * k
  | 0 => by simp [sumTo]
  | k + 1 => by
    have h := sumTo_bd hO f k
    have := earnTo_all hO (f k) k
    unfold sumTo
    omega

set_option maxHeartbeats 800000 in
theorem sum07 (f : Nat → Nat) (b : Nat) (V : Visit) (w : World) (hV : VisitAt w b V) (hO : VOK V) (hf : ∀ k, k < 3 → f k < 64) :
    Calls Try.prog 59 #[.pointer (some ⟨b, 0, none⟩), pl3 f] w (RetE (.int .i64 (sumTo V f V.S.boxes.length)) w) := by
  have hb3 := hO.boxes
  have hbs : b < w.heap.size := by obtain ⟨_, _, _, _, _, _, _, _, _, _, _, h, _⟩ := hV; exact (Array.getElem?_eq_some_iff.1 h).1
  unfold pl3
  go_enter Try.func59, Try.ntmps59
  go_upto_region 2 with (fail)
  have hp := heap_new w (.cells #[.int .u64 (f 0), .int .u64 (f 1), .int .u64 (f 2)] 78)
  obtain ⟨W, hW⟩ : ∃ W, W = w.alloc (.cells #[.int .u64 (f 0), .int .u64 (f 1), .int .u64 (f 2)] 78) := ⟨_, rfl⟩
  have hE : Ext w W := by rw [hW]; exact Ext.alloc (Ext.refl w) _
  rw [← hW] at hp ⊢
  have hV1 := hV.ext hE
  obtain ⟨p0, c0, p1, c1, p2, c2, p3, c3, -, -, -, -, h0, -⟩ := hV1.facts
  have hq0 := cell_of_heap hp 0
  have hq1 := cell_of_heap hp 1
  have hq2 := cell_of_heap hp 2
  simp at hq0 hq1 hq2
  clear hW hp hV
  go_wp2
  go_loopw [5, 13] (fun n i wr => ∃ t : Nat, t ≤ V.S.boxes.length ∧ i = .int .i64 t ∧ n = .int .i64 (sumTo V f t) ∧ Ext W wr) (fun _ i _ => V.S.boxes.length - (intOf i).toNat)
  case atStart => exact ⟨0, by omega, rfl, rfl, Ext.refl _⟩
  case round =>
    obtain ⟨t, ht, rfl, rfl, hQ⟩ := hrel
    obtain ⟨hb1, hb2⟩ := sumTo_bd hO f t
    replace hq0 := hQ.cell hq0
    replace hq1 := hQ.cell hq1
    replace hq2 := hQ.cell hq2
    have hVr := hV1.ext hQ
    by_cases hlt : t < V.S.boxes.length
    · have hft := hf t (by omega)
      have HS : Hid (sumTo V f (t + 1) = sumTo V f t + earnTo V.S.earn (f t) t V.S.earn.length) := rfl
      obtain ⟨he1, he2⟩ := earnTo_all hO (f t) t
      have HC := Lib.hid (fun w1 (hE : Ext wr w1) => earns07 f t b V w1 (hVr.ext hE) hO hlt hft)
      generalize hn : sumTo V f t = n at *
      generalize hm : earnTo V.S.earn (f t) t V.S.earn.length = m at *
      clear hn hm
      clear hf hV1
      go_wp2_with (go_at_call 56; refine (HC.out _ (Ext.refl _)).mono ?_; rintro e w' ⟨rfl, hE'⟩)
      go_roundw
      case rel => exact ⟨t + 1, by omega, by go_num, by rw [HS.out], hQ.trans hE'⟩
      case measure => simp [intOf]; omega
    · obtain rfl : t = V.S.boxes.length := by omega
      go_wp2
      go_ret
      exact RetE.fin (hE.trans hQ) rfl

set_option maxHeartbeats 800000 in
theorem all07 (f : Nat → Nat) (b : Nat) (V : Visit) (w : World) (hV : VisitAt w b V) (hO : VOK V) (hf : ∀ k, k < 3 → f k < 64) :
    Calls Try.prog 58 #[.pointer (some ⟨b, 0, none⟩), pl3 f] w (RetE (.int .i64 (allTo V f V.S.boxes.length)) w) := by
  have hb3 := hO.boxes
  have hbs : b < w.heap.size := by obtain ⟨_, _, _, _, _, _, _, _, _, _, _, h, _⟩ := hV; exact (Array.getElem?_eq_some_iff.1 h).1
  unfold pl3
  go_enter Try.func58, Try.ntmps58
  go_upto_region 2 with (fail)
  have hp := heap_new w (.cells #[.int .u64 (f 0), .int .u64 (f 1), .int .u64 (f 2)] 78)
  obtain ⟨W, hW⟩ : ∃ W, W = w.alloc (.cells #[.int .u64 (f 0), .int .u64 (f 1), .int .u64 (f 2)] 78) := ⟨_, rfl⟩
  have hE : Ext w W := by rw [hW]; exact Ext.alloc (Ext.refl w) _
  rw [← hW] at hp ⊢
  have hV1 := hV.ext hE
  obtain ⟨p0, c0, p1, c1, p2, c2, p3, c3, -, -, -, -, h0, -⟩ := hV1.facts
  have hq0 := cell_of_heap hp 0
  have hq1 := cell_of_heap hp 1
  have hq2 := cell_of_heap hp 2
  simp at hq0 hq1 hq2
  clear hW hp hV
  go_wp2
  go_loopw [5, 13] (fun n i wr => ∃ t : Nat, t ≤ V.S.boxes.length ∧ i = .int .i64 t ∧ n = .int .i64 (allTo V f t) ∧ Ext W wr) (fun _ i _ => V.S.boxes.length - (intOf i).toNat)
  case atStart => exact ⟨0, by omega, rfl, rfl, Ext.refl _⟩
  case round =>
    obtain ⟨t, ht, rfl, rfl, hQ⟩ := hrel
    have hb1 := allTo_le V f t
    replace hq0 := hQ.cell hq0
    replace hq1 := hQ.cell hq1
    replace hq2 := hQ.cell hq2
    have hVr := hV1.ext hQ
    by_cases hlt : t < V.S.boxes.length
    · have hft := hf t (by omega)
      have HS : Hid (allTo V f (t + 1) = allTo V f t + popc (dif (f t) (V.now t))) := rfl
      have he1 := popc_le (dif (f t) (V.now t))
      have HC := Lib.hid (fun w1 (hE : Ext wr w1) => changes07 f t b V w1 hft (hO.now t (by omega)) (by omega) (hVr.ext hE))
      generalize hn : allTo V f t = n at *
      generalize hm : popc (dif (f t) (V.now t)) = m at *
      clear hn hm
      clear hf hV1
      go_wp2_with (go_at_call 89; refine (HC.out _ (Ext.refl _)).mono ?_; rintro e w' ⟨rfl, hE'⟩)
      go_roundw
      case rel => exact ⟨t + 1, by omega, by go_num, by rw [HS.out]; go_num, hQ.trans hE'⟩
      case measure => simp [intOf]; omega
    · obtain rfl : t = V.S.boxes.length := by omega
      go_wp2
      go_ret
      exact RetE.fin (hE.trans hQ) rfl
end Go.Proofs.Ytpgjkmjejpfkmaa
