/- The walks of what a visit asks of a plan: boxes, changes, all, earns, sum, fits. -/
import Derived.Test.YtpgjkmjejpfkmaaW07a
import Derived.Test.YtpgjkmjejpfkmaaSw
namespace Go.Proofs.Ytpgjkmjejpfkmaa
open Go.RowKit

/-- in how many of the first boxes a title is -/
def cntB (f : Nat → Nat) (t : Nat) : Nat → Nat
  | 0 => 0
  | k + 1 => cntB f t k + (if (f k).testBit t then 1 else 0)
theorem cntB_le (f : Nat → Nat) (t : Nat) : ∀ k, cntB f t k ≤ k
  | 0 => Nat.le_refl _
  | k + 1 => by have := cntB_le f t k; unfold cntB; split <;> omega

theorem idx3_0 (a b c : Int) (w : World) : (Instr.index 78 (.agg #[.int .u64 a, .int .u64 b, .int .u64 c]) (.int .i64 0)).run Try.prog w = .ok (.int .u64 a) w := by kernel_rfl
theorem idx3_1 (a b c : Int) (w : World) : (Instr.index 78 (.agg #[.int .u64 a, .int .u64 b, .int .u64 c]) (.int .i64 1)).run Try.prog w = .ok (.int .u64 b) w := by kernel_rfl
theorem idx3_2 (a b c : Int) (w : World) : (Instr.index 78 (.agg #[.int .u64 a, .int .u64 b, .int .u64 c]) (.int .i64 2)).run Try.prog w = .ok (.int .u64 c) w := by kernel_rfl

set_option maxHeartbeats 400000 in
theorem boxes07 (f : Nat → Nat) (t : Nat) (w : World) (hf : ∀ k, k < 3 → f k < 64) (ht2 : t < 64) :
    Calls Try.prog 86 #[pl3 f, .int .i64 t] w (RetE (.int .i64 (cntB f t 3)) w) := by
  unfold pl3
  go_enter Try.func86, Try.ntmps86
  go_wp2
  obtain ⟨W, hW⟩ : ∃ W, W = w.alloc (.cells #[.int .u64 (f 0), .int .u64 (f 1), .int .u64 (f 2)] 78) := ⟨_, rfl⟩
  have hE : Ext w W := by rw [hW]; exact Ext.alloc (Ext.refl w) _
  rw [← hW]
  clear hW
  go_loopw [5, 9] (fun n i wr => ∃ k : Nat, k ≤ 3 ∧ i = .int .i64 k ∧ n = .int .i64 (cntB f t k) ∧ Qt W wr) (fun _ i _ => 3 - (intOf i).toNat)
  case atStart => exact ⟨0, by omega, rfl, rfl, Qt.refl _⟩
  case round =>
    obtain ⟨k, hk, rfl, rfl, hQ⟩ := hrel
    by_cases hlt : k < 3
    · have hfk := hf k hlt
      have hs : Hid (cntB f t (k + 1) = cntB f t k + (if (f k).testBit t then 1 else 0)) := rfl
      have hc := cntB_le f t k
      have hcn : (3 : Nat) ≤ 3 := Nat.le_refl _
      clear hf hE
      generalize hn : cntB f t k = n at *
      have HN := Lib.hid hn
      clear hn
      obtain rfl | rfl | rfl : k = 0 ∨ k = 1 ∨ k = 2 := by omega
      all_goals
        have i0 := idx3_0 (f 0) (f 1) (f 2)
        have i1 := idx3_1 (f 0) (f 1) (f 2)
        have i2 := idx3_2 (f 0) (f 1) (f 2)
        go_wp2_with (go_at_call 88; refine (has07 _ t _ hfk ht2).mono ?_; rintro e w' ⟨rfl, m, rfl⟩)
        all_goals
          go_roundw
          case rel => first
            | exact ⟨1, by decide, rfl, by rw [show cntB f t 1 = _ from hs.out]; simp [*], (by repeat (first | exact Qt.refl _ | assumption | refine Qt.drewN ?_ _ | refine Qt.drew ?_))⟩
            | exact ⟨2, by decide, rfl, by rw [show cntB f t 2 = _ from hs.out]; simp [*], (by repeat (first | exact Qt.refl _ | assumption | refine Qt.drewN ?_ _ | refine Qt.drew ?_))⟩
            | exact ⟨3, by decide, rfl, by rw [show cntB f t 3 = _ from hs.out]; simp [*], (by repeat (first | exact Qt.refl _ | assumption | refine Qt.drewN ?_ _ | refine Qt.drew ?_))⟩
          case measure => simp [intOf]
    · obtain rfl : k = 3 := by omega
      go_wp2
      go_ret
      exact RetE.fin (hE.trans hQ.ext) rfl

/-- what of a is not in b -/
def dif (a b : Nat) : Nat := a - (a &&& b)
theorem dif_spell : ∀ a, a < 64 → ∀ b, b < 64 → a &&& (18446744073709551615 - b) = dif a b := by decide +kernel
theorem dif_lt : ∀ a, a < 64 → ∀ b, b < 64 → dif a b < 64 := by decide +kernel
theorem dif_bit : ∀ a, a < 64 → ∀ b, b < 64 → ∀ t, t < 6 → (dif a b).testBit t = (a.testBit t && !b.testBit t) := by decide +kernel
theorem bits_dif (a b : Nat) (ha : a < 64) (hb : b < 64) : bits .andNot .u64 (a : Int) (b : Int) = ((dif a b : Nat) : Int) := by
  rw [u64_andNot_nat a b (by omega) (by omega), dif_spell a ha b hb]

set_option maxHeartbeats 400000 in
theorem changes07 (f : Nat → Nat) (k b : Nat) (V : Visit) (w : World) (hf : f k < 64) (hn : V.now k < 64) (hk : k < 3) (hV : VisitAt w b V) :
    Calls Try.prog 89 #[.pointer (some ⟨b, 0, none⟩), pl3 f, .int .i64 k] w (RetE (.int .i64 (popc (dif (f k) (V.now k)))) w) := by
  unfold pl3
  go_enter Try.func89, Try.ntmps89
  go_wp2
  have hp := pl3_cell (w := w) (f := f) (t := 78) k hk
  have hs := heap_new w (.cells #[.int .u64 (f 0), .int .u64 (f 1), .int .u64 (f 2)] 78)
  obtain ⟨W, hW⟩ : ∃ W, W = w.alloc (.cells #[.int .u64 (f 0), .int .u64 (f 1), .int .u64 (f 2)] 78) := ⟨_, rfl⟩
  have hE : Ext w W := by rw [hW]; exact Ext.alloc (Ext.refl w) _
  rw [← hW] at hp ⊢
  obtain ⟨p0, c0, p1, c1, p2, c2, p3, c3, -, -, -, -, -, -, -, -, -, hnow, -, -⟩ := (hV.ext hE).facts
  have h5 := hnow k hk
  clear hW hnow hs
  have hd := bits_dif (f k) (V.now k) hf hn
  have hlt := dif_lt (f k) hf (V.now k) hn
  go_quiet ((go_at_call 101; exact RetQ.quiet (many07 _ _ hlt)))
  go_wp2
  go_ret
  exact RetE.fin (hE.trans (Qt.ext (by repeat (first | exact Qt.refl _ | assumption | refine Qt.drewN ?_ _ | refine Qt.drew ?_)))) rfl

theorem earnTo_succ (E : List (List Int)) (m k n : Nat) (hn : n < E.length) (hk : k < E[n].length) : earnTo E m k (n + 1) = earnTo E m k n + (if m.testBit n then E[n][k] else 0) := by
  rw [earnTo]
  simp [List.getD, hn, hk]

set_option maxHeartbeats 800000 in
theorem earns07 (f : Nat → Nat) (k b : Nat) (V : Visit) (w : World) (hV : VisitAt w b V) (hO : VOK V) (hk : k < V.S.boxes.length) (hf : f k < 64) :
    Calls Try.prog 56 #[.pointer (some ⟨b, 0, none⟩), pl3 f, .int .i64 k] w (RetE (.int .i64 (earnTo V.S.earn (f k) k V.S.earn.length)) w) := by
  have hk3 : k < 3 := by have := hO.boxes; omega
  have hl6 : V.S.earn.length ≤ 6 := by have := hO.earn; have := hO.stock; omega
  unfold pl3
  go_enter Try.func56, Try.ntmps56
  go_upto_region 2 with (fail)
  have hp := pl3_cell (w := w) (f := f) (t := 78) k hk3
  obtain ⟨W, hW⟩ : ∃ W, W = w.alloc (.cells #[.int .u64 (f 0), .int .u64 (f 1), .int .u64 (f 2)] 78) := ⟨_, rfl⟩
  have hE : Ext w W := by rw [hW]; exact Ext.alloc (Ext.refl w) _
  rw [← hW] at hp ⊢
  obtain ⟨p0, c0, p1, c1, p2, c2, p3, c3, -, -, hearn, -, -, -, h2, -⟩ := (hV.ext hE).facts
  clear hW
  go_wp2
  go_loopw [7, 16] (fun n i wr => ∃ t : Nat, t ≤ V.S.earn.length ∧ i = .int .i64 t ∧ n = .int .i64 (earnTo V.S.earn (f k) k t) ∧ Qt W wr) (fun _ i _ => V.S.earn.length - (intOf i).toNat)
  case atStart => exact ⟨0, by omega, rfl, rfl, Qt.refl _⟩
  case round =>
    obtain ⟨t, ht, rfl, rfl, hQ⟩ := hrel
    obtain ⟨hb1, hb2⟩ := earnTo_bd hO (f k) k t ht
    replace hp := hQ.ext.cell hp
    replace hearn := hearn.ext hQ.ext
    by_cases hlt : t < V.S.earn.length
    · have hkl : k < V.S.earn[t].length := by rw [hO.row t hlt]; exact hk
      obtain ⟨b1, o1, q, c, rfl, hc1, hq⟩ := hearn.at t hlt
      obtain ⟨b2, o2, rfl, hc2⟩ := hq.at k hkl
      have hcell := hO.cell t hlt k hkl
      have HS := Lib.hid (earnTo_succ V.S.earn (f k) k t hlt hkl)
      generalize hn : earnTo V.S.earn (f k) k t = n at *
      have HN := Lib.hid hn
      obtain ⟨hcl, hch⟩ := hcell
      clear hn
      by_cases hb : (f k).testBit t = true
      all_goals
        go_wp2_with (go_at_call 88; refine (has07 _ t _ hf (by omega)).mono ?_; rintro e w' ⟨rfl, m, rfl⟩)
        go_roundw
        case rel => exact ⟨t + 1, by omega, by go_num, by rw [HS.out]; simp [*], (by repeat (first | exact Qt.refl _ | assumption | refine Qt.drewN ?_ _ | refine Qt.drew ?_))⟩
        case measure => simp [intOf]; omega
    · obtain rfl : t = V.S.earn.length := by omega
      go_wp2
      go_ret
      exact RetE.fin (hE.trans hQ.ext) rfl
end Go.Proofs.Ytpgjkmjejpfkmaa
