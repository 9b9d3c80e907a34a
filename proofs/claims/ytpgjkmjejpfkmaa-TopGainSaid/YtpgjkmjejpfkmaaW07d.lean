/- The walk of fits. -/
import Derived.Test.YtpgjkmjejpfkmaaW07c
namespace Go.Proofs.Ytpgjkmjejpfkmaa
open Go.RowKit

/-- a plan fits, as far as its first boxes say -/
def FitBox (V : Visit) (f : Nat → Nat) (k : Nat) : Prop := (popc (dif (f k) (V.now k)) : Int) ≤ V.S.changes ∧ dif (V.keeps k) (f k) = 0
def FitsTo (V : Visit) (f : Nat → Nat) (n : Nat) : Prop := (∀ k, k < n → FitBox V f k) ∧ ∀ t, t < 6 → (cntB f t 3 : Int) ≤ V.copies t

theorem idx6_0 (a b c d e f : Int) (w : World) : (Instr.index 91 (.agg #[.int .i64 a, .int .i64 b, .int .i64 c, .int .i64 d, .int .i64 e, .int .i64 f]) (.int .i64 0)).run Try.prog w = .ok (.int .i64 a) w := by kernel_rfl
theorem idx6_1 (a b c d e f : Int) (w : World) : (Instr.index 91 (.agg #[.int .i64 a, .int .i64 b, .int .i64 c, .int .i64 d, .int .i64 e, .int .i64 f]) (.int .i64 1)).run Try.prog w = .ok (.int .i64 b) w := by kernel_rfl
theorem idx6_2 (a b c d e f : Int) (w : World) : (Instr.index 91 (.agg #[.int .i64 a, .int .i64 b, .int .i64 c, .int .i64 d, .int .i64 e, .int .i64 f]) (.int .i64 2)).run Try.prog w = .ok (.int .i64 c) w := by kernel_rfl
theorem idx6_3 (a b c d e f : Int) (w : World) : (Instr.index 91 (.agg #[.int .i64 a, .int .i64 b, .int .i64 c, .int .i64 d, .int .i64 e, .int .i64 f]) (.int .i64 3)).run Try.prog w = .ok (.int .i64 d) w := by kernel_rfl
theorem idx6_4 (a b c d e f : Int) (w : World) : (Instr.index 91 (.agg #[.int .i64 a, .int .i64 b, .int .i64 c, .int .i64 d, .int .i64 e, .int .i64 f]) (.int .i64 4)).run Try.prog w = .ok (.int .i64 e) w := by kernel_rfl
theorem idx6_5 (a b c d e f : Int) (w : World) : (Instr.index 91 (.agg #[.int .i64 a, .int .i64 b, .int .i64 c, .int .i64 d, .int .i64 e, .int .i64 f]) (.int .i64 5)).run Try.prog w = .ok (.int .i64 f) w := by kernel_rfl
theorem idx6 (g : Nat → Int) (k : Nat) (hk : k < 6) : ∀ (w : World), (Instr.index 91 (.agg #[.int .i64 (g 0), .int .i64 (g 1), .int .i64 (g 2), .int .i64 (g 3), .int .i64 (g 4), .int .i64 (g 5)]) (.int .i64 k)).run Try.prog w = .ok (.int .i64 (g k)) w := by
  obtain rfl | rfl | rfl | rfl | rfl | rfl : k = 0 ∨ k = 1 ∨ k = 2 ∨ k = 3 ∨ k = 4 ∨ k = 5 := by omega
  · exact idx6_0 _ _ _ _ _ _
  · exact idx6_1 _ _ _ _ _ _
  · exact idx6_2 _ _ _ _ _ _
  · exact idx6_3 _ _ _ _ _ _
  · exact idx6_4 _ _ _ _ _ _
  · exact idx6_5 _ _ _ _ _ _

set_option maxHeartbeats 1600000 in
theorem fits07 (f : Nat → Nat) (n b : Nat) (V : Visit) (w : World) (hV : VisitAt w b V) (hO : VOK V) (hf : ∀ k, k < 3 → f k < 64) (hn : n ≤ 3) :
    Calls Try.prog 80 #[.pointer (some ⟨b, 0, none⟩), pl3 f, .int .i64 n] w (RetE (.bool (bP (FitsTo V f n))) w) := by
  have hb3 := hO.boxes
  unfold pl3
  go_enter Try.func80, Try.ntmps80
  go_upto_region 1 with (fail)
  have hp := heap_new w (.cells #[.int .u64 (f 0), .int .u64 (f 1), .int .u64 (f 2)] 78)
  have hpk := pl3_cell (w := w) (f := f) (t := 78)
  obtain ⟨W, hW⟩ : ∃ W, W = w.alloc (.cells #[.int .u64 (f 0), .int .u64 (f 1), .int .u64 (f 2)] 78) := ⟨_, rfl⟩
  have hE : Ext w W := by rw [hW]; exact Ext.alloc (Ext.refl w) _
  rw [← hW] at hp hpk ⊢
  have hV1 := hV.ext hE
  obtain ⟨p0, c0, p1, c1, p2, c2, p3, c3, -, -, -, -, -, -, -, -, h4, -, hkeep, hcop⟩ := hV1.facts
  have hq0 := ExtW.cell (v := .int .u64 (f 0)) (cell_of_heap hp 0)
  have hq1 := ExtW.cell (v := .int .u64 (f 1)) (cell_of_heap hp 1)
  have hq2 := ExtW.cell (v := .int .u64 (f 2)) (cell_of_heap hp 2)
  have hc4 := ExtW.cell h4
  have g0 := ExtW.cell (hcop 0 (by decide))
  have g1 := ExtW.cell (hcop 1 (by decide))
  have g2 := ExtW.cell (hcop 2 (by decide))
  have g3 := ExtW.cell (hcop 3 (by decide))
  have g4 := ExtW.cell (hcop 4 (by decide))
  have g5 := ExtW.cell (hcop 5 (by decide))
  simp only [Nat.add_zero, Nat.reduceAdd] at g0 g1 g2 g3 g4 g5
  obtain ⟨x0, hx0⟩ := ExtW.of (Ext.refl W)
  have hpk' := Lib.hid hpk
  have hkeep' := Lib.hid hkeep
  have hf' := Lib.hid hf
  have hV' := Lib.hid hV1
  clear hW hp hV hpk hkeep hcop hf hV1 h4
  conv => arg 5; rw [hx0]
  go_wp2
  go_loopw [11] (fun i wr => ∃ k : Nat, k ≤ n ∧ i = .int .i64 k ∧ (∀ j, j < k → FitBox V f j) ∧ ∃ x : ExtW W, wr = x.w) (fun i _ => n - (intOf i).toNat)
  case atStart => exact ⟨0, by omega, rfl, by intro j hj; omega, x0, rfl⟩
  case round =>
    obtain ⟨k, hk, rfl, hr, x, rfl⟩ := hrel
    have HR := Lib.hid hr
    clear hr hx0 x0
    by_cases hlt : k < n
    · have hk3 : k < 3 := by omega
      have hpx := ExtW.cell (hpk'.out k hk3)
      have hkx := ExtW.cell (hkeep'.out k hk3)
      have hd := bits_dif (V.keeps k) (f k) (hO.keeps k hk3) (hf'.out k hk3)
      have HC := Lib.hid (fun (y : ExtW W) => ExtW.call (changes07 f k b V y.w (hf'.out k hk3) (hO.now k hk3) hk3 (hV'.out.ext y.h)))
      by_cases h1 : V.S.changes < (popc (dif (f k) (V.now k)) : Int)
      · have H1 := Lib.hid h1
        have h1' : decide (V.S.changes < (popc (dif (f k) (V.now k)) : Int)) = true := by simpa using h1
        clear h1
        go_wp2
        refine wp_region_extW (by kernel_rfl) (by kernel_rfl) ?_
        repeat (go_big_quiet_step ((go_at_call 89; exact HC.out _)))
        refine wpQuiet_nil ?_
        rintro _ ⟨x1, rfl⟩
        go_wp2
        go_ret
        refine RetE.ff (hE.trans x1.h) ?_
        intro hF
        have := (hF.1 k hlt).1
        have := H1.out
        omega
      · have H1 := Lib.hid h1
        have h1' : decide (V.S.changes < (popc (dif (f k) (V.now k)) : Int)) = false := by simpa using h1
        clear h1
        by_cases h2 : dif (V.keeps k) (f k) = 0
        · have h2' : (((dif (V.keeps k) (f k) : Nat) : Int) != 0) = false := by simpa using h2
          have H2 := Lib.hid h2
          clear h2
          go_wp2
          refine wp_region_extW (by kernel_rfl) (by kernel_rfl) ?_
          repeat (go_big_quiet_step ((go_at_call 89; exact HC.out _)))
          refine wpQuiet_nil ?_
          rintro _ ⟨x1, rfl⟩
          go_wp2
          go_roundw
          case rel => exact ⟨k + 1, by omega, by go_num, by
            intro j hj
            by_cases e : j < k
            · exact HR.out j e
            · obtain rfl : j = k := by omega
              exact ⟨by have := H1.out; omega, H2.out⟩, x1, rfl⟩
          case measure => simp [intOf]; omega
        · have h2' : (((dif (V.keeps k) (f k) : Nat) : Int) != 0) = true := by simpa using h2
          have H2 := Lib.hid h2
          clear h2
          go_wp2
          refine wp_region_extW (by kernel_rfl) (by kernel_rfl) ?_
          repeat (go_big_quiet_step ((go_at_call 89; exact HC.out _)))
          refine wpQuiet_nil ?_
          rintro _ ⟨x1, rfl⟩
          go_wp2
          go_ret
          refine RetE.ff (hE.trans x1.h) ?_
          intro hF
          exact H2.out (hF.1 k hlt).2
    · obtain rfl : k = n := by omega
      have HF : Hid (∀ j, j < k → FitBox V f j) := HR.out
      go_wp2
      go_loopw [42] (fun i wr => ∃ t : Nat, t ≤ 6 ∧ i = .int .i64 t ∧ (∀ j, j < t → (cntB f j 3 : Int) ≤ V.copies j) ∧ ∃ x : ExtW W, wr = x.w) (fun i _ => 6 - (intOf i).toNat)
      case atStart => exact ⟨0, by omega, rfl, by first | trivial | (intro j hj; omega), x, rfl⟩
      case round =>
        obtain ⟨t, ht, rfl, hr, y, rfl⟩ := hrel
        have HR2 := Lib.hid hr
        clear hr
        by_cases hlt6 : t < 6
        · have i0 := idx6 V.copies t hlt6
          have HC := Lib.hid (fun (y : ExtW W) => ExtW.call (boxes07 f t y.w hf'.out (by omega)))
          by_cases h1 : V.copies t < (cntB f t 3 : Int)
          · have H1 := Lib.hid h1
            have h1' : decide (V.copies t < (cntB f t 3 : Int)) = true := by simpa using h1
            clear h1
            go_wp2_with (go_at_call 86; refine (HC.out _).mono ?_; rintro e w' ⟨rfl, y1, rfl⟩)
            go_ret
            refine RetE.ff (hE.trans y1.h) ?_
            intro hF
            have := hF.2 t hlt6
            have := H1.out
            omega
          · have H1 := Lib.hid h1
            have h1' : decide (V.copies t < (cntB f t 3 : Int)) = false := by simpa using h1
            clear h1
            go_wp2_with (go_at_call 86; refine (HC.out _).mono ?_; rintro e w' ⟨rfl, y1, rfl⟩)
            go_roundw
            case rel => exact ⟨t + 1, by omega, by go_num, by
              intro j hj
              by_cases e : j < t
              · exact HR2.out j e
              · obtain rfl : j = t := by omega
                have := H1.out; omega, y1, rfl⟩
            case measure => simp [intOf]; omega
        · obtain rfl : t = 6 := by omega
          go_wp2
          go_ret
          refine RetE.tt (hE.trans y.h) ?_
          exact ⟨HF.out, HR2.out⟩
end Go.Proofs.Ytpgjkmjejpfkmaa
