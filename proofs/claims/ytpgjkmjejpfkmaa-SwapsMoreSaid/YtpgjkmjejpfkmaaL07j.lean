/- The walk of SwapsGoal. -/
import Derived.Test.YtpgjkmjejpfkmaaL07i
namespace Go.Proofs.Ytpgjkmjejpfkmaa
open Go.RowKit

theorem known07 (n : Int) (h : n = 0 ∨ n = 3) (w : World) : Calls Try.prog 20 #[.int .i64 n] w (RetE (.bool true) w) := RetQ.e (RetQ.bt h (isKnown07 n w))

/-- Fewest, of a goal that may be asked -/
theorem few_cases {S : Swap} (hS : Valid S) (g : Int) (h0 : 0 ≤ g) (h1 : g ≤ 99999) :
    (g ≤ bestN (openV S) ∧ 0 ≤ fewOf (openV S) g (allP (openV S)) ∧ fewV S g = .tuple #[.int .i64 (fewOf (openV S) g (allP (openV S))), .int .i64 0]) ∨
    (¬g ≤ bestN (openV S) ∧ fewV S g = .tuple #[.int .i64 0, .int .i64 3]) := by
  have hi := few_iff (openV_ok hS) g h0 (allP (openV S))
  by_cases h : fewOf (openV S) g (allP (openV S)) < 0
  · refine Or.inr ⟨hi.1 h, ?_⟩
    unfold fewV
    rw [if_pos (bP_t hS), if_pos (bP_t ⟨h0, h1⟩), if_pos (bP_t h)]
  · refine Or.inl ⟨Classical.not_not.1 fun k => h (hi.2 k), by omega, ?_⟩
    unfold fewV
    rw [if_pos (bP_t hS), if_pos (bP_t ⟨h0, h1⟩), if_neg (by rw [bP_iff]; exact h)]
theorem few_nowV {S : Swap} (hS : Valid S) : fewV S (earnsAll S S.boxes) = .tuple #[.int .i64 0, .int .i64 0] := by
  obtain ⟨h0, h1⟩ := earnsAll_bd hS
  have := few_now hS
  unfold fewV
  rw [if_pos (bP_t hS), if_pos (bP_t ⟨h0, h1⟩), this, if_neg (by rw [bP_iff]; decide)]

set_option maxHeartbeats 4000000 in
theorem SwapsGoal07 (v : Value) (S : Swap) (goal more : Int) (w : World) (hv : SwapV w v S) (hM : Big S) (hg1 : -9223372036854775808 ≤ goal) (hg2 : goal ≤ 9223372036854775807) (hm1 : -9223372036854775808 ≤ more) (hm2 : more ≤ 9223372036854775807) :
    Calls Try.prog 4 #[v, .int .i64 goal, .int .i64 more] w (RetE (.bool true) w) := by
  have HV := Lib.hid hv
  obtain ⟨p0, c0, p1, c1, p2, c2, p3, c3, rfl, h0, h1, h2, h3⟩ := hv
  have H0 := Lib.hid h0
  clear h0 h1 h2 h3
  go_enter Try.func4, Try.ntmps4
  go_upto_region 1 with (fail)
  have hn := heap_new w (.cells #[.slice p0 S.boxes.length c0, .slice p1 S.stock.length c1, .slice p2 S.earn.length c2, .slice p3 S.keeps.length c3, .int .i64 S.changes] 26)
  obtain ⟨W, hW⟩ : ∃ W, W = w.alloc (.cells #[.slice p0 S.boxes.length c0, .slice p1 S.stock.length c1, .slice p2 S.earn.length c2, .slice p3 S.keeps.length c3, .int .i64 S.changes] 26) := ⟨_, rfl⟩
  have hE : Ext w W := by rw [hW]; exact Ext.alloc (Ext.refl w) _
  rw [← hW] at hn ⊢
  have q0 := ExtW.cell (v := .slice p0 S.boxes.length c0) (cell_of_heap hn 0)
  have q1 := ExtW.cell (v := .slice p1 S.stock.length c1) (cell_of_heap hn 1)
  have q2 := ExtW.cell (v := .slice p2 S.earn.length c2) (cell_of_heap hn 2)
  have q3 := ExtW.cell (v := .slice p3 S.keeps.length c3) (cell_of_heap hn 3)
  have q4 := ExtW.cell (v := .int .i64 S.changes) (cell_of_heap hn 4)
  have HW := Lib.hid (fun x : ExtW W => ExtW.call (works07 x.w))
  have HR := Lib.hid (fun x : ExtW W => ExtW.call (ready07 _ S x.w (SwapV.mono _ _ _ _ (hE.trans x.h) HV.out) hM))
  obtain ⟨x0, hx0⟩ := ExtW.of (Ext.refl W)
  clear hW hn
  conv => arg 5; rw [hx0]
  by_cases hR : Ready S
  · rw [bP_t hR] at HR
    obtain ⟨hS, -, -⟩ := hR
    have HF := Lib.hid (fun (x : ExtW W) (g : Int) => ExtW.call (Fewest07 _ S g x.w (SwapV.mono _ _ _ _ (hE.trans x.h) HV.out) (modest_of_valid hS)))
    have HB0 : ∀ x : ExtW W, _ := fun x : ExtW W => ExtW.call (Best07 _ S x.w (SwapV.mono _ _ _ _ (hE.trans x.h) HV.out) (modest_of_valid hS))
    rw [ansV_t hS] at HB0
    have HB := Lib.hid HB0
    have HA := Lib.hid (fun x : ExtW W => ExtW.call (EarnsAll07 _ S p0 S.boxes c0 x.w (SwapV.mono _ _ _ _ (hE.trans x.h) HV.out) hS (H0.out.ext (hE.trans x.h)) (Nat.le_refl _) (fun i h => by have := (hS.box i h).1; omega) (fun i h t ht => (hS.box i h).2.mem t ht)))
    have HF0 : ∀ x : ExtW W, _ := fun x : ExtW W => HF.out x (earnsAll S S.boxes)
    rw [few_nowV hS] at HF0
    have HN := Lib.hid HF0
    have HK := Lib.hid (fun (x : ExtW W) => ExtW.call (known07 0 (Or.inl rfl) x.w))
    have HK3 := Lib.hid (fun (x : ExtW W) => ExtW.call (known07 3 (Or.inr rfl) x.w))
    clear HB0 HF0
    have hwr : 0 ≤ goal → goal ≤ 99999 → 0 ≤ more → more ≤ 99999 → IntKind.i64.wrap (goal + more) = goal + more := fun _ _ _ _ => IntWalk.i64_in _ (by omega)
    by_cases b1 : goal < 0
    · have b1' : decide (goal < 0) = true := by simpa using b1
      clear b1 hwr
      go_wp2_with fail
      refine (HR.out _).mono ?_
      rintro e _ ⟨rfl, x1, rfl⟩
      go_wp2_with fail
      refine (HW.out _).mono ?_
      rintro e _ ⟨rfl, x2, rfl⟩
      go_wp2
      go_ret
      exact RetE.fin (hE.trans x2.h) rfl
    have b1' : decide (goal < 0) = false := by simpa using b1
    by_cases b2 : more < 0
    · have b2' : decide (more < 0) = true := by simpa using b2
      clear b2 hwr
      go_wp2_with fail
      refine (HR.out _).mono ?_
      rintro e _ ⟨rfl, x1, rfl⟩
      go_wp2_with fail
      refine (HW.out _).mono ?_
      rintro e _ ⟨rfl, x2, rfl⟩
      go_wp2
      go_ret
      exact RetE.fin (hE.trans x2.h) rfl
    have b2' : decide (more < 0) = false := by simpa using b2
    by_cases b3 : 99999 < goal
    · have b3' : decide (99999 < goal) = true := by simpa using b3
      clear b3 hwr
      go_wp2_with fail
      refine (HR.out _).mono ?_
      rintro e _ ⟨rfl, x1, rfl⟩
      go_wp2_with fail
      refine (HW.out _).mono ?_
      rintro e _ ⟨rfl, x2, rfl⟩
      go_wp2
      go_ret
      exact RetE.fin (hE.trans x2.h) rfl
    have b3' : decide (99999 < goal) = false := by simpa using b3
    by_cases b4 : 99999 < more
    · have b4' : decide (99999 < more) = true := by simpa using b4
      clear b4 hwr
      go_wp2_with fail
      refine (HR.out _).mono ?_
      rintro e _ ⟨rfl, x1, rfl⟩
      go_wp2_with fail
      refine (HW.out _).mono ?_
      rintro e _ ⟨rfl, x2, rfl⟩
      go_wp2
      go_ret
      exact RetE.fin (hE.trans x2.h) rfl
    have b4' : decide (99999 < more) = false := by simpa using b4
    by_cases b5 : 99999 < goal + more
    · have b5' : decide (99999 < goal + more) = true := by simpa using b5
      have hw := hwr (by omega) (by omega) (by omega) (by omega)
      clear b5 hwr
      go_wp2_with fail
      refine (HR.out _).mono ?_
      rintro e _ ⟨rfl, x1, rfl⟩
      go_wp2_with fail
      refine (HW.out _).mono ?_
      rintro e _ ⟨rfl, x2, rfl⟩
      go_wp2
      go_ret
      exact RetE.fin (hE.trans x2.h) rfl
    have b5' : decide (99999 < goal + more) = false := by simpa using b5
    have hw := hwr (by omega) (by omega) (by omega) (by omega)
    have HG1 := Lib.hid (few_cases hS goal (by omega) (by omega))
    have HG2 := Lib.hid (few_cases hS (goal + more) (by omega) (by omega))
    have HGM := Lib.hid (few_mono (openV S) goal (goal + more) (by omega) (allP (openV S)))
    have HF1 : ∀ x : ExtW W, _ := fun x : ExtW W => HF.out x goal
    have HF2 : ∀ x : ExtW W, _ := fun x : ExtW W => HF.out x (goal + more)
    obtain ⟨bst, hbst⟩ : ∃ bst, bst = bestN (openV S) := ⟨_, rfl⟩
    rw [← hbst] at HB HG1 HG2
    obtain ⟨E, hEE⟩ : ∃ E, E = earnsAll S S.boxes := ⟨_, rfl⟩
    rw [← hEE] at HA HN
    obtain ⟨m, hm⟩ : ∃ m, m = fewOf (openV S) goal (allP (openV S)) := ⟨_, rfl⟩
    obtain ⟨n, hn⟩ : ∃ n, n = fewOf (openV S) (goal + more) (allP (openV S)) := ⟨_, rfl⟩
    rw [← hm] at HG1 HGM
    rw [← hn] at HG2 HGM
    have HGM' := HGM.out
    clear hm hn hEE hbst HF HGM hwr
    have B1 := Lib.hid b1
    have B2 := Lib.hid b2
    have B3 := Lib.hid b3
    have B4 := Lib.hid b4
    have B5 := Lib.hid b5
    clear b1 b2 b3 b4 b5
    rcases HG1.out with ⟨g1, g2, g3⟩ | ⟨g1, g3⟩
    · rw [g3] at HF1
      have g1' : decide (goal ≤ bst) = true := by simpa using g1
      have g2' : decide (m < 0) = false := by simpa using g2
      rcases HG2.out with ⟨k1, k2, k3⟩ | ⟨k1, k3⟩
      · rw [k3] at HF2
        have k1' : decide (goal + more ≤ bst) = true := by simpa using k1
        have k2' : decide (m ≤ n) = true := by simpa using HGM' k2
        have HF1 := Lib.hid HF1
        have HF2 := Lib.hid HF2
        have KA := HK
        have KB := HK
        clear g1 g2 g3 k1 k2 k3 HGM' HG1 HG2
        clear B1 B2 B3 B4 B5
        go_wp2_with fail
        refine (HR.out _).mono ?_
        rintro e _ ⟨rfl, x1, rfl⟩
        go_upto_region 3 with (fail)
        refine wp_region_extW (by kernel_rfl) (by kernel_rfl) ?_
        repeat (go_big_quiet_step (first | (go_at_call 21; exact HA.out _) | (go_at_call 19; exact HN.out _)))
        refine wpQuiet_nil ?_
        rintro _ ⟨x2, rfl⟩
        go_wp2_with fail
        refine (HF1.out _).mono ?_
        rintro e _ ⟨rfl, x3, rfl⟩
        go_wp2_with fail
        refine (HF2.out _).mono ?_
        rintro e _ ⟨rfl, x4, rfl⟩
        go_wp2_with fail
        refine (HB.out _).mono ?_
        rintro e _ ⟨rfl, x5, rfl⟩
        go_wp2_with fail
        refine (KA.out _).mono ?_
        rintro e _ ⟨rfl, x6, rfl⟩
        go_wp2_with fail
        refine (KB.out _).mono ?_
        rintro e _ ⟨rfl, x7, rfl⟩
        go_wp2_with fail
        refine (HW.out _).mono ?_
        rintro e _ ⟨rfl, x8, rfl⟩
        go_wp2
        go_ret
        exact RetE.fin (hE.trans x8.h) rfl
      · rw [k3] at HF2
        have k1' : decide (goal + more ≤ bst) = false := by simpa using k1
        have HF1 := Lib.hid HF1
        have HF2 := Lib.hid HF2
        have KA := HK
        have KB := HK3
        clear g1 g2 g3 k1 k3 HGM' HG1 HG2
        clear B1 B2 B3 B4 B5
        go_wp2_with fail
        refine (HR.out _).mono ?_
        rintro e _ ⟨rfl, x1, rfl⟩
        go_upto_region 3 with (fail)
        refine wp_region_extW (by kernel_rfl) (by kernel_rfl) ?_
        repeat (go_big_quiet_step (first | (go_at_call 21; exact HA.out _) | (go_at_call 19; exact HN.out _)))
        refine wpQuiet_nil ?_
        rintro _ ⟨x2, rfl⟩
        go_wp2_with fail
        refine (HF1.out _).mono ?_
        rintro e _ ⟨rfl, x3, rfl⟩
        go_wp2_with fail
        refine (HF2.out _).mono ?_
        rintro e _ ⟨rfl, x4, rfl⟩
        go_wp2_with fail
        refine (HB.out _).mono ?_
        rintro e _ ⟨rfl, x5, rfl⟩
        go_wp2_with fail
        refine (KA.out _).mono ?_
        rintro e _ ⟨rfl, x6, rfl⟩
        go_wp2_with fail
        refine (KB.out _).mono ?_
        rintro e _ ⟨rfl, x7, rfl⟩
        go_wp2_with fail
        refine (HW.out _).mono ?_
        rintro e _ ⟨rfl, x8, rfl⟩
        go_wp2
        go_ret
        exact RetE.fin (hE.trans x8.h) rfl
    · rw [g3] at HF1
      have g1' : decide (goal ≤ bst) = false := by simpa using g1
      rcases HG2.out with ⟨k1, k2, k3⟩ | ⟨k1, k3⟩
      · exact absurd k1 (by have := B2.out; omega)
      · rw [k3] at HF2
        have k1' : decide (goal + more ≤ bst) = false := by simpa using k1
        have HF1 := Lib.hid HF1
        have HF2 := Lib.hid HF2
        have KA := HK3
        have KB := HK3
        clear g1 g3 k1 k3 HGM' HG1 HG2
        clear B1 B2 B3 B4 B5
        go_wp2_with fail
        refine (HR.out _).mono ?_
        rintro e _ ⟨rfl, x1, rfl⟩
        go_upto_region 3 with (fail)
        refine wp_region_extW (by kernel_rfl) (by kernel_rfl) ?_
        repeat (go_big_quiet_step (first | (go_at_call 21; exact HA.out _) | (go_at_call 19; exact HN.out _)))
        refine wpQuiet_nil ?_
        rintro _ ⟨x2, rfl⟩
        go_wp2_with fail
        refine (HF1.out _).mono ?_
        rintro e _ ⟨rfl, x3, rfl⟩
        go_wp2_with fail
        refine (HF2.out _).mono ?_
        rintro e _ ⟨rfl, x4, rfl⟩
        go_wp2_with fail
        refine (HB.out _).mono ?_
        rintro e _ ⟨rfl, x5, rfl⟩
        go_wp2_with fail
        refine (KA.out _).mono ?_
        rintro e _ ⟨rfl, x6, rfl⟩
        go_wp2_with fail
        refine (KB.out _).mono ?_
        rintro e _ ⟨rfl, x7, rfl⟩
        go_wp2_with fail
        refine (HW.out _).mono ?_
        rintro e _ ⟨rfl, x8, rfl⟩
        go_wp2
        go_ret
        exact RetE.fin (hE.trans x8.h) rfl
  · rw [bP_f hR] at HR
    clear hR
    go_wp2_with fail
    refine (HR.out _).mono ?_
    rintro e _ ⟨rfl, x1, rfl⟩
    go_wp2_with fail
    refine (HW.out _).mono ?_
    rintro e _ ⟨rfl, x2, rfl⟩
    go_wp2
    go_ret
    exact RetE.fin (hE.trans x2.h) rfl
end Go.Proofs.Ytpgjkmjejpfkmaa
