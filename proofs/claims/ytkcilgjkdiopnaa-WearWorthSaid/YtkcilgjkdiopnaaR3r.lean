/- The walk of the reference's Last. -/
import Derived.Test.YtkcilgjkdiopnaaR3q
namespace Go.Proofs.Ytkcilgjkdiopnaa
open Go.RowKit

open Classical in
noncomputable def lastRV (X : Wr) (budget : Int) : Value := if ValidW X then lastV X budget else .tuple #[.int .i64 0, .int .i64 30]
theorem lastRV_bad {X : Wr} {b : Int} (h : ¬ValidW X) : lastRV X b = .tuple #[.int .i64 0, .int .i64 30] := by unfold lastRV; rw [if_neg h]
theorem lastRV_arg {X : Wr} {b : Int} (h : ValidW X) (hb : ¬(0 ≤ b ∧ b ≤ 99999)) : lastRV X b = .tuple #[.int .i64 0, .int .i64 1] := by unfold lastRV; rw [if_pos h]; unfold lastV; rw [if_neg hb]
theorem lastRV_ok {X : Wr} {b : Int} (h : ValidW X) (hb : 0 ≤ b ∧ b ≤ 99999) : lastRV X b = .tuple #[.int .i64 (lastTo X b X.weeks.toNat), .int .i64 0] := by unfold lastRV; rw [if_pos h]; unfold lastV; rw [if_pos hb]

theorem last_step (X : Wr) (b : Int) : ∀ m : Nat, lastTo X b (m + 1 - 1) = if enoughB X b m = true then m else lastTo X b (m - 1)
  | 0 => by simp [lastTo]
  | m + 1 => rfl
set_option maxRecDepth 20000 in
set_option maxHeartbeats 16000000 in
theorem LastR03 (v : Value) (X : Wr) (budget : Int) (w : World) (hv : WrV w v X) (hM : ModestW X) :
    Calls Try.prog 31 #[v, .int .i64 budget] w (RetE (lastRV X budget) w) := by
  have HM := Lib.hid hM
  have HV := Lib.hid hv
  obtain ⟨p, cp, q, d, rfl, hR, hG⟩ := hv
  clear hM hR hG
  go_enter Try.func31, Try.ntmps31
  go_upto_region 1 with (fail)
  generalize hW : World.alloc _ _ = W
  have hb0 : W.heap[w.heap.size]? = some (.cells #[.int .i64 X.weeks, .int .i64 X.price, .int .i64 X.age, .int .i64 X.step, .slice p X.rough.length cp, .slice q X.recs.length d] 25) := by rw [← hW]; exact heap_new _ _
  have hE : Ext w W := by rw [← hW]; exact Ext.alloc (Ext.refl w) _
  have q0 := ExtW.cell (v := .int .i64 X.weeks) (cell_of_heap hb0 0)
  have q1 := ExtW.cell (v := .int .i64 X.price) (cell_of_heap hb0 1)
  have q2 := ExtW.cell (v := .int .i64 X.age) (cell_of_heap hb0 2)
  have q3 := ExtW.cell (v := .int .i64 X.step) (cell_of_heap hb0 3)
  have q4 := ExtW.cell (v := .slice p X.rough.length cp) (cell_of_heap hb0 4)
  have q5 := ExtW.cell (v := .slice q X.recs.length d) (cell_of_heap hb0 5)
  have hvx := fun x : ExtW W => WrV.mono _ _ _ _ (hE.trans x.h) HV.out
  have HC := fun x : ExtW W => ExtW.call (rCheck03 _ X x.w (hvx x) HM.out)
  have HVX := Lib.hid hvx
  have HE := Lib.hid hE
  obtain ⟨x0, hx0⟩ := ExtW.of (Ext.refl W)
  clear hW hb0 hvx hE
  conv => arg 5; rw [hx0]
  clear hx0
  by_cases hX : ValidW X
  case neg =>
    rw [chkW_f hX] at HC
    have HC := Lib.hid HC
    go_wp2_with (go_at_call 20; refine (HC.out _).mono ?_; rintro e w' ⟨rfl, x1, rfl⟩)
    refine bodyPost_ret (v := .tuple #[.int .i64 0, .int .i64 30]) (by simp [results, Try.results31, go_sem]) rfl ⟨by rw [lastRV_bad hX], HE.out.trans x1.h⟩
  rw [chkW_t hX] at HC
  have HC := Lib.hid HC
  have HX := Lib.hid hX
  obtain ⟨n, hn⟩ : ∃ n : Nat, X.weeks = n := ⟨X.weeks.toNat, by have := hX.weeks; omega⟩
  have hn6 : n ≤ 6 := by have := hX.weeks; omega
  rw [hn] at q0
  have HC := Lib.hid (show ∀ x : ExtW W, _ from by have := HC.out; rw [hn] at this; exact this)
  have HNN := Lib.hid hn
  clear hX
  by_cases hb : 0 ≤ budget ∧ budget ≤ 99999
  case neg =>
    have HB := Lib.hid hb
    have HWI := Lib.hid (fun x : ExtW W => ExtW.call (RetQ.e (RetQ.bf hb (rwithin03 budget 0 99999 x.w))))
    clear hn hb
    go_wp2_with (first | (go_at_call 20; refine (HC.out _).mono ?_; rintro e w' ⟨rfl, x1, rfl⟩) | (go_at_call 57; refine (HWI.out _).mono ?_; rintro e w' ⟨rfl, x2, rfl⟩))
    refine bodyPost_ret (v := .tuple #[.int .i64 0, .int .i64 1]) (by simp [results, Try.results31, go_sem]) rfl ⟨by rw [lastRV_arg HX.out HB.out], HE.out.trans x2.h⟩
  have HB := Lib.hid hb
  have HWI := Lib.hid (fun x : ExtW W => ExtW.call (RetQ.e (RetQ.bt hb (rwithin03 budget 0 99999 x.w))))
  clear hn hb
  go_upto_region 6 with (first | (go_at_call 20; refine (HC.out _).mono ?_; rintro e w' ⟨rfl, x1, rfl⟩) | (go_at_call 57; refine (HWI.out _).mono ?_; rintro e w' ⟨rfl, x2, rfl⟩))
  go_wp2
  go_loopw [7, 8] (fun a i wr => ∃ m : Nat, m ≤ n + 1 ∧ i = .int .i64 m ∧ a = .int .i64 (lastTo X budget (m - 1)) ∧ ∃ x : ExtW W, wr = x.w) (fun _ i _ => n + 1 - (intOf i).toNat)
  case atStart => exact ⟨0, Nat.zero_le _, rfl, rfl, x2, rfl⟩
  case round =>
    clear x0 x1 x2
    obtain ⟨m, hm, rfl, rfl, x, rfl⟩ := hrel
    obtain ⟨lt, hlt⟩ : ∃ lt, lt = lastTo X budget (m - 1) := ⟨_, rfl⟩
    conv => arg 4; rw [← hlt]
    have HLT := Lib.hid hlt
    clear hlt
    by_cases hle : m ≤ n
    · have hleI : (m : Int) ≤ (n : Int) := by omega
      have hmX : (m : Int) ≤ X.weeks := by rw [HNN.out]; exact hleI
      have hF := First03 _ X m x.w (HVX.out x) HX.out hmX
      rw [HNN.out] at hF
      have HF := Lib.hid hF
      have hCR := fun (v1 : Value) (W1 : World) (h : WrV W1 v1 (firstX X m)) => CheapestR03 v1 (firstX X m) W1 h (modest_valid (first_valid HX.out hmX))
      rw [(ref_answers (first_valid HX.out hmX)).1, first_cheap] at hCR
      have hen := enough_costOf X budget m
      clear hF hmX
      cases hco : costOf X m with
      | none =>
        rw [hco] at hCR hen
        have HNE := Lib.hid (show ¬enoughB X budget m = true from fun h => by obtain ⟨y, hy, -⟩ := hen.1 h; cases hy)
        have HCR := Lib.hid hCR
        clear hCR hen hco
        go_upto_region 11 with (first
          | (go_at_call 38; refine (HF.out).mono ?_; rintro e W1 ⟨v1, rfl, hE1, hv1⟩)
          | (go_at_call 44; refine (HCR.out _ _ hv1).mono ?_; rintro e W2 ⟨rfl, hE2⟩))
        obtain ⟨x3, rfl⟩ := ExtW.of (x.h.trans (hE1.trans hE2))
        clear hE1 hE2 hv1
        go_wp2
        go_roundw
        case rel => exact ⟨m + 1, by omega, by go_num, by rw [last_step, if_neg HNE.out, HLT.out], x3, rfl⟩
        case measure => simp [intOf]; omega
      | some mc =>
        rw [hco] at hCR hen
        have HCR := Lib.hid hCR
        by_cases hbu : mc ≤ budget
        · have HEN := Lib.hid (hen.2 ⟨mc, rfl, hbu⟩)
          clear hCR hen hco
          go_upto_region 11 with (first
            | (go_at_call 38; refine (HF.out).mono ?_; rintro e W1 ⟨v1, rfl, hE1, hv1⟩)
            | (go_at_call 44; refine (HCR.out _ _ hv1).mono ?_; rintro e W2 ⟨rfl, hE2⟩))
          obtain ⟨x3, rfl⟩ := ExtW.of (x.h.trans (hE1.trans hE2))
          clear hE1 hE2 hv1
          go_wp2
          go_roundw
          case rel => exact ⟨m + 1, by omega, by go_num, by rw [last_step, if_pos HEN.out], x3, rfl⟩
          case measure => simp [intOf]; omega
        · have HNE := Lib.hid (show ¬enoughB X budget m = true from fun h => by obtain ⟨y, hy, hy2⟩ := hen.1 h; cases hy; exact hbu hy2)
          clear hCR hen hco
          go_upto_region 11 with (first
            | (go_at_call 38; refine (HF.out).mono ?_; rintro e W1 ⟨v1, rfl, hE1, hv1⟩)
            | (go_at_call 44; refine (HCR.out _ _ hv1).mono ?_; rintro e W2 ⟨rfl, hE2⟩))
          obtain ⟨x3, rfl⟩ := ExtW.of (x.h.trans (hE1.trans hE2))
          clear hE1 hE2 hv1
          go_wp2
          go_roundw
          case rel => exact ⟨m + 1, by omega, by go_num, by rw [last_step, if_neg HNE.out, HLT.out], x3, rfl⟩
          case measure => simp [intOf]; omega
    · obtain rfl : m = n + 1 := by omega
      have hni : ¬((n + 1 : Nat) : Int) ≤ (n : Int) := by omega
      go_wp2
      refine bodyPost_ret (v := .tuple #[.int .i64 lt, .int .i64 0]) (by simp [results, Try.results31, go_sem]) rfl ⟨?_, HE.out.trans x.h⟩
      rw [lastRV_ok HX.out HB.out, HLT.out, show X.weeks.toNat = n + 1 - 1 from by rw [HNN.out]; simp]
end Go.Proofs.Ytkcilgjkdiopnaa
