/- The walk of Last, of a valid box. -/
import Derived.Test.YtkcilgjkdiopnaaW3p
namespace Go.Proofs.Ytkcilgjkdiopnaa
open Go.RowKit

theorem lastTo_skip (X : Wr) (budget : Int) {n : Nat} : ∀ N, n ≤ N → (∀ m, n < m → m ≤ N → enoughB X budget m = false) → lastTo X budget N = lastTo X budget n := by
  intro N
  induction N with
  | zero => intro h _; obtain rfl : n = 0 := by omega
            rfl
  | succ N ih =>
    intro h hm
    by_cases e : n = N + 1
    · rw [e]
    · rw [lastTo, if_neg (by rw [hm (N + 1) (by omega) (Nat.le_refl _)]; simp)]
      exact ih (by omega) (fun m h1 h2 => hm m h1 (by omega))

set_option maxRecDepth 20000 in
set_option maxHeartbeats 3200000 in
theorem Last03 (v : Value) (X : Wr) (budget : Int) (w : World) (hv : WrV w v X) (hX : ValidW X) (hM : ModestW X) : Calls Try.prog 30 #[v, .int .i64 budget] w (RetE (lastV X budget) w) := by
  have hC := fun w' (h : Ext w w') => Check03 v X w' (WrV.mono _ _ _ _ h hv) hM
  rw [chkW_t hX] at hC
  obtain ⟨p, cp, q, d, rfl, hG, hR⟩ := hv
  have HC := Lib.hid hC
  have HX := Lib.hid hX
  have HR := Lib.hid hR
  have HG := Lib.hid hG
  obtain ⟨wk, hwk⟩ : ∃ wk : Nat, X.weeks = wk := ⟨X.weeks.toNat, by have := hX.weeks; omega⟩
  have hwk6 : wk ≤ 6 := by have := hX.weeks; omega
  have HWK := Lib.hid hwk
  clear hC hX hR hG hM hwk
  go_enter Try.func30, Try.ntmps30
  go_upto_region 1 with (fail)
  obtain ⟨W, hW⟩ : ∃ W, W = w.alloc (.cells #[.int .i64 X.weeks, .int .i64 X.price, .int .i64 X.age, .int .i64 X.step, .slice p X.rough.length cp, .slice q X.recs.length d] 25) := ⟨_, rfl⟩
  have hn := heap_new w (.cells #[.int .i64 X.weeks, .int .i64 X.price, .int .i64 X.age, .int .i64 X.step, .slice p X.rough.length cp, .slice q X.recs.length d] 25)
  have hE : Ext w W := by rw [hW]; exact Ext.alloc (Ext.refl w) _
  rw [← hW] at hn ⊢
  have q0 := ExtW.cell (v := .int .i64 X.weeks) (cell_of_heap hn 0)
  have q1 := ExtW.cell (v := .int .i64 X.price) (cell_of_heap hn 1)
  have q2 := ExtW.cell (v := .int .i64 X.age) (cell_of_heap hn 2)
  have q3 := ExtW.cell (v := .int .i64 X.step) (cell_of_heap hn 3)
  have q4 := ExtW.cell (v := .slice p X.rough.length cp) (cell_of_heap hn 4)
  have q5 := ExtW.cell (v := .slice q X.recs.length d) (cell_of_heap hn 5)
  have HC2 := Lib.hid (fun x : ExtW W => ExtW.call (HC.out x.w (hE.trans x.h)))
  have HE := Lib.hid hE
  obtain ⟨x0, hx0⟩ := ExtW.of (Ext.refl W)
  clear hW hn hE HC
  conv => arg 5; rw [hx0]
  clear hx0
  by_cases hb : 0 ≤ budget ∧ budget ≤ 99999
  case neg =>
    have HB := Lib.hid hb
    have HWC := Lib.hid (wOut (W := W) hb)
    clear hb
    go_wp2_with (first | (go_at_call 19; refine (HC2.out _).mono ?_; rintro e w' ⟨rfl, x1, rfl⟩) | (go_at_call 54; refine (HWC.out _).mono ?_; rintro e w' ⟨rfl, x2, rfl⟩))
    go_ret2
    exact RetE.fin (HE.out.trans x2.h) (by unfold lastV; rw [if_neg HB.out]; rfl)
  have HB := Lib.hid hb
  have HWC := Lib.hid (wIn (W := W) hb)
  clear hb
  go_upto_region 7 with (first | (go_at_call 19; refine (HC2.out _).mono ?_; rintro e w' ⟨rfl, x1, rfl⟩) | (go_at_call 54; refine (HWC.out _).mono ?_; rintro e w' ⟨rfl, x2, rfl⟩))
  obtain ⟨W7, hW7⟩ : ∃ W7, W7 = x2.w.alloc (bxO X p cp q d) := ⟨_, rfl⟩
  have hn7 := heap_new x2.w (bxO X p cp q d)
  obtain ⟨b7, hb7⟩ : ∃ b7, b7 = x2.w.heap.size := ⟨_, rfl⟩
  rw [← hW7, ← hb7] at hn7
  have hE7 : Ext W W7 := by rw [hW7]; exact Ext.alloc x2.h _
  have hEw7 := HE.out.trans hE7
  have hb7u : b7 < W7.heap.size := (Array.getElem?_eq_some_iff.1 hn7).1
  unfold bxO at hW7
  rw [← hW7, ← hb7]
  have r0 := ExtW.cell (hE7.cell (q0 ⟨W, Ext.refl W⟩))
  have d0 := ExtW.cell (v := .int .i64 X.weeks) (cell_of_heap hn7 0)
  have d1 := ExtW.cell (v := .int .i64 X.price) (cell_of_heap hn7 1)
  have d2 := ExtW.cell (v := .int .i64 X.age) (cell_of_heap hn7 2)
  have d3 := ExtW.cell (v := .int .i64 X.step) (cell_of_heap hn7 3)
  have d4 := ExtW.cell (v := .slice p X.rough.length cp) (cell_of_heap hn7 4)
  have d5 := ExtW.cell (v := .slice q X.recs.length d) (cell_of_heap hn7 5)
  have HN7 := Lib.hid hn7
  have HE7 := Lib.hid hEw7
  obtain ⟨y0, hy0⟩ := ExtW.of (Ext.refl W7)
  clear hW7 hn7 hE7 hEw7 q0 q1 q2 q3 q4 q5 hb7 HE
  conv => arg 5; rw [hy0]
  clear hy0
  have hwk := HWK.out
  rw [hwk] at r0
  clear hwk
  go_wp2
  go_loopw [8] (fun i wr => ∃ n : Nat, n ≤ wk ∧ i = .int .i64 n ∧ (∀ m, n < m → m ≤ wk → enoughB X budget m = false) ∧ ∃ x : ExtW W7, wr = x.w) (fun i _ => (intOf i).toNat)
  case atStart => exact ⟨wk, Nat.le_refl _, rfl, fun m h1 h2 => absurd h1 (by omega), y0, rfl⟩
  case round =>
    clear y0
    obtain ⟨n, hn, rfl, hno, x, rfl⟩ := hrel
    have HNO := Lib.hid hno
    clear hno
    by_cases hpos : 0 < n
    · have hpos' : decide ((0 : Int) < n) = true := by simp; omega
      have hsays : ∀ y : ExtW W7, Says 71 #[.pointer (some ⟨b7, 0, none⟩)] y.w X (fun c => allW X c X.price) := fun y => ⟨Try.call71, fun w' v c hw' hu hc => by
        have := lastFn03 X HX.out p q cp d b7 v c w' hu hc (HR.out.ext ((HE7.out.trans y.h).trans hw')) (HG.out.ext ((HE7.out.trans y.h).trans hw')) ((Below.block (y.h.trans hw') _ hb7u).trans HN7.out)
        simpa using this⟩
      have HLE := Lib.hid (fun y : ExtW W7 => least03 X HX.out p q cp d n (by have := HWK.out; omega) 71 #[.pointer (some ⟨b7, 0, none⟩)] _ y.w (HR.out.ext (HE7.out.trans y.h)) (HG.out.ext (HE7.out.trans y.h)) (hsays y))
      have hbt : bestTo X n = leastL (fun c => allW X c X.price) (choicesW X n) := rfl
      have hbok : ∀ c, bestTo X n = some c → ChOK X c := fun c hc => leastL_ok _ (fun c hc => choices_ok HX.out (by omega) hc) c hc
      rw [← hbt] at HLE
      clear hsays hbt
      cases hbw : bestTo X n with
      | none =>
        rw [hbw] at HLE
        have HEN : Hid (enoughB X budget n = false) := Lib.hid (by unfold enoughB; rw [hbw])
        clear hbw hbok
        go_wp2_with (go_at_call 70; refine (HLE.out _).mono ?_; rintro e W8 ⟨hE8, rfl⟩; unfold zeroCh)
        go_roundw
        case rel =>
          refine ⟨n - 1, by omega, by rw [show ((n - 1 : Nat) : Int) = (n : Int) - 1 by omega], fun m h1 h2 => ?_, ⟨⟨_, Ext.alloc (x.h.trans hE8) _⟩, rfl⟩⟩
          by_cases e : n = m
          · rw [← e]; exact HEN.out
          · exact HNO.out m (by omega) h2
        case measure => simp [intOf]; omega
      | some c =>
        rw [hbw] at HLE
        have hok := hbok c hbw
        have hen : enoughB X budget n = decide (allW X c X.price ≤ budget) := by unfold enoughB; rw [hbw]
        have HEN := Lib.hid hen
        clear hbw hbok hen
        go_upto_region 11 with (go_at_call 70; refine (HLE.out _).mono ?_; rintro e W8 ⟨hE8, u, rfl, ⟨mp, mc, rfl, hma, -⟩⟩)
        have hn9 := heap_new W8 (.cells #[.int .u64 c.needles, .slice mp c.records.length mc] 105)
        have hma9 := hma.ext (Ext.alloc (Ext.refl W8) (.cells #[.int .u64 c.needles, .slice mp c.records.length mc] 105))
        obtain ⟨x9, hx9⟩ := ExtW.of (Ext.alloc (x.h.trans hE8) (.cells #[.int .u64 c.needles, .slice mp c.records.length mc] 105))
        rw [hx9] at hn9 hma9
        conv => arg 5; rw [hx9]
        clear hx9
        have e0 : x9.w.cell? ⟨W8.heap.size, 0, none⟩ = some (.int .u64 c.needles) := (cell_of_heap hn9 0).trans rfl
        have e1 : x9.w.cell? ⟨W8.heap.size, 1, none⟩ = some (.slice mp c.records.length mc) := (cell_of_heap hn9 1).trans rfl
        have HWH := Lib.hid (ExtW.call (whole03 (.agg #[.int .i64 X.weeks, .int .i64 X.price, .int .i64 X.age, .int .i64 X.step, .slice p X.rough.length cp, .slice q X.recs.length d]) (.agg #[.int .u64 c.needles, .slice mp c.records.length mc]) X c x9.w ⟨_, _, _, _, rfl, HG.out.ext (HE7.out.trans x9.h), HR.out.ext (HE7.out.trans x9.h)⟩ HX.out ⟨_, _, rfl, hma9⟩ hok))
        obtain ⟨aw, haw⟩ : ∃ aw, aw = allW X c X.price := ⟨_, rfl⟩
        rw [← haw] at HWH HEN
        clear haw hn9 hma hma9 hE8 hok
        by_cases hle : aw ≤ budget
        · have hle' : decide (aw ≤ budget) = true := by simpa using hle
          have HLB := Lib.hid hle
          clear hle
          go_wp2_with (go_at_call 62; refine HWH.out.mono ?_; rintro e w' ⟨rfl, x10, rfl⟩)
          go_ret2
          refine RetE.fin (HE7.out.trans x10.h) ?_
          have h1 := lastTo_skip X budget wk hn HNO.out
          have h2 : lastTo X budget n = n := by
            obtain ⟨m, rfl⟩ : ∃ m, n = m + 1 := ⟨n - 1, by omega⟩
            rw [lastTo, if_pos (by rw [HEN.out]; simpa using HLB.out)]
          unfold lastV
          rw [if_pos HB.out, HWK.out, Int.toNat_natCast, h1, h2]
          rfl
        · have hle' : decide (aw ≤ budget) = false := by simpa using hle
          have HLB := Lib.hid hle
          clear hle
          go_wp2_with (go_at_call 62; refine HWH.out.mono ?_; rintro e w' ⟨rfl, x10, rfl⟩)
          go_roundw
          case rel =>
            refine ⟨n - 1, by omega, by rw [show ((n - 1 : Nat) : Int) = (n : Int) - 1 by omega], fun m h1 h2 => ?_, x10, rfl⟩
            by_cases e : n = m
            · rw [← e, HEN.out]; simpa using HLB.out
            · exact HNO.out m (by omega) h2
          case measure => simp [intOf]; omega
    · obtain rfl : n = 0 := by omega
      go_wp2
      go_ret2
      refine RetE.fin (HE7.out.trans x.h) ?_
      have h1 := lastTo_skip X budget wk hn HNO.out
      unfold lastV
      rw [if_pos HB.out, HWK.out, Int.toNat_natCast, h1]
      rfl
end Go.Proofs.Ytkcilgjkdiopnaa
