
/- The walks of the small functions of shellacref01: Within, In, SameInts, Rising. The walk of Example of shellaclaw03. The chapter's example, reckoned out. The walk of works of shellaclaw03. The walk of the reference's Check. The walks of Far, farPlan, ready and the reference's IsPlan. -/
import Derived.Test.YtppncdbhebgcaaaRows
import Derived.Test.YtppncdbhebgcaaaVA
import Derived.Test.YtppncdbhebgcaaaVF
import Derived.Test.YtppncdbhebgcaaaVE
import Derived.Deep.RegionHeld3
namespace Go.Proofs.Ytppncdbhebgcaaa.We
open Go.RowKit

set_option maxHeartbeats 400000 in
theorem Within01 (n lo hi : Int) (w : World) :
    Calls Try.prog 37 #[.int .i64 n, .int .i64 lo, .int .i64 hi] w (RetQ (.bool (bP (lo ≤ n ∧ n ≤ hi))) w) := by
  go_enter Try.func37, Try.ntmps37
  by_cases h1 : lo ≤ n
  · by_cases h2 : n ≤ hi
    · go_wp2
      go_ret
      exact RetQ.t0 ⟨h1, h2⟩
    · go_wp2
      go_ret
      exact RetQ.f0 (by omega)
  · go_wp2
    go_ret
    exact RetQ.f0 (by omega)

end Go.Proofs.Ytppncdbhebgcaaa.We
namespace Go.Proofs.Ytppncdbhebgcaaa.We
open Go.RowKit

end Go.Proofs.Ytppncdbhebgcaaa.We
namespace Go.Proofs.Ytppncdbhebgcaaa.We
open Go.RowKit

end Go.Proofs.Ytppncdbhebgcaaa.We
namespace Go.Proofs.Ytppncdbhebgcaaa.We
open Go.RowKit

end Go.Proofs.Ytppncdbhebgcaaa.We
namespace Go.Proofs.Ytppncdbhebgcaaa.We
open Go.RowKit

theorem rwithin03 (n lo hi : Int) (w : World) : Calls Try.prog 34 #[.int .i64 n, .int .i64 lo, .int .i64 hi] w (RetQ (.bool (bP (lo ≤ n ∧ n ≤ hi))) w) := by
  have H := Lib.hid (Within01 n lo hi w)
  go_enter Try.func34, Try.ntmps34
  go_wp2_with fail
  refine H.out.mono ?_
  rintro e _ ⟨rfl, m, rfl⟩
  go_wp2
  go_ret
  exact RetQ.mk m
theorem rIn {W : World} {n lo hi : Int} (h : lo ≤ n ∧ n ≤ hi) (y : ExtW W) : Calls Try.prog 34 #[.int .i64 n, .int .i64 lo, .int .i64 hi] y.w fun e w'' => e = .returned (.bool true) ∧ ∃ z : ExtW W, w'' = z.w :=
  ExtW.call (RetQ.e (RetQ.bt h (rwithin03 n lo hi y.w)))
theorem rOut {W : World} {n lo hi : Int} (h : ¬(lo ≤ n ∧ n ≤ hi)) (y : ExtW W) : Calls Try.prog 34 #[.int .i64 n, .int .i64 lo, .int .i64 hi] y.w fun e w'' => e = .returned (.bool false) ∧ ∃ z : ExtW W, w'' = z.w :=
  ExtW.call (RetQ.e (RetQ.bf h (rwithin03 n lo hi y.w)))

set_option maxHeartbeats 1600000 in
theorem rCheck03 (v : Value) (X : Wr) (w : World) (hv : WrV w v X) (hM : ModestW X) : Calls Try.prog 19 #[v] w (RetE (.int .i64 (chkW X)) w) := by
  obtain ⟨p, c, q, d, rfl, h1, h2⟩ := hv
  have m1 := hM.rough
  have m2 := hM.recs
  go_enter Try.func19, Try.ntmps19
  go_upto_region 1 with (fail)
  have hn := heap_new w (.cells (wrCells X p c q d) 57)
  unfold wrCells at hn
  obtain ⟨W, hW⟩ : ∃ W, W = w.alloc (.cells #[.int .i64 X.weeks, .int .i64 X.price, .int .i64 X.age, .int .i64 X.step, .slice p X.rough.length c, .slice q X.recs.length d] 57) := ⟨_, rfl⟩
  have hE : Ext w W := by rw [hW]; exact Ext.alloc (Ext.refl w) _
  rw [← hW] at hn ⊢
  have q0 := ExtW.cell (v := .int .i64 X.weeks) (cell_of_heap hn 0)
  have q1 := ExtW.cell (v := .int .i64 X.price) (cell_of_heap hn 1)
  have q2 := ExtW.cell (v := .int .i64 X.age) (cell_of_heap hn 2)
  have q3 := ExtW.cell (v := .int .i64 X.step) (cell_of_heap hn 3)
  have q4 := ExtW.cell (v := .slice p X.rough.length c) (cell_of_heap hn 4)
  have q5 := ExtW.cell (v := .slice q X.recs.length d) (cell_of_heap hn 5)
  obtain ⟨x0, hx0⟩ := ExtW.of (Ext.refl W)
  have k1 := h1.ext hE
  have k2 := h2.ext hE
  clear hW hn h1 h2
  conv => arg 5; rw [hx0]
  clear hx0
  by_cases hA : 0 ≤ X.weeks ∧ X.weeks ≤ 6
  case neg =>
    have HA := Lib.hid hA
    have HCA := Lib.hid (rOut (W := W) hA)
    clear hA
    go_wp2_with (go_at_call 34; (with_reducible first | refine (HCA.out _).mono ?_); rintro e w' ⟨rfl, x2, rfl⟩)
    go_ret
    exact RetE.fin (hE.trans x2.h) (chkW_30 (fun h => HA.out h.weeks) rfl)
  have HA := Lib.hid hA
  have HCA := Lib.hid (rIn (W := W) hA)
  clear hA
  by_cases hD : 0 ≤ X.price ∧ X.price ≤ 999
  case neg =>
    have HD := Lib.hid hD
    have HCD := Lib.hid (rOut (W := W) hD)
    clear hD
    go_wp2_with (go_at_call 34; (with_reducible first | refine (HCA.out _).mono ?_ | refine (HCD.out _).mono ?_); rintro e w' ⟨rfl, x2, rfl⟩)
    go_ret
    exact RetE.fin (hE.trans x2.h) (chkW_30 (fun h => HD.out h.price) rfl)
  have HD := Lib.hid hD
  have HCD := Lib.hid (rIn (W := W) hD)
  clear hD
  by_cases hB : 0 ≤ X.age ∧ X.age ≤ 9999
  case neg =>
    have HB := Lib.hid hB
    have HCB := Lib.hid (rOut (W := W) hB)
    clear hB
    go_wp2_with (go_at_call 34; (with_reducible first | refine (HCA.out _).mono ?_ | refine (HCD.out _).mono ?_ | refine (HCB.out _).mono ?_); rintro e w' ⟨rfl, x2, rfl⟩)
    go_ret
    exact RetE.fin (hE.trans x2.h) (chkW_30 (fun h => HB.out h.age) rfl)
  have HB := Lib.hid hB
  have HCB := Lib.hid (rIn (W := W) hB)
  clear hB
  by_cases hC : 1 ≤ X.step ∧ X.step ≤ 999
  case neg =>
    have HC := Lib.hid hC
    have HCC := Lib.hid (rOut (W := W) hC)
    clear hC
    go_wp2_with (go_at_call 34; (with_reducible first | refine (HCA.out _).mono ?_ | refine (HCD.out _).mono ?_ | refine (HCB.out _).mono ?_ | refine (HCC.out _).mono ?_); rintro e w' ⟨rfl, x2, rfl⟩)
    go_ret
    exact RetE.fin (hE.trans x2.h) (chkW_30 (fun h => HC.out h.step) rfl)
  have HC := Lib.hid hC
  have HCC := Lib.hid (rIn (W := W) hC)
  clear hC
  by_cases hF : 1 ≤ (X.rough.length : Int) ∧ (X.rough.length : Int) ≤ 8
  case neg =>
    have HF := Lib.hid hF
    have HCF := Lib.hid (rOut (W := W) hF)
    clear hF
    go_wp2_with (go_at_call 34; (with_reducible first | refine (HCA.out _).mono ?_ | refine (HCD.out _).mono ?_ | refine (HCB.out _).mono ?_ | refine (HCC.out _).mono ?_ | refine (HCF.out _).mono ?_); rintro e w' ⟨rfl, x2, rfl⟩)
    go_ret
    exact RetE.fin (hE.trans x2.h) (chkW_30 (fun h => HF.out h.rough) rfl)
  have HF := Lib.hid hF
  have HCF := Lib.hid (rIn (W := W) hF)
  clear hF
  by_cases hG : X.recs.length ≤ 4
  case neg =>
    have HG := Lib.hid hG
    have hG' : 4 < (X.recs.length : Int) := by omega
    clear hG
    go_wp2_with (go_at_call 34; (with_reducible first | refine (HCA.out _).mono ?_ | refine (HCD.out _).mono ?_ | refine (HCB.out _).mono ?_ | refine (HCC.out _).mono ?_ | refine (HCF.out _).mono ?_); rintro e w' ⟨rfl, x2, rfl⟩)
    go_ret
    exact RetE.fin (hE.trans x2.h) (chkW_30 (fun h => HG.out h.recs) rfl)
  have hG' : ¬ 4 < (X.recs.length : Int) := by omega
  go_wp2_with (go_at_call 34; (with_reducible first | refine (HCA.out _).mono ?_ | refine (HCD.out _).mono ?_ | refine (HCB.out _).mono ?_ | refine (HCC.out _).mono ?_ | refine (HCF.out _).mono ?_); rintro e w' ⟨rfl, x1, rfl⟩)
  go_loopw [3] (fun i wr => ∃ k : Nat, k ≤ X.rough.length ∧ i = .int .i64 k ∧ ((∀ j (h : j < X.rough.length), j < k → 0 ≤ X.rough[j] ∧ X.rough[j] ≤ 99) ∧ ∀ j (h : j + 1 < X.rough.length), j + 1 < k → X.rough[j] ≤ X.rough[j+1]) ∧ ∃ x : ExtW W, wr = x.w) (fun i _ => X.rough.length - (intOf i).toNat)
  case atStart => exact ⟨0, by omega, rfl, ⟨fun j h hj => absurd hj (by omega), fun j h hj => absurd hj (by omega)⟩, x1, rfl⟩
  case round =>
    clear x1
    obtain ⟨k, hk, rfl, hr, x, rfl⟩ := hrel
    have HR := Lib.hid hr
    clear hr
    by_cases hlt : k < X.rough.length
    · obtain ⟨b, o, rfl, hc⟩ := k1.at k hlt
      have rc := ExtW.cell hc
      clear hc
      by_cases hw : 0 ≤ X.rough[k] ∧ X.rough[k] ≤ 99
      · have HW := Lib.hid hw
        have HWC := Lib.hid (rIn (W := W) hw)
        clear hw
        by_cases hk0 : 0 < k
        · obtain ⟨b', o', he, hc'⟩ := k1.at (k - 1) (by omega)
          obtain ⟨rfl, rfl⟩ : b = b' ∧ o = o' := by simpa using he
          clear he
          have rc' := ExtW.cell hc'
          clear hc'
          have hk0' : decide ((0 : Int) < k) = true := by simp; omega
          have hx : IntKind.i64.wrap ((k : Int) - 1) = (k : Int) - 1 := by rw [IntKind.wrap_i64]; omega
          have hx2 : ((k : Int) - 1).toNat = k - 1 := by omega
          have hx3 : 0 ≤ (k : Int) - 1 := by omega
          by_cases hle : X.rough[k] < X.rough[k-1]
          · have HL := Lib.hid hle
            have hle' : decide (X.rough[k] < X.rough[k-1]) = true := by simpa using hle
            clear hle
            go_upto_region 6 with (fail)
            refine wp_region_extW (by kernel_rfl) (by kernel_rfl) ?_
            repeat (go_big_quiet_step ((go_at_call 34; exact HWC.out _)))
            refine wpQuiet_nil ?_
            rintro _ ⟨x2, rfl⟩
            go_wp2
            go_ret
            refine RetE.fin (hE.trans x2.h) (chkW_30 (fun h => ?_) rfl)
            have := h.up (k-1) (by omega)
            simp only [show k - 1 + 1 = k from by omega] at this
            have := HL.out
            omega
          · have HL := Lib.hid hle
            have hle' : decide (X.rough[k] < X.rough[k-1]) = false := by simpa using hle
            clear hle
            go_upto_region 6 with (fail)
            refine wp_region_extW (by kernel_rfl) (by kernel_rfl) ?_
            repeat (go_big_quiet_step ((go_at_call 34; exact HWC.out _)))
            refine wpQuiet_nil ?_
            rintro _ ⟨x2, rfl⟩
            go_wp2
            go_roundw
            case rel => exact ⟨k + 1, by omega, by go_num, ⟨fun j h hj => by
                by_cases e : j < k
                · exact HR.out.1 j h e
                · obtain rfl : j = k := by omega
                  exact HW.out, fun j h hj => by
                by_cases e : j + 1 < k
                · exact HR.out.2 j h e
                · obtain rfl : k = j + 1 := by omega
                  have := HL.out
                  simp only [show j + 1 - 1 = j from by omega] at this
                  omega⟩, x2, rfl⟩
            case measure => simp [intOf]; omega
        · obtain rfl : k = 0 := by omega
          simp only [Nat.add_zero] at rc
          clear hk0
          go_upto_region 6 with (fail)
          refine wp_region_extW (by kernel_rfl) (by kernel_rfl) ?_
          repeat (go_big_quiet_step ((go_at_call 34; exact HWC.out _)))
          refine wpQuiet_nil ?_
          rintro _ ⟨x2, rfl⟩
          go_wp2
          go_roundw
          case rel => exact ⟨0 + 1, by omega, by go_num, ⟨fun j h hj => by
                obtain rfl : j = 0 := by omega
                exact HW.out, fun j h hj => absurd hj (by omega)⟩, x2, rfl⟩
          case measure => simp [intOf]; omega
      · have HW := Lib.hid hw
        have HWC := Lib.hid (rOut (W := W) hw)
        clear hw
        go_upto_region 6 with (fail)
        refine wp_region_extW (by kernel_rfl) (by kernel_rfl) ?_
        repeat (go_big_quiet_step ((go_at_call 34; exact HWC.out _)))
        refine wpQuiet_nil ?_
        rintro _ ⟨x2, rfl⟩
        go_wp2
        go_ret
        exact RetE.fin (hE.trans x2.h) (chkW_30 (fun h => HW.out (h.rg k hlt)) rfl)
    obtain rfl : k = X.rough.length := by omega
    have HRG := Lib.hid (show (∀ j (h : j < X.rough.length), 0 ≤ X.rough[j] ∧ X.rough[j] ≤ 99) ∧ ∀ j (h : j + 1 < X.rough.length), X.rough[j] ≤ X.rough[j+1] from ⟨fun j h => HR.out.1 j h h, fun j h => HR.out.2 j h h⟩)
    clear HR hlt hk
    go_wp2
    go_loopw [4] (fun i wr => ∃ k : Nat, k ≤ X.recs.length ∧ i = .int .i64 k ∧ (∀ j (h : j < X.recs.length), j < k → ROK X.weeks X.recs[j]) ∧ ∃ x : ExtW W, wr = x.w) (fun i _ => X.recs.length - (intOf i).toNat)
    case atStart => exact ⟨0, by omega, rfl, fun j h hj => absurd hj (by omega), x, rfl⟩
    case round =>
      clear x
      obtain ⟨k, hk, rfl, hr, x, rfl⟩ := hrel
      have HR := Lib.hid hr
      clear hr
      by_cases hlt : k < X.recs.length
      · obtain ⟨b, o, q', c', rfl, hc1, hc2, hc3, hc4, hq⟩ := k2.ext x.h k hlt
        go_upto_region 12 with (fail)
        have hn := heap_new x.w (.cells #[.int .i64 X.recs[k].worn, .int .i64 X.recs[k].limit, .int .i64 X.recs[k].price, .slice q' X.recs[k].plays.length c'] 59)
        obtain ⟨W2, hW2⟩ : ∃ W2, W2 = x.w.alloc (.cells #[.int .i64 X.recs[k].worn, .int .i64 X.recs[k].limit, .int .i64 X.recs[k].price, .slice q' X.recs[k].plays.length c'] 59) := ⟨_, rfl⟩
        have hE2 : Ext x.w W2 := by rw [hW2]; exact Ext.alloc (Ext.refl _) _
        rw [← hW2] at hn ⊢
        have n0 := ExtW.cell (v := .int .i64 X.recs[k].worn) (cell_of_heap hn 0)
        have n1 := ExtW.cell (v := .int .i64 X.recs[k].limit) (cell_of_heap hn 1)
        have n2 := ExtW.cell (v := .int .i64 X.recs[k].price) (cell_of_heap hn 2)
        have n3 := ExtW.cell (v := .slice q' X.recs[k].plays.length c') (cell_of_heap hn 3)
        have r0 := ExtW.cell (hE2.cell (q0 x))
        have r5 := ExtW.cell (hE2.cell (q5 x))
        have hEW := (hE.trans x.h).trans hE2
        have hmp := hM.plays k hlt
        obtain ⟨y0, hy0⟩ := ExtW.of (Ext.refl W2)
        clear hW2 hn hc1 hc2 hc3 hc4
        conv => arg 5; rw [hy0]
        clear hy0
        by_cases rA : 0 ≤ X.recs[k].worn ∧ X.recs[k].worn ≤ 99999
        case neg =>
          have RA := Lib.hid rA
          have RCA := Lib.hid (rOut (W := W2) rA)
          clear rA
          go_wp2_with (go_at_call 34; (with_reducible first | refine (RCA.out _).mono ?_); rintro e w' ⟨rfl, x3, rfl⟩)
          go_ret
          exact RetE.fin (hEW.trans x3.h) (chkW_30 (fun h => RA.out (h.rc k hlt).worn) rfl)
        have RA := Lib.hid rA
        have RCA := Lib.hid (rIn (W := W2) rA)
        clear rA
        by_cases rB : 0 ≤ X.recs[k].limit ∧ X.recs[k].limit ≤ 99999
        case neg =>
          have RB := Lib.hid rB
          have RCB := Lib.hid (rOut (W := W2) rB)
          clear rB
          go_wp2_with (go_at_call 34; (with_reducible first | refine (RCA.out _).mono ?_ | refine (RCB.out _).mono ?_); rintro e w' ⟨rfl, x3, rfl⟩)
          go_ret
          exact RetE.fin (hEW.trans x3.h) (chkW_30 (fun h => RB.out (h.rc k hlt).limit) rfl)
        have RB := Lib.hid rB
        have RCB := Lib.hid (rIn (W := W2) rB)
        clear rB
        by_cases rC : 0 ≤ X.recs[k].price ∧ X.recs[k].price ≤ 999
        case neg =>
          have RC := Lib.hid rC
          have RCC := Lib.hid (rOut (W := W2) rC)
          clear rC
          go_wp2_with (go_at_call 34; (with_reducible first | refine (RCA.out _).mono ?_ | refine (RCB.out _).mono ?_ | refine (RCC.out _).mono ?_); rintro e w' ⟨rfl, x3, rfl⟩)
          go_ret
          exact RetE.fin (hEW.trans x3.h) (chkW_30 (fun h => RC.out (h.rc k hlt).price) rfl)
        have RC := Lib.hid rC
        have RCC := Lib.hid (rIn (W := W2) rC)
        clear rC
        by_cases rD : (X.recs[k].plays.length : Int) = X.weeks
        case neg =>
          have RD := Lib.hid rD
          have rD' : ((X.recs[k].plays.length : Int) != X.weeks) = true := by simpa using rD
          clear rD
          go_wp2_with (go_at_call 34; (with_reducible first | refine (RCA.out _).mono ?_ | refine (RCB.out _).mono ?_ | refine (RCC.out _).mono ?_); rintro e w' ⟨rfl, x3, rfl⟩)
          go_ret
          exact RetE.fin (hEW.trans x3.h) (chkW_30 (fun h => RD.out (h.rc k hlt).len) rfl)
        have RD := Lib.hid rD
        have rD' : ((X.recs[k].plays.length : Int) != X.weeks) = false := by simpa using rD
        clear rD
        go_wp2_with (go_at_call 34; (with_reducible first | refine (RCA.out _).mono ?_ | refine (RCB.out _).mono ?_ | refine (RCC.out _).mono ?_); rintro e w' ⟨rfl, x3, rfl⟩)
        clear y0
        go_loopw [6] (fun i wr => ∃ m : Nat, m ≤ X.recs[k].plays.length ∧ i = .int .i64 m ∧ (∀ j (h : j < X.recs[k].plays.length), j < m → 0 ≤ X.recs[k].plays[j] ∧ X.recs[k].plays[j] ≤ 99) ∧ ∃ z : ExtW W2, wr = z.w) (fun i _ => X.recs[k].plays.length - (intOf i).toNat)
        case atStart => exact ⟨0, by omega, rfl, fun j h hj => absurd hj (by omega), x3, rfl⟩
        case round =>
          clear x3
          obtain ⟨m, hm, rfl, hr, z, rfl⟩ := hrel
          have HP := Lib.hid hr
          clear hr
          by_cases hlm : m < X.recs[k].plays.length
          · obtain ⟨b3, o3, rfl, hc⟩ := (hq.ext (hE2.trans z.h)).at m hlm
            by_cases hw : 0 ≤ X.recs[k].plays[m] ∧ X.recs[k].plays[m] ≤ 99
            · have HW := Lib.hid hw
              have HWC := Lib.hid (rIn (W := W2) hw)
              clear hw
              go_wp2_with (go_at_call 34; refine (HWC.out _).mono ?_; rintro e w' ⟨rfl, z2, rfl⟩)
              go_roundw
              case rel => exact ⟨m + 1, by omega, by go_num, fun j h hj => by
                  by_cases e : j < m
                  · exact HP.out j h e
                  · obtain rfl : j = m := by omega
                    exact HW.out, z2, rfl⟩
              case measure => simp [intOf]; omega
            · have HW := Lib.hid hw
              have HWC := Lib.hid (rOut (W := W2) hw)
              clear hw
              go_wp2_with (go_at_call 34; refine (HWC.out _).mono ?_; rintro e w' ⟨rfl, z2, rfl⟩)
              go_ret
              exact RetE.fin (hEW.trans z2.h) (chkW_30 (fun h => HW.out ((h.rc k hlt).play m hlm)) rfl)
          · obtain rfl : m = X.recs[k].plays.length := by omega
            have HPL := Lib.hid (fun j h => HP.out j h h)
            clear HP
            go_wp2
            go_roundw
            case rel => exact ⟨k + 1, by omega, by go_num, fun j h hj => by
                by_cases e : j < k
                · exact HR.out j h e
                · obtain rfl : j = k := by omega
                  exact ⟨RA.out, RB.out, RC.out, RD.out, HPL.out⟩, ⟨⟨z.w, (x.h.trans hE2).trans z.h⟩, rfl⟩⟩
            case measure => simp [intOf]; omega
      · go_wp2
        go_ret
        refine RetE.fin (hE.trans x.h) ?_
        rw [chkW_t ⟨HA.out, HB.out, HC.out, HD.out, HF.out, by omega, HRG.out.1, HRG.out.2, fun j h => HR.out j h (by omega)⟩]
        rfl
end Go.Proofs.Ytppncdbhebgcaaa.We
namespace Go.Proofs.Ytppncdbhebgcaaa.We
open Go.RowKit

end Go.Proofs.Ytppncdbhebgcaaa.We
