
/- Charts: ready, isKnown, subset. -/
import Derived.Test.YtaoamnhchidjfaaDoorC8c
namespace Go.Proofs.YtaoamnhchidjfaaDoor
open Go.RowKit

noncomputable def readyC (C : Ch) : Bool := !farC C && okC C
theorem readyC_iff {C : Ch} : readyC C = true ↔ farC C = false ∧ ValidC C := by
  unfold readyC
  rw [Bool.and_eq_true, okC_iff, Bool.not_eq_true']

set_option maxRecDepth 20000 in
theorem ready06 (C : Ch) (v : Value) (w : World) (hv : ChV w v C) : Calls Tryd.prog 6 #[v] w (RetE (.bool (readyC C)) w) := by
  have HV := Lib.hid hv
  obtain ⟨p, c, q, d, rfl, hp, hq⟩ := hv
  go_enter Tryd.func6, Tryd.ntmps6
  go_upto_region 1 with (fail)
  obtain ⟨s0, hs0⟩ : ∃ s0, s0 = w.heap.size := ⟨_, rfl⟩
  obtain ⟨W, hW⟩ : ∃ W, W = w.alloc (.cells #[.slice p C.meters.length c, .slice q C.extra.length d, .int .i64 C.frm, .int .i64 C.tto] 25) := ⟨_, rfl⟩
  have m0 : W.heap[s0]? = some (.cells #[.slice p C.meters.length c, .slice q C.extra.length d, .int .i64 C.frm, .int .i64 C.tto] 25) := by rw [hs0, hW]; exact heap_new _ _
  have hE : Ext w W := by rw [hW]; exact Ext.alloc (Ext.refl _) _
  rw [← hs0, ← hW]
  have q0 := ExtW.cell (v := .slice p C.meters.length c) (cell_of_heap m0 0)
  have q1 := ExtW.cell (v := .slice q C.extra.length d) (cell_of_heap m0 1)
  have q2 := ExtW.cell (v := .int .i64 C.frm) (cell_of_heap m0 2)
  have q3 := ExtW.cell (v := .int .i64 C.tto) (cell_of_heap m0 3)
  have HE := Lib.hid hE
  have HP := Lib.hid (hp.ext hE)
  have HQ := Lib.hid (hq.ext hE)
  have HVW := Lib.hid (HV.out.ext hE)
  have HFA := Lib.hid (fun x : ExtW W => ExtW.call (Far06 C _ x.w (HVW.out.ext x.h)))
  obtain ⟨x0, hx0⟩ := ExtW.of (Ext.refl W)
  clear hW m0 hE hs0 hp hq
  conv => arg 5; rw [hx0]
  clear hx0
  obtain ⟨b, hb⟩ : ∃ b, farC C = b := ⟨_, rfl⟩
  rw [hb] at HFA
  cases b
  · have hsm := farC_sm hb
    have HCK := Lib.hid (fun x : ExtW W => ExtW.call (rCheck06 C _ x.w (HVW.out.ext x.h) hsm))
    clear hsm
    by_cases hM : ValidC C
    · have HR := Lib.hid (readyC_iff.2 ⟨hb, hM⟩)
      have HK := Lib.hid (show ∀ x : ExtW W, _ from (chkC_t hM) ▸ HCK.out)
      clear hb hM HCK
      go_wp2_with (first
        | (go_at_call 22; refine (HFA.out _).mono ?_; rintro e w1 ⟨rfl, x1, rfl⟩)
        | (go_at_call 23; refine (HK.out _).mono ?_; rintro e w1 ⟨rfl, x2, rfl⟩))
      go_ret
      exact RetE.fin (HE.out.trans x2.h) (by rw [HR.out]; rfl)
    · have HR := Lib.hid (show readyC C = false from Bool.eq_false_iff.2 (fun e => hM (readyC_iff.1 e).2))
      have HK := Lib.hid (show ∀ x : ExtW W, _ from (chkC_f hM) ▸ HCK.out)
      clear hb hM HCK
      go_wp2_with (first
        | (go_at_call 22; refine (HFA.out _).mono ?_; rintro e w1 ⟨rfl, x1, rfl⟩)
        | (go_at_call 23; refine (HK.out _).mono ?_; rintro e w1 ⟨rfl, x2, rfl⟩))
      go_ret
      exact RetE.fin (HE.out.trans x2.h) (by rw [HR.out]; rfl)
  · have HR := Lib.hid (show readyC C = false from Bool.eq_false_iff.2 (fun e => by have := (readyC_iff.1 e).1; rw [hb] at this; cases this))
    clear hb
    go_wp2_with (go_at_call 22; refine (HFA.out _).mono ?_; rintro e w1 ⟨rfl, x1, rfl⟩)
    go_ret
    exact RetE.fin (HE.out.trans x1.h) (by rw [HR.out]; rfl)

theorem isKnown06 (n : Int) (w : World) : Calls Tryd.prog 13 #[.int .i64 n] w (RetE (.bool (decide (n = 0) || decide (n = 3))) w) := by
  go_enter Tryd.func13, Tryd.ntmps13
  by_cases h1 : n = 0
  · subst h1
    go_wp2
    go_ret
    exact RetE.fin (Ext.refl _) rfl
  · have g1 : (n == 0) = false := by simpa using h1
    have HG := Lib.hid (show decide (n = 0) = false from by simpa using h1)
    clear h1
    by_cases h2 : n = 3
    · subst h2
      clear g1
      go_wp2
      go_ret
      exact RetE.fin (Ext.refl _) rfl
    · have g2 : (n == 3) = false := by simpa using h2
      have HH := Lib.hid (show decide (n = 3) = false from by simpa using h2)
      clear h2
      go_wp2
      go_ret
      exact RetE.fin (Ext.refl _) (by rw [HG.out, HH.out]; rfl)

theorem subset06 (p q : Option Addr) (a b : List Int) (c d : Nat) (w : World) (ha : IntsAt w p a) (hb : IntsAt w q b) (hl : a.length ≤ b.length) (hm : b.length ≤ 6) (hs : ∀ x ∈ a, x ∈ b) :
    Calls Tryd.prog 14 #[.slice p a.length c, .slice q b.length d] w (RetE (.bool true) w) := by
  have HA := Lib.hid ha
  have HB := Lib.hid hb
  have HS := Lib.hid hs
  have g1 : ¬(b.length : Int) < (a.length : Int) := by omega
  have g2 : ¬6 < (b.length : Int) := by omega
  clear ha hb hs
  go_enter Tryd.func14, Tryd.ntmps14
  go_upto_region 3 with (fail)
  clear g1 g2
  go_wp2
  go_loopw [5] (fun i wr => ∃ k : Nat, k ≤ a.length ∧ i = .int .i64 k ∧ ∃ x : ExtW w, wr = x.w) (fun i _ => a.length - (intOf i).toNat)
  case atStart => exact ⟨0, Nat.zero_le _, rfl, ⟨w, Ext.refl _⟩, rfl⟩
  case round =>
    obtain ⟨k, hk, rfl, x, rfl⟩ := hrel
    by_cases hlt : k < a.length
    · have hlt' : (k : Int) < (a.length : Int) := by omega
      obtain ⟨bb, o, rfl, hc⟩ := HA.out.at k hlt
      have hcx := ExtW.cell hc
      have hin := fun x : ExtW w => ExtW.callX (x := x) (In02 q b d a[k] x.w (by omega) (HB.out.ext x.h))
      rw [(inL_iff b a[k]).2 (HS.out _ (List.getElem_mem hlt))] at hin
      have HIN := Lib.hid hin
      clear hc hin
      go_wp2_with (go_at_call 15; refine (HIN.out _).mono ?_; rintro e w2 ⟨rfl, x3, rfl, -⟩)
      go_roundw
      case rel => exact ⟨k + 1, by omega, by simp, x3, rfl⟩
      case measure => simp [intOf]; omega
    · obtain rfl : k = a.length := by omega
      go_wp2
      go_ret
      exact RetE.fin x.h rfl
end Go.Proofs.YtaoamnhchidjfaaDoor
