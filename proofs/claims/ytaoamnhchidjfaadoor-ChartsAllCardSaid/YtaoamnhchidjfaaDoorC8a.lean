
/- Charts: the reference's Check, IsTitle, IsRank. -/
import Derived.Test.YtaoamnhchidjfaaDoorC7e
namespace Go.Proofs.YtaoamnhchidjfaaDoor
open Go.RowKit

structure EqS2' (n m : Int) : Prop where
  out : n = m
theorem within06 (n lo hi : Int) (w : World) :
    Calls Tryd.prog 24 #[.int .i64 n, .int .i64 lo, .int .i64 hi] w (RetE (.bool (winB n lo hi)) w) := by
  have HW := Lib.hid (Within02 n lo hi w)
  go_enter Tryd.func24, Tryd.ntmps24
  go_wp2_with (go_at_call 45; refine HW.out.mono ?_; rintro e w1 ⟨rfl, hE1⟩; have HE1 := Lib.hid hE1; clear hE1)
  go_ret
  exact RetE.fin HE1.out rfl
theorem win_false {n lo hi : Int} (h : ¬(lo ≤ n ∧ n ≤ hi)) : winB n lo hi = false := Bool.eq_false_iff.2 fun e => h (by simpa [winB] using e)
theorem win_true {n lo hi : Int} (h : lo ≤ n ∧ n ≤ hi) : winB n lo hi = true := by simp [winB, h.1, h.2]

set_option maxRecDepth 20000 in
theorem rIsTitle06 (C : Ch) (n : Int) (v : Value) (w : World) (hv : ChV w v C) (hl : C.meters.length ≤ 1000) :
    Calls Tryd.prog 7 #[v, .int .i64 n] w (RetE (.bool (isTB C n)) w) := by
  have _ := hl
  obtain ⟨p, c, q, d, rfl, hp, hq⟩ := hv
  go_enter Tryd.func7, Tryd.ntmps7
  go_upto_region 1 with (fail)
  obtain ⟨s0, hs0⟩ : ∃ s0, s0 = w.heap.size := ⟨_, rfl⟩
  obtain ⟨W, hW⟩ : ∃ W, W = w.alloc (.cells #[.slice p C.meters.length c, .slice q C.extra.length d, .int .i64 C.frm, .int .i64 C.tto] 25) := ⟨_, rfl⟩
  have m0 : W.heap[s0]? = some (.cells #[.slice p C.meters.length c, .slice q C.extra.length d, .int .i64 C.frm, .int .i64 C.tto] 25) := by rw [hs0, hW]; exact heap_new _ _
  have hE : Ext w W := by rw [hW]; exact Ext.alloc (Ext.refl _) _
  rw [← hs0, ← hW]
  have q0 := ExtW.cell (v := .slice p C.meters.length c) (cell_of_heap m0 0)
  have q1 := ExtW.cell (v := .slice q C.extra.length d) (cell_of_heap m0 1)
  have q2 := ExtW.cell (v := .int .i64 C.frm) (cell_of_heap m0 2)
  have q3 := ExtW.cell (v := .int .i64 C.tto) (cell_of_heap m0 3)
  have HE := Lib.hid hE
  have HP := Lib.hid (hp.ext hE)
  have HQ := Lib.hid (hq.ext hE)
  have d0 := cell_of_heap m0 0
  have HWI := Lib.hid (fun y => within06 n 0 ((C.meters.length : Int) - 1) y)
  have hb : winB n 0 ((C.meters.length : Int) - 1) = isTB C n := by
    rw [Bool.eq_iff_iff, isTB_iff]
    simp [winB] <;> omega
  rw [hb] at HWI
  obtain ⟨b, hb2⟩ : ∃ b, b = isTB C n := ⟨_, rfl⟩
  rw [← hb2] at HWI
  have HBE := Lib.hid hb2
  have hww : IntKind.i64.wrap ((C.meters.length : Int) - 1) = (C.meters.length : Int) - 1 := IntWalk.i64_in _ (by omega)
  clear hW m0 hE hs0 hp hq q0 q1 q2 q3 hb hb2
  go_wp2_with (go_at_call 24; refine (HWI.out _).mono ?_; rintro e w2 ⟨rfl, hE2⟩)
  go_ret
  exact RetE.fin (HE.out.trans hE2) (by rw [← HBE.out]; rfl)

set_option maxRecDepth 20000 in
theorem rIsRank06 (C : Ch) (n : Int) (v : Value) (w : World) (hv : ChV w v C) (hl : C.meters.length ≤ 1000) :
    Calls Tryd.prog 8 #[v, .int .i64 n] w (RetE (.bool (isFB C n)) w) := by
  have _ := hl
  obtain ⟨p, c, q, d, rfl, hp, hq⟩ := hv
  go_enter Tryd.func8, Tryd.ntmps8
  go_upto_region 1 with (fail)
  obtain ⟨s0, hs0⟩ : ∃ s0, s0 = w.heap.size := ⟨_, rfl⟩
  obtain ⟨W, hW⟩ : ∃ W, W = w.alloc (.cells #[.slice p C.meters.length c, .slice q C.extra.length d, .int .i64 C.frm, .int .i64 C.tto] 25) := ⟨_, rfl⟩
  have m0 : W.heap[s0]? = some (.cells #[.slice p C.meters.length c, .slice q C.extra.length d, .int .i64 C.frm, .int .i64 C.tto] 25) := by rw [hs0, hW]; exact heap_new _ _
  have hE : Ext w W := by rw [hW]; exact Ext.alloc (Ext.refl _) _
  rw [← hs0, ← hW]
  have q0 := ExtW.cell (v := .slice p C.meters.length c) (cell_of_heap m0 0)
  have q1 := ExtW.cell (v := .slice q C.extra.length d) (cell_of_heap m0 1)
  have q2 := ExtW.cell (v := .int .i64 C.frm) (cell_of_heap m0 2)
  have q3 := ExtW.cell (v := .int .i64 C.tto) (cell_of_heap m0 3)
  have HE := Lib.hid hE
  have HP := Lib.hid (hp.ext hE)
  have HQ := Lib.hid (hq.ext hE)
  have d0 := cell_of_heap m0 0
  have HWI := Lib.hid (fun y => within06 n 1 (C.meters.length : Int) y)
  have hb : winB n 1 (C.meters.length : Int) = isFB C n := by
    rw [Bool.eq_iff_iff, isFB_iff]
    simp [winB] <;> omega
  rw [hb] at HWI
  obtain ⟨b, hb2⟩ : ∃ b, b = isFB C n := ⟨_, rfl⟩
  rw [← hb2] at HWI
  have HBE := Lib.hid hb2
  skip
  clear hW m0 hE hs0 hp hq q0 q1 q2 q3 hb hb2
  go_wp2_with (go_at_call 24; refine (HWI.out _).mono ?_; rintro e w2 ⟨rfl, hE2⟩)
  go_ret
  exact RetE.fin (HE.out.trans hE2) (by rw [← HBE.out]; rfl)

set_option maxRecDepth 20000 in
set_option maxHeartbeats 3200000 in
theorem rCheck06 (C : Ch) (v : Value) (w : World) (hv : ChV w v C) (hs : ChSm C) :
    Calls Tryd.prog 23 #[v] w (RetE (.int .i64 (chkC C)) w) := by
  have HV := Lib.hid hv
  obtain ⟨p, c, q, d, rfl, hp, hq⟩ := hv
  go_enter Tryd.func23, Tryd.ntmps23
  go_upto_region 1 with (fail)
  obtain ⟨s0, hs0⟩ : ∃ s0, s0 = w.heap.size := ⟨_, rfl⟩
  obtain ⟨W, hW⟩ : ∃ W, W = w.alloc (.cells #[.slice p C.meters.length c, .slice q C.extra.length d, .int .i64 C.frm, .int .i64 C.tto] 25) := ⟨_, rfl⟩
  have m0 : W.heap[s0]? = some (.cells #[.slice p C.meters.length c, .slice q C.extra.length d, .int .i64 C.frm, .int .i64 C.tto] 25) := by rw [hs0, hW]; exact heap_new _ _
  have hE : Ext w W := by rw [hW]; exact Ext.alloc (Ext.refl _) _
  rw [← hs0, ← hW]
  have q0 := ExtW.cell (v := .slice p C.meters.length c) (cell_of_heap m0 0)
  have q1 := ExtW.cell (v := .slice q C.extra.length d) (cell_of_heap m0 1)
  have q2 := ExtW.cell (v := .int .i64 C.frm) (cell_of_heap m0 2)
  have q3 := ExtW.cell (v := .int .i64 C.tto) (cell_of_heap m0 3)
  have HE := Lib.hid hE
  have HP := Lib.hid (hp.ext hE)
  have HQ := Lib.hid (hq.ext hE)
  have HSM := Lib.hid hs.mt
  have hn20 := hs.nm
  obtain ⟨x0, hx0⟩ := ExtW.of (Ext.refl W)
  clear hW m0 hE hs0 hp hq hs
  conv => arg 5; rw [hx0]
  clear hx0
  by_cases hA : C.meters.length ≤ 6
  case neg =>
    have HC := Lib.hid (chkC_f (C := C) fun h => hA h.nm)
    have hA' : 6 < (C.meters.length : Int) := by omega
    clear hA
    go_wp2
    go_ret
    exact RetE.fin (HE.out.trans x0.h) (by rw [HC.out]; rfl)
  have hA' : ¬6 < (C.meters.length : Int) := by omega
  by_cases hB : C.extra.length = C.meters.length
  case neg =>
    have HC := Lib.hid (chkC_f (C := C) fun h => hB h.nx)
    have hB' : ((C.extra.length : Int) == (C.meters.length : Int)) = false := by simp; omega
    have hB2 : (C.extra.length == C.meters.length) = false := by simp; omega
    go_wp2
    go_ret
    exact RetE.fin (HE.out.trans x0.h) (by rw [HC.out]; rfl)
  have HNX : EqS C.extra.length C.meters.length := ⟨hB⟩
  rw [hB] at q1 HV
  rw [hB]
  clear hB
  by_cases hC : 0 ≤ C.frm ∧ C.frm ≤ C.tto
  case neg =>
    have HC := Lib.hid (chkC_f (C := C) fun h => hC ⟨h.f0, h.ft⟩)
    have HWC := Lib.hid (fun x : ExtW W => ExtW.call (x := x) (by have h := within06 C.frm 0 C.tto x.w; rwa [win_false hC] at h : Calls Tryd.prog 24 #[.int .i64 C.frm, .int .i64 0, .int .i64 C.tto] x.w (RetE (.bool false) x.w)))
    clear hC
    go_wp2_with (go_at_call 24; refine (HWC.out _).mono ?_; rintro e w1 ⟨rfl, x1, rfl⟩)
    go_ret
    exact RetE.fin (HE.out.trans x1.h) (by rw [HC.out]; rfl)
  have HWC := Lib.hid (fun x : ExtW W => ExtW.call (x := x) (by have h := within06 C.frm 0 C.tto x.w; rwa [win_true hC] at h : Calls Tryd.prog 24 #[.int .i64 C.frm, .int .i64 0, .int .i64 C.tto] x.w (RetE (.bool true) x.w)))
  have HFT := Lib.hid hC
  by_cases hD : C.tto ≤ 5
  case neg =>
    have HC := Lib.hid (chkC_f (C := C) fun h => hD h.t5)
    have hD' : 5 < C.tto := by omega
    clear hC hD
    go_wp2_with (go_at_call 24; refine (HWC.out _).mono ?_; rintro e w1 ⟨rfl, x1, rfl⟩)
    go_ret
    exact RetE.fin (HE.out.trans x1.h) (by rw [HC.out]; rfl)
  have hD' : ¬5 < C.tto := by omega
  have HHD := Lib.hid (show headC C = true from by have := HNX.out; unfold headC; simp; omega)
  clear hC
  go_upto_region 3 with (go_at_call 24; refine (HWC.out _).mono ?_; rintro e w1 ⟨rfl, x1, rfl⟩)
  go_wp2
  go_loopw [3] (fun a wr => ∃ k : Nat, k ≤ C.meters.length ∧ a = .int .i64 k ∧ (∀ i (h : i < C.meters.length), i < k → mtB C.tto (mtC C i) = true ∧ extB (exC C i) = true) ∧ ∃ x : ExtW W, wr = x.w) (fun a _ => C.meters.length - (intOf a).toNat)
  case atStart => exact ⟨0, Nat.zero_le _, rfl, fun i _ h => by omega, x1, rfl⟩
  case round =>
    clear x1
    obtain ⟨k, hk, rfl, hG, x, rfl⟩ := hrel
    have HG := Lib.hid hG
    clear hG
    by_cases hlt : k < C.meters.length
    · have hlt' : (k : Int) < (C.meters.length : Int) := by omega
      obtain ⟨rb, ro, p1, d1, p2, d2, hqq, r0, r1, r2, r3, r4⟩ := HP.out k hlt
      subst hqq
      obtain ⟨xb, xo, hxx, xc⟩ := HQ.out.at k (by have := HNX.out; omega)
      subst hxx
      have hsm := HSM.out _ (List.getElem_mem hlt)
      rw [← mtC_get hlt] at r0 r1 r2 r3 r4 hsm
      rw [← exC_get (show k < C.extra.length by have := HNX.out; omega)] at xc
      have hmb : mtB C.tto (mtC C k) = (okB (mtC C k) && decide (C.tto ≤ (mtC C k).weeks.length)) := rfl
      have hxb : extB (exC C k) = winB (exC C k) 0 999 := rfl
      have HBD := Lib.hid (fun (h : ¬(mtB C.tto (mtC C k) = true ∧ extB (exC C k) = true)) => chkC_f (C := C) fun hv => h (by
        have h1 := hv.mt _ (List.getElem_mem hlt)
        have h2 := hv.ex _ (List.getElem_mem (show k < C.extra.length by have := HNX.out; omega))
        rw [← mtC_get hlt] at h1
        rw [← exC_get (show k < C.extra.length by have := HNX.out; omega)] at h2
        exact ⟨by rw [hmb, (okB_iff _).2 h1.1, decide_eq_true h1.2]; rfl, by unfold extB; simp; omega⟩))
      obtain ⟨M, hM⟩ : ∃ M, M = mtC C k := ⟨_, rfl⟩
      rw [← hM] at r0 r1 r2 r3 r4 hsm hmb HBD
      obtain ⟨e, he⟩ : ∃ e, e = exC C k := ⟨_, rfl⟩
      rw [← he] at xc hxb HBD
      have HME := Lib.hid (⟨hM, he⟩ : M = mtC C k ∧ e = exC C k)
      have k0 := ExtW.cell r0
      have k1 := ExtW.cell r1
      have k2 := ExtW.cell r2
      have k3 := ExtW.cell xc
      have HCK := Lib.hid (fun x : ExtW W => ExtW.call (x := x) (rCheck04 M _ x.w (⟨p1, d1, p2, d2, rfl, r3.ext x.h, r4.ext x.h⟩ : MtV x.w (.agg #[.slice p1 M.weeks.length d1, .slice p2 M.reads.length d2, .int .i64 M.wrong]) M) (by omega) (by omega)))
      have HAR := Lib.hid (fun x : ExtW W => ExtW.call (x := x) (AreWeeks04 M C.frm C.tto _ x.w (⟨p1, d1, p2, d2, rfl, r3.ext x.h, r4.ext x.h⟩ : MtV x.w (.agg #[.slice p1 M.weeks.length d1, .slice p2 M.reads.length d2, .int .i64 M.wrong]) M)))
      have HWI := Lib.hid (fun x : ExtW W => ExtW.call (x := x) (within06 e 0 999 x.w))
      have HMB := Lib.hid hmb
      have HXB := Lib.hid hxb
      have har : areB C.frm C.tto M.weeks.length = decide (C.tto ≤ M.weeks.length) := by
        have := HFT.out
        rw [Bool.eq_iff_iff, areB_iff, decide_eq_true_eq]
        omega
      rw [har] at HAR
      have hck := chkM_0 M
      obtain ⟨z, hz⟩ : ∃ z, z = chkM M := ⟨_, rfl⟩
      rw [← hz] at HCK hck
      have HZE : EqS2' z (chkM M) := ⟨hz⟩
      obtain ⟨ok, hok⟩ : ∃ b, b = okB M := ⟨_, rfl⟩
      rw [← hok] at HMB hck
      obtain ⟨ta, hta⟩ : ∃ b, b = decide (C.tto ≤ (M.weeks.length : Int)) := ⟨_, rfl⟩
      rw [← hta] at HAR HMB
      obtain ⟨wx, hwx⟩ : ∃ b, b = winB e 0 999 := ⟨_, rfl⟩
      rw [← hwx] at HWI HXB
      clear r0 r1 r2 r3 r4 xc hsm hmb hxb hM he har hz hok hta hwx
      go_upto_region 6 with (fail)
      cases ok
      case false =>
        have hz40 : z = 40 := by
          have h0 : ¬z = 0 := by simpa using hck
          rw [HZE.out] at h0 ⊢
          unfold chkM at h0 ⊢
          split at h0
          · exact absurd rfl h0
          · next h => rw [if_neg h]
        subst hz40
        have HBD2 := Lib.hid (HBD.out (fun h => by rw [HMB.out] at h; simp at h))
        clear hck
        refine wp_region_extW (by kernel_rfl) (by kernel_rfl) ?_
        repeat (go_big_quiet_step (first | (go_at_call 43; exact HCK.out _)))
        refine wpQuiet_nil ?_
        rintro _ ⟨x2, rfl⟩
        go_wp2
        go_ret
        exact RetE.fin (HE.out.trans x2.h) (by rw [HBD2.out]; rfl)
      case true =>
        have hz0 : z = 0 := by simpa using hck
        subst hz0
        clear hck
        cases ta
        case false =>
          have HBD2 := Lib.hid (HBD.out (fun h => by rw [HMB.out] at h; simp at h))
          refine wp_region_extW (by kernel_rfl) (by kernel_rfl) ?_
          repeat (go_big_quiet_step (first | (go_at_call 43; exact HCK.out _) | (go_at_call 44; exact HAR.out _)))
          refine wpQuiet_nil ?_
          rintro _ ⟨x2, rfl⟩
          go_wp2
          go_ret
          exact RetE.fin (HE.out.trans x2.h) (by rw [HBD2.out]; rfl)
        case true =>
          cases wx
          case false =>
            have HBD2 := Lib.hid (HBD.out (fun h => by rw [HXB.out] at h; cases h.2))
            refine wp_region_extW (by kernel_rfl) (by kernel_rfl) ?_
            repeat (go_big_quiet_step (first | (go_at_call 43; exact HCK.out _) | (go_at_call 44; exact HAR.out _) | (go_at_call 24; exact HWI.out _)))
            refine wpQuiet_nil ?_
            rintro _ ⟨x2, rfl⟩
            go_wp2
            go_ret
            exact RetE.fin (HE.out.trans x2.h) (by rw [HBD2.out]; rfl)
          case true =>
            refine wp_region_extW (by kernel_rfl) (by kernel_rfl) ?_
            repeat (go_big_quiet_step (first | (go_at_call 43; exact HCK.out _) | (go_at_call 44; exact HAR.out _) | (go_at_call 24; exact HWI.out _)))
            refine wpQuiet_nil ?_
            rintro _ ⟨x2, rfl⟩
            go_wp2
            go_roundw
            case rel => exact ⟨k + 1, by omega, by simp, fun i hi h => by
              by_cases e' : i = k
              · subst e'
                rw [← HME.out.1, ← HME.out.2]
                exact ⟨HMB.out, HXB.out⟩
              · exact HG.out i hi (by omega), x2, rfl⟩
            case measure => simp [intOf]; omega
    · obtain rfl : k = C.meters.length := by omega
      have hge : ¬(C.meters.length : Int) < (C.meters.length : Int) := by omega
      have HC := Lib.hid (show chkC C = 0 from by
        unfold chkC
        rw [if_pos]
        unfold okC
        rw [HHD.out]
        simp only [Bool.true_and, Bool.and_eq_true, List.all_eq_true]
        refine ⟨fun x hx => ?_, fun M hM => ?_⟩
        · obtain ⟨i, hi, rfl⟩ := List.getElem_of_mem hx
          rw [← exC_get hi]
          exact (HG.out i (by have := HNX.out; omega) (by have := HNX.out; omega)).2
        · obtain ⟨i, hi, rfl⟩ := List.getElem_of_mem hM
          rw [← mtC_get hi]
          exact (HG.out i hi hi).1)
      go_wp2
      go_ret
      exact RetE.fin (HE.out.trans x.h) (by rw [HC.out]; rfl)
end Go.Proofs.YtaoamnhchidjfaaDoor
