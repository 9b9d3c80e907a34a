
/- Charts: the walk of Far. -/
import Derived.Test.YtaoamnhchidjfaaDoorC8b
namespace Go.Proofs.YtaoamnhchidjfaaDoor
open Go.RowKit

theorem waysT_snoc (T : Tab) (r : List Int) : waysT (T ++ [r]) = waysT T * r.length := by
  induction T with
  | nil => show r.length * 1 = 1 * _; omega
  | cons x T ih =>
    show x.length * waysT (T ++ [r]) = x.length * waysT T * _
    rw [ih, Nat.mul_assoc]
theorem waysT_app (T U : Tab) : waysT (T ++ U) = waysT T * waysT U := by
  induction T with
  | nil => show waysT U = 1 * _; omega
  | cons x T ih =>
    show x.length * waysT (T ++ U) = x.length * waysT T * _
    rw [ih, Nat.mul_assoc]
def wayK (T : Tab) (k : Nat) : Nat := waysT (T.take k)
theorem wayK_succ (T : Tab) {k : Nat} (h : k < T.length) : wayK T (k + 1) = wayK T k * (rowT T k).length := by
  unfold wayK
  rw [List.take_succ_eq_append_getElem h, waysT_snoc, rowT_get h]
theorem wayK_all (T : Tab) : wayK T T.length = waysT T := by unfold wayK; rw [List.take_length]
theorem wayK_le {T : Tab} (hT : ∀ l ∈ T, l ≠ []) (k : Nat) : wayK T k ≤ waysT T := by
  have e : waysT T = waysT (T.take k) * waysT (T.drop k) := by rw [← waysT_app, List.take_append_drop]
  have h1 := waysT_pos (T := T.drop k) fun l hl => hT l (List.mem_of_mem_drop hl)
  have h2 := Nat.mul_le_mul_left (waysT (T.take k)) h1
  unfold wayK
  omega
noncomputable def waysF (C : Ch) : Nat := waysT (askT C true)
noncomputable def farC (C : Ch) : Bool := if 20 < C.meters.length ∨ 40 < C.extra.length then true else if C.meters.any farB = true then true else decide (70 < waysF C)
theorem farC_len {C : Ch} (h : farC C = false) : C.meters.length ≤ 20 ∧ C.extra.length ≤ 40 ∧ (∀ M ∈ C.meters, farB M = false) ∧ waysF C ≤ 70 := by
  unfold farC at h
  split at h
  · cases h
  · split at h
    · cases h
    · next h1 h2 =>
      refine ⟨by omega, by omega, fun M hM => ?_, by rw [decide_eq_false_iff_not] at h; omega⟩
      cases hf : farB M with
      | false => rfl
      | true => exact absurd (List.any_eq_true.2 ⟨M, hM, hf⟩) h2
theorem farC_sm {C : Ch} (h : farC C = false) : ChSm C := ⟨(farC_len h).1, (farC_len h).2.1, fun M hM => far_len ((farC_len h).2.2.1 M hM)⟩
theorem askT_rows (C : Ch) : (∀ l ∈ askT C true, l ≠ []) ∧ (∀ l ∈ askT C true, l.length ≤ 2000) ∧ (askT C true).length ≤ 6 := by
  by_cases hz : errC C true = 0
  · obtain ⟨hC, -, hso⟩ := errC_0 hz
    have hG := tabC_ok hC hso
    rw [askT_0 hz]
    exact ⟨fun l hl => (hG.ok l hl).1, hG.ls, hG.len⟩
  · rw [askT_ne hz]
    exact ⟨(fun l hl => by cases hl), (fun l hl => by cases hl), by simp⟩

set_option maxRecDepth 20000 in
set_option maxHeartbeats 3200000 in
theorem Far06 (C : Ch) (v : Value) (w : World) (hv : ChV w v C) : Calls Tryd.prog 22 #[v] w (RetE (.bool (farC C)) w) := by
  have HV := Lib.hid hv
  obtain ⟨p, c, q, d, rfl, hp, hq⟩ := hv
  go_enter Tryd.func22, Tryd.ntmps22
  go_upto_region 1 with (fail)
  obtain ⟨s0, hs0⟩ : ∃ s0, s0 = w.heap.size := ⟨_, rfl⟩
  obtain ⟨W, hW⟩ : ∃ W, W = w.alloc (.cells #[.slice p C.meters.length c, .slice q C.extra.length d, .int .i64 C.frm, .int .i64 C.tto] 25) := ⟨_, rfl⟩
  have m0 : W.heap[s0]? = some (.cells #[.slice p C.meters.length c, .slice q C.extra.length d, .int .i64 C.frm, .int .i64 C.tto] 25) := by rw [hs0, hW]; exact heap_new _ _
  have hE : Ext w W := by rw [hW]; exact Ext.alloc (Ext.refl _) _
  rw [← hs0, ← hW]
  have q0 := ExtW.cell (v := .slice p C.meters.length c) (cell_of_heap m0 0)
  have q1 := ExtW.cell (v := .slice q C.extra.length d) (cell_of_heap m0 1)
  have q2 := ExtW.cell (v := .int .i64 C.frm) (cell_of_heap m0 2)
  have q3 := ExtW.cell (v := .int .i64 C.tto) (cell_of_heap m0 3)
  have HE := Lib.hid hE
  have HP := Lib.hid (hp.ext hE)
  have HQ := Lib.hid (hq.ext hE)
  have HVW := Lib.hid (fun y (h : Ext W y) => HV.out.ext (hE.trans h))
  obtain ⟨x0, hx0⟩ := ExtW.of (Ext.refl W)
  clear hW m0 hE hs0 hp hq
  conv => arg 5; rw [hx0]
  clear hx0
  by_cases hA : 20 < C.meters.length
  · have HC := Lib.hid (show farC C = true from by unfold farC; rw [if_pos (Or.inl hA)])
    have hA' : 20 < (C.meters.length : Int) := by omega
    clear hA
    go_wp2
    go_ret
    exact RetE.fin (HE.out.trans x0.h) (by rw [HC.out]; rfl)
  have hA' : ¬20 < (C.meters.length : Int) := by omega
  by_cases hB : 40 < C.extra.length
  · have HC := Lib.hid (show farC C = true from by unfold farC; rw [if_pos (Or.inr hB)])
    have hB' : 40 < (C.extra.length : Int) := by omega
    clear hB
    go_wp2
    go_ret
    exact RetE.fin (HE.out.trans x0.h) (by rw [HC.out]; rfl)
  have hB' : ¬40 < (C.extra.length : Int) := by omega
  have hfe : farC C = if C.meters.any farB = true then true else decide (70 < waysF C) := by unfold farC; rw [if_neg (by omega)]
  have HFE := Lib.hid hfe
  clear hfe
  go_wp2
  go_loopw [3] (fun a wr => ∃ k : Nat, k ≤ C.meters.length ∧ a = .int .i64 k ∧ (∀ i (h : i < C.meters.length), i < k → farB C.meters[i] = false) ∧ ∃ x : ExtW W, wr = x.w) (fun a _ => C.meters.length - (intOf a).toNat)
  case atStart => exact ⟨0, Nat.zero_le _, rfl, fun i _ h => by omega, x0, rfl⟩
  case round =>
    clear x0
    obtain ⟨k, hk, rfl, hG, x, rfl⟩ := hrel
    have HG := Lib.hid hG
    clear hG
    by_cases hlt : k < C.meters.length
    · have hlt' : (k : Int) < (C.meters.length : Int) := by omega
      obtain ⟨rb, ro, p1, d1, p2, d2, hqq, r0, r1, r2, r3, r4⟩ := HP.out k hlt
      subst hqq
      have hany := fun (h : farB C.meters[k] = true) => (List.any_eq_true.2 ⟨_, List.getElem_mem hlt, h⟩ : C.meters.any farB = true)
      obtain ⟨M, hM⟩ : ∃ M, M = C.meters[k] := ⟨_, rfl⟩
      rw [← hM] at r0 r1 r2 r3 r4 hany
      have HM : M = C.meters[k] := hM
      have k0 := ExtW.cell r0
      have k1 := ExtW.cell r1
      have k2 := ExtW.cell r2
      have HFA := Lib.hid (fun x : ExtW W => ExtW.call (x := x) (Far04 M _ x.w (⟨p1, d1, p2, d2, rfl, r3.ext x.h, r4.ext x.h⟩ : MtV x.w (.agg #[.slice p1 M.weeks.length d1, .slice p2 M.reads.length d2, .int .i64 M.wrong]) M)))
      obtain ⟨fb, hfb⟩ : ∃ b, b = farB M := ⟨_, rfl⟩
      rw [← hfb] at HFA hany
      have HFB := Lib.hid (show fb = farB C.meters[k] from by rw [hfb, hM])
      have HAN := Lib.hid hany
      clear r0 r1 r2 r3 r4 hany hM HM hfb
      cases fb
      case true =>
        have HC := Lib.hid (show farC C = true from by rw [HFE.out, if_pos (HAN.out rfl)])
        go_wp2_with (go_at_call 41; refine (HFA.out _).mono ?_; rintro e w1 ⟨rfl, x1, rfl⟩)
        go_ret
        exact RetE.fin (HE.out.trans x1.h) (by rw [HC.out]; rfl)
      case false =>
        go_wp2_with (go_at_call 41; refine (HFA.out _).mono ?_; rintro e w1 ⟨rfl, x1, rfl⟩)
        go_roundw
        case rel => exact ⟨k + 1, by omega, by simp, fun i hi h => by
          by_cases e' : i = k
          · subst e'; exact HFB.out.symm
          · exact HG.out i hi (by omega), x1, rfl⟩
        case measure => simp [intOf]; omega
    · obtain rfl : k = C.meters.length := by omega
      have hge : ¬(C.meters.length : Int) < (C.meters.length : Int) := by omega
      have hfm : ∀ M ∈ C.meters, farB M = false := fun M hM => by
        obtain ⟨i, hi, rfl⟩ := List.getElem_of_mem hM
        exact HG.out i hi hi
      have hna : ¬C.meters.any farB = true := fun h => by
        obtain ⟨M, hM, h1⟩ := List.any_eq_true.1 h
        rw [hfm M hM] at h1
        cases h1
      have hsm : ChSm C := ⟨by omega, by omega, fun M hM => far_len (hfm M hM)⟩
      have HC := Lib.hid (show farC C = decide (70 < waysT (askT C true)) from by rw [HFE.out, if_neg hna]; rfl)
      have HAL := Lib.hid (All06 C _ x.w (HVW.out x.w x.h) hsm hfm)
      obtain ⟨hrn, hrl, hr6⟩ := askT_rows C
      have hez : ¬errC C true = 0 → askT C true = [] := askT_ne
      obtain ⟨T, hT⟩ : ∃ T, T = askT C true := ⟨_, rfl⟩
      obtain ⟨z, hz⟩ : ∃ z, z = errC C true := ⟨_, rfl⟩
      rw [← hT] at HC HAL hrn hrl hr6 hez
      rw [← hz] at HAL hez
      have HRN := Lib.hid hrn
      have HRL := Lib.hid hrl
      have HEZ := Lib.hid hez
      clear hfm hna hsm hT hz hrn hrl hez
      go_upto_region 9 with (go_at_call 42; refine HAL.out.mono ?_; rintro e w2 ⟨u, vs, rfl, hR, hE2, hcp⟩)
      obtain ⟨qt, ct, rfl, hLT⟩ := hR.lists
      have HLT := Lib.hid hLT
      have HE2 := Lib.hid (HE.out.trans (x.h.trans hE2))
      clear hR hLT hE2 hcp HAL q0 q1 q2 q3
      go_wp2
      go_loopw [6, 7] (fun n i wr => ∃ j : Nat, j ≤ T.length ∧ i = .int .i64 j ∧ n = .int .i64 (wayK T j : Nat) ∧ wayK T j ≤ 140000 ∧ wr = w2) (fun _ i _ => T.length - (intOf i).toNat)
      case atStart => exact ⟨0, Nat.zero_le _, rfl, rfl, by show (1:Nat) ≤ 140000; decide, rfl⟩
      case round =>
        obtain ⟨j, hj, rfl, rfl, hbd, rfl⟩ := hrel
        have hwl := wayK_le HRN.out j
        have hwa := wayK_all T
        by_cases hjl : j < T.length
        · have hjl' : (j : Int) < (T.length : Int) := by omega
          have hz0 : z = 0 := Classical.byContradiction fun h => by rw [HEZ.out h] at hjl; simp at hjl
          subst hz0
          have hws := wayK_succ T hjl
          obtain ⟨b1, o1, q1, c1, he, hc1, -⟩ := HLT.out.row hjl
          subst he
          have hl2 : (rowT T j).length ≤ 2000 := by rw [rowT_get hjl]; exact HRL.out _ (List.getElem_mem hjl)
          obtain ⟨ln, hln⟩ : ∃ ln, ln = (rowT T j).length := ⟨_, rfl⟩
          rw [← hln] at hc1 hl2 hws
          obtain ⟨m, hm⟩ : ∃ m, m = wayK T j := ⟨_, rfl⟩
          rw [← hm] at hbd hwl hws ⊢
          by_cases h70 : m ≤ 70
          · have h70' : (m : Int) ≤ 70 := by omega
            have hmb : m * ln ≤ 140000 := Nat.le_trans (Nat.mul_le_mul h70 hl2) (by decide)
            have hw : IntKind.i64.wrap ((m : Int) * (ln : Int)) = ((m * ln : Nat) : Int) := by rw [← Int.natCast_mul]; exact IntWalk.i64_in _ (by omega)
            obtain ⟨pr, hpr⟩ : ∃ pr, pr = m * ln := ⟨_, rfl⟩
            rw [← hpr] at hmb hw hws
            have HWS := Lib.hid hws
            clear hws hln hm hpr hwl hwa
            go_wp2
            go_roundw
            case rel => exact ⟨j + 1, by omega, by simp, by rw [HWS.out], by rw [HWS.out]; exact hmb, trivial⟩
            case measure => simp [intOf]; omega
          · have h70' : ¬(m : Int) ≤ 70 := by omega
            have h71 : 70 < (m : Int) := by omega
            have HRS := Lib.hid (show decide (70 < waysT T) = true from decide_eq_true (by omega))
            clear hws hln hm hwl hwa
            go_wp2
            go_ret
            exact RetE.fin HE2.out (by rw [HC.out, HRS.out]; rfl)
        · obtain rfl : j = T.length := by omega
          rw [hwa] at hbd hwl ⊢
          have hge : ¬(T.length : Int) < (T.length : Int) := by omega
          obtain ⟨m, hm⟩ : ∃ m, m = waysT T := ⟨_, rfl⟩
          rw [← hm] at HC hbd hwl ⊢
          clear hwa hm
          by_cases h70 : 70 < m
          · have h71 : 70 < (m : Int) := by omega
            have HRS := Lib.hid (show decide (70 < m) = true from decide_eq_true h70)
            go_wp2
            go_ret
            exact RetE.fin HE2.out (by rw [HC.out, HRS.out]; rfl)
          · have h71 : ¬70 < (m : Int) := by omega
            have HRS := Lib.hid (show decide (70 < m) = false from decide_eq_false h70)
            go_wp2
            go_ret
            exact RetE.fin HE2.out (by rw [HC.out, HRS.out]; rfl)
end Go.Proofs.YtaoamnhchidjfaaDoor
