/- The walks of the reference's Count and Cost of a plan, and of same and samePlan of equal ones. -/
import Derived.Test.YtkcilgjkdiopnaaVI
namespace Go.Proofs.Ytkcilgjkdiopnaa
open Go.RowKit

def cntN (l : List Wk) : Nat → Int
  | 0 => 0
  | k + 1 => cntN l k + (wkAt l k).needle
def cntR (l : List Wk) : Nat → Int
  | 0 => 0
  | k + 1 => cntR l k + (wkAt l k).recs.length
def costPl (X : Wr) (l : List Wk) : Nat → Int
  | 0 => 0
  | k + 1 => costPl X l k + (wkAt l k).needle * X.price + sumPr X (wkAt l k).recs
theorem wk_small {X : Wr} (hX : ValidW X) {l : List Wk} (hP : PlanOK X l) (k : Nat) : 0 ≤ (wkAt l k).needle ∧ (wkAt l k).needle ≤ 1 ∧ (wkAt l k).recs.length ≤ 6 ∧ ∀ n ∈ (wkAt l k).recs, 0 ≤ n ∧ n < X.recs.length := by
  by_cases h : k < l.length
  · rw [wkAt_eq h]
    have h1 := hP.2 _ (List.getElem_mem h)
    refine ⟨h1.2.1, h1.2.2, (modestP hX hP).2 _ (List.getElem_mem h), fun n hn => ?_⟩
    obtain ⟨i, hi, rfl⟩ := List.mem_iff_getElem.1 hn
    have := h1.1.1 i hi
    omega
  · have : wkAt l k = ⟨0, []⟩ := by unfold wkAt; rw [List.getD, List.getElem?_eq_none (by omega)]; rfl
    rw [this]
    exact ⟨by simp, by simp, by simp, fun n hn => by simp at hn⟩
theorem cnt_bd {X : Wr} (hX : ValidW X) {l : List Wk} (hP : PlanOK X l) : ∀ k : Nat, 0 ≤ cntN l k ∧ cntN l k ≤ k ∧ 0 ≤ cntR l k ∧ cntR l k ≤ 6 * k
  | 0 => by simp [cntN, cntR]
  | k + 1 => by
    have h1 := cnt_bd hX hP k
    have h2 := wk_small hX hP k
    simp only [cntN, cntR]
    omega
theorem sumPr_bd {X : Wr} (hX : ValidW X) : ∀ l : List Int, 0 ≤ sumPr X l ∧ sumPr X l ≤ 999 * l.length
  | [] => by simp [sumPr]
  | n :: l => by
    have h1 := sumPr_bd hX l
    have h2 := rec_bd hX n.toNat
    simp only [sumPr, List.length_cons]
    omega
theorem costPl_bd {X : Wr} (hX : ValidW X) {l : List Wk} (hP : PlanOK X l) : ∀ k : Nat, 0 ≤ costPl X l k ∧ costPl X l k ≤ 6993 * k
  | 0 => by simp [costPl]
  | k + 1 => by
    have h1 := costPl_bd hX hP k
    have h2 := wk_small hX hP k
    have h3 := sumPr_bd hX (wkAt l k).recs
    have h4 : 0 ≤ (wkAt l k).needle * X.price := Int.mul_nonneg h2.1 hX.price.1
    have h5 : (wkAt l k).needle * X.price ≤ 1 * 999 := Int.mul_le_mul h2.2.1 hX.price.2 hX.price.1 (by decide)
    simp only [costPl]
    omega

set_option maxRecDepth 20000 in
set_option maxHeartbeats 1600000 in
theorem Count03 (X : Wr) (hX : ValidW X) (p : Option Addr) (l : List Wk) (c : Nat) (w : World) (hP : PlanOK X l) (h : WksAt w p l) :
    Calls Try.prog 43 #[.slice p l.length c] w (RetQ (.tuple #[.int .i64 (cntN l l.length), .int .i64 (cntR l l.length)]) w) := by
  have hl6 := (modestP hX hP).1
  have HX := Lib.hid hX
  have HP := Lib.hid hP
  clear hX hP
  go_enter Try.func43, Try.ntmps43
  go_wp2
  go_loop [2, 3, 4] (fun a b i => ∃ k : Nat, k ≤ l.length ∧ i = .int .i64 k ∧ a = .int .i64 (cntN l k) ∧ b = .int .i64 (cntR l k)) (fun _ _ i => l.length - (intOf i).toNat)
  case atStart => exact ⟨0, Nat.zero_le _, rfl, rfl, rfl⟩
  case round =>
    obtain ⟨k, hk, rfl, rfl, rfl⟩ := hrel
    have hbd := cnt_bd HX.out HP.out k
    by_cases hlt : k < l.length
    · obtain ⟨b, o, q, cc, rfl, h1, h2, -⟩ := h k hlt
      have hs := wk_small HX.out HP.out k
      have hsn : cntN l (k + 1) = cntN l k + (wkAt l k).needle ∧ cntR l (k + 1) = cntR l k + (wkAt l k).recs.length := ⟨rfl, rfl⟩
      rw [← wkAt_eq hlt] at h1 h2
      obtain ⟨nd, hnd⟩ : ∃ nd, nd = (wkAt l k).needle := ⟨_, rfl⟩
      obtain ⟨ln, hln⟩ : ∃ ln, ln = (wkAt l k).recs.length := ⟨_, rfl⟩
      obtain ⟨s1, hs1⟩ : ∃ s, s = cntN l k := ⟨_, rfl⟩
      obtain ⟨s2, hs2⟩ : ∃ s, s = cntR l k := ⟨_, rfl⟩
      rw [← hnd, ← hln] at hs hsn
      rw [← hnd] at h1
      rw [← hln] at h2
      rw [← hs1, ← hs2] at hsn hbd
      have HSN := Lib.hid hsn
      obtain ⟨b1, b2, b3, b4⟩ := hbd
      obtain ⟨a1, a2, a3, -⟩ := hs
      rw [← hs1, ← hs2]
      clear hsn hnd hln hs1 hs2
      go_wp2
      go_round
      case rel => exact ⟨k + 1, by omega, by go_num, by rw [HSN.out.1], by rw [HSN.out.2]⟩
      case measure => simp [intOf]; omega
    · obtain rfl : k = l.length := by omega
      go_wp2
      go_ret2
      exact RetQ.fin (by repeat (first | exact Qt.refl _ | assumption | refine Qt.drewN ?_ _ | refine Qt.drew ?_)) rfl

set_option maxRecDepth 20000 in
set_option maxHeartbeats 3200000 in
theorem Cost03 (v : Value) (X : Wr) (p : Option Addr) (l : List Wk) (c : Nat) (w : World) (hv : WrV w v X) (hX : ValidW X) (hP : PlanOK X l) (h : WksAt w p l) :
    Calls Try.prog 48 #[v, .slice p l.length c] w (RetE (.int .i64 (costPl X l l.length)) w) := by
  have hl6 := (modestP hX hP).1
  have hx4 := hX.recs
  have HX := Lib.hid hX
  have HP := Lib.hid hP
  obtain ⟨pp, cp, q, d, rfl, -, hR⟩ := hv
  clear hX hP
  go_enter Try.func48, Try.ntmps48
  go_upto_region 1 with (fail)
  obtain ⟨W, hW⟩ : ∃ W, W = w.alloc (.cells #[.int .i64 X.weeks, .int .i64 X.price, .int .i64 X.age, .int .i64 X.step, .slice pp X.rough.length cp, .slice q X.recs.length d] 25) := ⟨_, rfl⟩
  have hn := heap_new w (.cells #[.int .i64 X.weeks, .int .i64 X.price, .int .i64 X.age, .int .i64 X.step, .slice pp X.rough.length cp, .slice q X.recs.length d] 25)
  have hE : Ext w W := by rw [hW]; exact Ext.alloc (Ext.refl w) _
  rw [← hW] at hn ⊢
  have q1 := ExtW.cell (v := .int .i64 X.price) (cell_of_heap hn 1)
  have q5 := ExtW.cell (v := .slice q X.recs.length d) (cell_of_heap hn 5)
  have HR := Lib.hid (hR.ext hE)
  have HW := Lib.hid (h.ext hE)
  have hpr := HX.out.price
  have HE := Lib.hid hE
  obtain ⟨x0, hx0⟩ := ExtW.of (Ext.refl W)
  clear hW hn hR h hE
  conv => arg 5; rw [hx0]
  clear hx0
  go_wp2
  go_loopw [5, 6] (fun s i wr => ∃ k : Nat, k ≤ l.length ∧ i = .int .i64 k ∧ s = .int .i64 (costPl X l k) ∧ ∃ x : ExtW W, wr = x.w) (fun _ i _ => l.length - (intOf i).toNat)
  case atStart => exact ⟨0, Nat.zero_le _, rfl, rfl, x0, rfl⟩
  case round =>
    clear x0
    obtain ⟨k, hk, rfl, rfl, x, rfl⟩ := hrel
    have hbd := costPl_bd HX.out HP.out k
    by_cases hlt : k < l.length
    · obtain ⟨b, o, qq, cc, rfl, h1, h2, h3⟩ := HW.out k hlt
      have hs := wk_small HX.out HP.out k
      rw [← wkAt_eq hlt] at h1 h2 h3
      obtain ⟨wk, hwk⟩ : ∃ wk, wk = wkAt l k := ⟨_, rfl⟩
      rw [← hwk] at h1 h2 h3 hs
      obtain ⟨s1, hs1⟩ : ∃ s, s = costPl X l k := ⟨_, rfl⟩
      have hsn : costPl X l (k + 1) = s1 + wk.needle * X.price + sumPr X wk.recs := by rw [hs1, hwk]; rfl
      rw [← hs1] at hbd
      have h4 : 0 ≤ wk.needle * X.price := Int.mul_nonneg hs.1 hpr.1
      have h5 : wk.needle * X.price ≤ 1 * 999 := Int.mul_le_mul hs.2.1 hpr.2 hpr.1 (by decide)
      have hw1 : IntKind.i64.wrap (wk.needle * X.price) = wk.needle * X.price := IntWalk.i64_in _ (by omega)
      have hw2 : IntKind.i64.wrap (s1 + wk.needle * X.price) = s1 + wk.needle * X.price := IntWalk.i64_in _ (by omega)
      obtain ⟨s2, hs2⟩ : ∃ s, s = s1 + wk.needle * X.price := ⟨_, rfl⟩
      have hs2b : 0 ≤ s2 ∧ s2 ≤ 6993 * k + 999 := by omega
      rw [← hs2] at hsn
      rw [show s1 + wk.needle * X.price = s2 from hs2.symm] at hw2
      have hw2' : IntKind.i64.wrap (s1 + wk.needle * X.price) = s2 := by rw [← hs2]; exact hw2
      clear hw2
      have r1 := ExtW.cell h1
      have r2 := ExtW.cell h2
      have HSN := Lib.hid hsn
      have H3 := Lib.hid h3
      have HS := Lib.hid hs
      have hrl := hs.2.2.1
      conv => arg 4; rw [← hs1]
      clear hsn hwk hs1 h1 h2 h3 h4 h5 hs2 hs
      go_upto_region 5 with (fail)
      refine wp_region_extW (by kernel_rfl) (by kernel_rfl) ?_
      repeat (go_big_quiet_step (fail))
      refine wpQuiet_nil ?_
      rintro _ ⟨x2, rfl⟩
      clear hw1 hw2'
      go_wp2
      go_loopw [5, 7] (fun s i wr => ∃ j : Nat, j ≤ wk.recs.length ∧ i = .int .i64 j ∧ s = .int .i64 (s2 + sumPr X (wk.recs.take j)) ∧ ∃ x : ExtW W, wr = x.w) (fun _ i _ => wk.recs.length - (intOf i).toNat)
      case atStart => exact ⟨0, Nat.zero_le _, rfl, by simp [sumPr], x2, rfl⟩
      case round =>
        clear x2
        obtain ⟨j, hj, rfl, rfl, y, rfl⟩ := hrel
        have hb2 := sumPr_bd HX.out (wk.recs.take j)
        rw [List.length_take] at hb2
        by_cases hjl : j < wk.recs.length
        · obtain ⟨bi, oi, rfl, hci⟩ := H3.out.at j hjl
          have hb3 := HS.out.2.2.2 _ (List.getElem_mem hjl)
          have hsn : sumPr X (wk.recs.take (j + 1)) = sumPr X (wk.recs.take j) + (recW X (wk.recs[j]).toNat).price := by
            rw [List.take_succ_eq_append_getElem hjl, sumPr_snoc]
          obtain ⟨ri, hri⟩ : ∃ ri : Nat, wk.recs[j] = ri := ⟨(wk.recs[j]).toNat, by omega⟩
          rw [hri] at hci hb3 hsn
          have hril : ri < X.recs.length := by omega
          obtain ⟨rb, ro, q', c', rfl, -, -, r3, -, -⟩ := HR.out ri hril
          rw [show X.recs[ri].price = (recW X ri).price from by rw [recW_eq hril]] at r3
          have hpr2 := rec_bd HX.out ri
          rw [Int.toNat_natCast] at hsn
          obtain ⟨pr, hprr⟩ : ∃ pr, pr = (recW X ri).price := ⟨_, rfl⟩
          rw [← hprr] at r3 hpr2 hsn
          obtain ⟨t, ht⟩ : ∃ t, t = sumPr X (wk.recs.take j) := ⟨_, rfl⟩
          rw [← ht] at hb2 hsn
          have hb4 : t ≤ 5994 := by omega
          have hb5 : 0 ≤ t := hb2.1
          have hril' : (ri : Int) < X.recs.length := hb3.2
          have u1 := ExtW.cell hci
          have u2 := ExtW.cell r3
          have hw3 : IntKind.i64.wrap (s2 + t + pr) = s2 + t + pr := IntWalk.i64_in _ (by omega)
          have HSN2 := Lib.hid hsn
          conv => arg 4; rw [← ht]
          clear hsn hprr ht hci r3 hri hb2 hb3
          go_upto_region 9 with (fail)
          refine wp_region_extW (by kernel_rfl) (by kernel_rfl) ?_
          repeat (go_big_quiet_step (fail))
          refine wpQuiet_nil ?_
          rintro _ ⟨x3, rfl⟩
          clear hw3
          go_wp2
          go_roundw
          case rel => exact ⟨j + 1, by omega, by go_num, by rw [HSN2.out, Int.add_assoc], x3, rfl⟩
          case measure => simp [intOf]; omega
        · obtain rfl : j = wk.recs.length := by omega
          go_wp2
          go_roundw
          case rel => exact ⟨k + 1, by omega, by go_num, by rw [HSN.out, List.take_length], y, rfl⟩
          case measure => simp [intOf]; omega
    · obtain rfl : k = l.length := by omega
      go_wp2
      go_ret
      exact RetE.fin (HE.out.trans x.h) rfl
end Go.Proofs.Ytkcilgjkdiopnaa
