
/- Charts: the walk of Check. -/
import Derived.Test.YtaoamnhchidjfaaDoorC7a
namespace Go.Proofs.YtaoamnhchidjfaaDoor
open Go.RowKit

structure EqS (n m : Nat) : Prop where
  out : n = m
theorem lt_hid {n m k : Nat} (h : EqS n m) (hk : k < m) : (k : Int) < (n : Int) := by have := h.out; omega
theorem ge_hid {n m k : Nat} (h : EqS n m) (hk : ¬k < m) : ¬(k : Int) < (n : Int) := by have := h.out; omega
set_option maxRecDepth 20000 in
set_option maxHeartbeats 6400000 in
theorem Check06 (C : Ch) (v : Value) (w : World) (hv : ChV w v C) (hs : ChSm C) :
    Calls Tryd.prog 47 #[v] w (RetE (.int .i64 (chkC C)) w) := by
  obtain ⟨p, c, q, d, rfl, hp, hq⟩ := hv
  have HP := Lib.hid hp
  have HQ := Lib.hid hq
  have HSM := Lib.hid hs.mt
  have hn1 := hs.nm
  have hn2 := hs.nx
  obtain ⟨nx, hnx⟩ : ∃ nx, nx = C.extra.length := ⟨_, rfl⟩
  rw [← hnx]
  have HNX : EqS nx C.extra.length := ⟨hnx⟩
  clear hp hq hs hnx
  go_enter Tryd.func47, Tryd.ntmps47
  go_upto_region 1 with (fail)
  obtain ⟨s0, hs0⟩ : ∃ s0, s0 = w.heap.size := ⟨_, rfl⟩
  obtain ⟨W, hW⟩ : ∃ W, W = w.alloc (.cells #[.slice p C.meters.length c, .slice q nx d, .int .i64 C.frm, .int .i64 C.tto] 25) := ⟨_, rfl⟩
  have m0 : W.heap[s0]? = some (.cells #[.slice p C.meters.length c, .slice q nx d, .int .i64 C.frm, .int .i64 C.tto] 25) := by rw [hs0, hW]; exact heap_new _ _
  have hE : Ext w W := by rw [hW]; exact (by repeat (first | exact Ext.refl _ | assumption | refine Ext.drewN ?_ _ | refine Ext.drew ?_ | refine Ext.alloc ?_ _))
  rw [← hs0, ← hW]
  have m00 : W.cell? ⟨s0, 0, none⟩ = some (.slice p C.meters.length c) := cell_of_heap m0 0
  have m01 : W.cell? ⟨s0, 1, none⟩ = some (.slice q nx d) := cell_of_heap m0 1
  have m02 : W.cell? ⟨s0, 2, none⟩ = some (.int .i64 C.frm) := cell_of_heap m0 2
  have m03 : W.cell? ⟨s0, 3, none⟩ = some (.int .i64 C.tto) := cell_of_heap m0 3
  have HCE := Lib.hid (fun y (h : Ext W y) => (⟨h.cell m00, h.cell m01, h.cell m03, hE.trans h⟩ :
    y.cell? ⟨s0, 0, none⟩ = some (.slice p C.meters.length c) ∧ y.cell? ⟨s0, 1, none⟩ = some (.slice q nx d) ∧ y.cell? ⟨s0, 3, none⟩ = some (.int .i64 C.tto) ∧ Ext w y))
  clear hW m0 hE hs0
  go_upto_region 2 with (fail)
  all_goals
    try subst_vars
    go_wp2
    go_loopw [3, 40] (fun g i wr => ∃ k : Nat, k ≤ C.extra.length ∧ i = .int .i64 k ∧ g = .bool (headC C && (C.extra.take k).all extB) ∧ Ext W wr) (fun _ i _ => C.extra.length - (intOf i).toNat)
    case atStart => exact ⟨0, by omega, rfl, by have := HNX.out; refine congrArg Value.bool (Bool.eq_iff_iff.2 ⟨fun h => ?_, fun h => ?_⟩) <;> simp [headC] at h ⊢ <;> omega, Ext.refl _⟩
    case round =>
      obtain ⟨k, hk, rfl, rfl, hE⟩ := hrel
      obtain ⟨k0, k1, k2, k3⟩ := HCE.out wr hE
      have HER := Lib.hid hE
      clear hE m00 m01 m02 m03
      by_cases hlt : k < C.extra.length
      · have hlt' := lt_hid HNX hlt
        obtain ⟨wb, wo, hpp, w0⟩ := (HQ.out.ext k3).at k hlt
        subst hpp
        have hat := all_take extB C.extra hlt
        obtain ⟨x0, hx0⟩ : ∃ x : Int, x = C.extra[k] := ⟨_, rfl⟩
        have hwk : extB C.extra[k] = (decide (0 ≤ x0) && decide (x0 ≤ 999)) := by rw [hx0]; rfl
        rw [hwk] at hat
        rw [← hx0] at w0
        obtain ⟨g, hg⟩ : ∃ g, g = (headC C && (C.extra.take k).all extB) := ⟨_, rfl⟩
        have HG := Lib.hid (show (headC C && (C.extra.take (k + 1)).all extB) = (g && (decide (0 ≤ x0) && decide (x0 ≤ 999))) from by rw [hat, hg, Bool.and_assoc])
        rw [← hg]
        clear hx0 hwk hat hg
        cases g
        · go_wp2
          go_roundw
          case rel => exact ⟨k + 1, by omega, by simp, by rw [HG.out]; rfl, HER.out⟩
          case measure => simp [intOf]; omega
        · go_wp2
          all_goals go_roundw
          all_goals first
            | exact ⟨k + 1, by omega, by simp, by rw [HG.out]; refine congrArg Value.bool (Bool.eq_iff_iff.2 ⟨fun h => ?_, fun h => ?_⟩) <;> simp at h ⊢ <;> omega, HER.out⟩
            | (simp [intOf]; omega)
      · have hge := ge_hid HNX hlt
        obtain ⟨g, hg⟩ : ∃ g, g = (headC C && (C.extra.take k).all extB) := ⟨_, rfl⟩
        rw [← hg]
        have HG := Lib.hid (show g = (headC C && C.extra.all extB) from by rw [hg, show k = C.extra.length from by omega, List.take_length])
        clear hg hk hlt
        go_wp2
        go_loopw [3, 64] (fun x i wr2 => ∃ k : Nat, k ≤ C.meters.length ∧ i = .int .i64 k ∧ x = .bool (g && (C.meters.take k).all (mtB C.tto)) ∧ Ext W wr2) (fun _ i _ => C.meters.length - (intOf i).toNat)
        case atStart => exact ⟨0, by omega, rfl, by simp, HER.out⟩
        case round =>
          obtain ⟨k, hk, rfl, rfl, hE2⟩ := hrel
          obtain ⟨k0, k1, k2, k3⟩ := HCE.out _ hE2
          have HER2 := Lib.hid hE2
          clear hE2
          by_cases hlt : k < C.meters.length
          · have hlt' : (k : Int) < (C.meters.length : Int) := by omega
            obtain ⟨rb, ro, p1, d1, p2, d2, hqq, r0, r1, r2, r3, r4⟩ := HP.out.ext k3 k hlt
            subst hqq
            have hat := all_take (mtB C.tto) C.meters hlt
            have hsm := HSM.out _ (List.getElem_mem hlt)
            obtain ⟨M, hM⟩ : ∃ M, M = C.meters[k] := ⟨_, rfl⟩
            have hrd : mtB C.tto M = (decide (chkM M = 0) && decide (C.tto ≤ M.weeks.length)) := by rw [chkM_0]; rfl
            rw [← hM] at hat r0 r1 r2 r3 r4 hsm
            rw [hrd] at hat
            obtain ⟨g2, hg2⟩ : ∃ g2, g2 = (g && (C.meters.take k).all (mtB C.tto)) := ⟨_, rfl⟩
            have HG2 := Lib.hid (show (g && (C.meters.take (k + 1)).all (mtB C.tto)) = (g2 && (decide (chkM M = 0) && decide (C.tto ≤ M.weeks.length))) from by rw [hat, hg2, Bool.and_assoc])
            rw [← hg2]
            have HMV := Lib.hid (⟨r3, r4, hsm⟩ : PairsAt _ p1 M.weeks ∧ PairsAt _ p2 M.reads ∧ M.weeks.length ≤ 40 ∧ M.reads.length ≤ 40)
            clear hrd hat hg2 r3 r4 hsm hM
            go_upto_region 10 with (fail)
            obtain ⟨W5, hW5⟩ : ∃ W5, W5 = wr.alloc (.cells #[.slice p1 M.weeks.length d1, .slice p2 M.reads.length d2, .int .i64 M.wrong] 61) := ⟨_, rfl⟩
            have hE5 : Ext W W5 := by rw [hW5]; exact HER2.out.alloc _
            have hs5 : W5.heap[wr.heap.size]? = some (.cells #[.slice p1 M.weeks.length d1, .slice p2 M.reads.length d2, .int .i64 M.wrong] 61) := by rw [hW5]; exact heap_new _ _
            have hEr : Ext wr W5 := by rw [hW5]; exact Ext.alloc (Ext.refl _) _
            have hCK : Calls Tryd.prog 55 #[.agg #[.slice p1 M.weeks.length d1, .slice p2 M.reads.length d2, .int .i64 M.wrong]] W5 (RetE (.int .i64 (chkM M)) W5) :=
              Check04 M _ W5 ⟨p1, d1, p2, d2, rfl, HMV.out.1.ext hEr, HMV.out.2.1.ext hEr⟩ (by have := HMV.out.2.2; omega) (by have := HMV.out.2.2; omega)
            obtain ⟨rc, hrc⟩ : ∃ rc, rc = wr.heap.size := ⟨_, rfl⟩
            rw [← hrc] at hs5 ⊢
            rw [← hW5]
            have HS5 := Lib.hid hs5
            have HE5 := Lib.hid hE5
            have HCK := Lib.hid hCK
            have d0 : W5.cell? ⟨rc, 0, none⟩ = some (.slice p1 M.weeks.length d1) := cell_of_heap hs5 0
            have e1 : W5.cell? ⟨rc, 1, none⟩ = some (.slice p2 M.reads.length d2) := cell_of_heap hs5 1
            have e2 : W5.cell? ⟨rc, 2, none⟩ = some (.int .i64 M.wrong) := cell_of_heap hs5 2
            obtain ⟨z, hz⟩ : ∃ z, z = chkM M := ⟨_, rfl⟩
            rw [← hz] at HG2 HCK
            clear hW5 hE5 hs5 hEr hCK hrc hz r0 r1 r2 hlt' k0 k1 k2 k3
            cases g2
            · go_wp2
              go_roundw
              case rel => exact ⟨k + 1, by omega, by simp, by rw [HG2.out]; rfl, HE5.out⟩
              case measure => simp [intOf]; omega
            · by_cases hz0 : z = 0
              · subst hz0
                go_wp2_with (go_at_call 55; refine HCK.out.mono ?_; rintro e w6 ⟨rfl, hE6⟩; obtain ⟨-, -, j2, -⟩ := HCE.out _ (HE5.out.trans hE6); have j0 := cell_of_heap (heap_ext3 HS5.out hE6) 0)
                all_goals go_roundw
                all_goals first
                  | exact ⟨k + 1, by omega, by simp, by rw [HG2.out]; refine congrArg Value.bool (Bool.eq_iff_iff.2 ⟨fun h => ?_, fun h => ?_⟩) <;> simp at h ⊢ <;> omega, HE5.out.trans hE6⟩
                  | (simp [intOf]; omega)
              · have hzb : (z == 0) = false := by simpa using hz0
                have HZ := Lib.hid (show decide (z = 0) = false from decide_eq_false hz0)
                clear hz0
                go_wp2_with (go_at_call 55; refine HCK.out.mono ?_; rintro e w6 ⟨rfl, hE6⟩)
                go_roundw
                case rel => exact ⟨k + 1, by omega, by simp, by rw [HG2.out, HZ.out]; rfl, HE5.out.trans hE6⟩
                case measure => simp [intOf]; omega
          · obtain rfl : k = C.meters.length := by omega
            obtain ⟨g2, hg2⟩ : ∃ g2, g2 = (g && (C.meters.take C.meters.length).all (mtB C.tto)) := ⟨_, rfl⟩
            rw [← hg2]
            have hok : g2 = okC C := by rw [hg2, List.take_length, HG.out, okC, Bool.and_assoc]
            have HOK := Lib.hid hok
            have HK3 := Lib.hid k3
            clear hg2 hok hlt k0 k1 k2 k3
            cases g2
            · go_wp2
              go_ret
              exact RetE.fin HK3.out (by unfold chkC; rw [← HOK.out]; rfl)
            · go_wp2
              go_ret
              exact RetE.fin HK3.out (by unfold chkC; rw [← HOK.out]; rfl)
end Go.Proofs.YtaoamnhchidjfaaDoor
