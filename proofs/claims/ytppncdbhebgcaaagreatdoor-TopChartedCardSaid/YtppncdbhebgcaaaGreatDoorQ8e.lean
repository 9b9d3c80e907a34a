
/- The walks of the reference's known and Fewest. -/
import Derived.Test.YtppncdbhebgcaaaGreatDoorQ8d
namespace Go.Proofs.YtppncdbhebgcaaaGreatDoor
open Go.RowKit

def okT (n : Int) (l : List (Int × List Int)) : List (Int × List Int) := if n = 0 then l else []
theorem okT_0 {n : Int} (h : n = 0) (l : List (Int × List Int)) : okT n l = l := if_pos h
theorem okT_ne {n : Int} (h : ¬n = 0) (l : List (Int × List Int)) : okT n l = [] := if_neg h
def RetT (ts : List (Int × List Int)) (n : Int) (w : World) (e : Ending) (w' : World) : Prop := ∃ q c, e = .returned (.tuple #[.slice q ts.length c, .int .i64 n]) ∧ Ext w w' ∧ TrsAt w' q ts
theorem askV_bad {M : Mt} (hM : ¬ValidM M) (is : Bool) : askV M is = 40 := by unfold askV; rw [if_neg hM]
theorem askV_ref {M : Mt} (hM : ValidM M) : askV M true = if truthsL M M.wrong = [] then 3 else 0 := by
  rw [askV_t hM]
  have h := truthsL_ne hM (n := M.wrong)
  by_cases hc : leastN M ≤ M.wrong
  · rw [if_pos hc, if_neg (h.2 hc)]
  · rw [if_neg hc, if_pos (Classical.byContradiction fun e => hc (h.1 e))]

set_option maxRecDepth 20000 in
set_option maxHeartbeats 1600000 in
theorem rknown04 (M : Mt) (hf : farB M = false) (is : Bool) (v : Value) (w : World) (hv : MtV w v M) :
    Calls Tryz.prog 120 #[v, .bool is] w (RetT (okT (askV M is) (truthsL M M.wrong)) (askV M is) w) := by
  have HV := Lib.hid hv
  have hl := far_len hf
  have HCK := Lib.hid (fun y (h : Ext w y) => rCheck04 M _ y (hv.ext h) (by omega) (by omega))
  have HF := Lib.hid hf
  obtain ⟨p, c, qq, d, rfl, hp, hq⟩ := hv
  clear hp hq hf hl
  go_enter Tryz.func120, Tryz.ntmps120
  go_upto_region 1 with (fail)
  obtain ⟨s0, hs0⟩ : ∃ s0, s0 = w.heap.size := ⟨_, rfl⟩
  obtain ⟨W, hW⟩ : ∃ W, W = w.alloc (.cells #[.slice p M.weeks.length c, .slice qq M.reads.length d, .int .i64 M.wrong] 55) := ⟨_, rfl⟩
  have m0 : W.heap[s0]? = some (.cells #[.slice p M.weeks.length c, .slice qq M.reads.length d, .int .i64 M.wrong] 55) := by rw [hs0, hW]; exact heap_new _ _
  have hE : Ext w W := by rw [hW]; exact (by repeat (first | exact Ext.refl _ | assumption | refine Ext.drewN ?_ _ | refine Ext.drew ?_ | refine Ext.alloc ?_ _))
  rw [← hs0, ← hW]
  have a0 := ExtW.cell (v := .slice p M.weeks.length c) (cell_of_heap m0 0)
  have a1 := ExtW.cell (v := .slice qq M.reads.length d) (cell_of_heap m0 1)
  have a2 := ExtW.cell (v := .int .i64 M.wrong) (cell_of_heap m0 2)
  have HE := Lib.hid hE
  have HCK := Lib.hid (fun x : ExtW W => ExtW.call (x := x) (HCK.out x.w (HE.out.trans x.h)))
  obtain ⟨x0, hx0⟩ := ExtW.of (Ext.refl W)
  clear hW m0 hE hs0
  conv => arg 5; rw [hx0]
  clear hx0
  by_cases hM : ValidM M
  case neg =>
    have HZ := Lib.hid (askV_bad hM is)
    rw [chkM_f hM] at HCK
    clear hM
    go_wp2_with (go_at_call 29; refine (HCK.out _).mono ?_; rintro e w2 ⟨rfl, x1, rfl⟩)
    go_ret2
    refine ⟨none, 0, ?_, HE.out.trans x1.h, ?_⟩ <;> rw [HZ.out, okT_ne (by decide)]
    · rfl
    · exact fun i h => absurd h (by simp)
  rw [chkM_t hM] at HCK
  have HVM := Lib.hid hM
  clear hM
  cases is
  case false =>
    have HZ := Lib.hid (askV_false HVM.out)
    go_wp2_with (go_at_call 29; refine (HCK.out _).mono ?_; rintro e w2 ⟨rfl, x1, rfl⟩)
    go_ret2
    refine ⟨none, 0, ?_, HE.out.trans x1.h, ?_⟩ <;> rw [HZ.out, okT_ne (by decide)]
    · rfl
    · exact fun i h => absurd h (by simp)
  have HTR := Lib.hid (fun y (h : Ext W y) => rtruths04 M HVM.out HF.out M.wrong _ y (HV.out.ext (HE.out.trans h)))
  have hz := askV_ref HVM.out
  have hlen := truthsL_len HVM.out HF.out M.wrong
  obtain ⟨T, hT⟩ : ∃ T, T = truthsL M M.wrong := ⟨_, rfl⟩
  rw [← hT] at HTR hz hlen
  have HTT := Lib.hid hT
  clear hT
  by_cases h0 : T = []
  · rw [if_pos h0] at hz
    have HZ := Lib.hid hz
    have hlz : T.length = 0 := by rw [h0]; rfl
    rw [hlz] at HTR
    clear hz h0 hlz
    go_wp2_with (first | (go_at_call 29; refine (HCK.out _).mono ?_; rintro e w2 ⟨rfl, x1, rfl⟩) | (go_at_call 145; refine (HTR.out _ x1.h).mono ?_; rintro e w2 ⟨q, cq, rfl, hE2, hq⟩))
    go_ret2
    refine ⟨none, 0, ?_, (HE.out.trans x1.h).trans hE2, ?_⟩ <;> rw [HZ.out, okT_ne (by decide)]
    · rfl
    · exact fun i h => absurd h (by simp)
  · rw [if_neg h0] at hz
    have HZ := Lib.hid hz
    have hne : ((T.length : Int) == 0) = false := by rw [beq_eq_false_iff_ne]; intro e; exact h0 (List.length_eq_zero_iff.1 (by omega))
    have hne2 : ¬T = [] := h0
    clear hz
    go_wp2_with (first | (go_at_call 29; refine (HCK.out _).mono ?_; rintro e w2 ⟨rfl, x1, rfl⟩) | (go_at_call 145; refine (HTR.out _ x1.h).mono ?_; rintro e w2 ⟨q, cq, rfl, hE2, hq⟩))
    go_ret2
    refine ⟨q, cq, ?_, (HE.out.trans x1.h).trans hE2, ?_⟩ <;> rw [HZ.out, okT_0 rfl, ← HTT.out]
    · rfl
    · exact hq

end Go.Proofs.YtppncdbhebgcaaaGreatDoor
