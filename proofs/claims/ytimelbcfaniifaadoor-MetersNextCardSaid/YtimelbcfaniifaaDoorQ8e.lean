/- The walks of the reference's known and Fewest. -/
import Derived.Test.YtimelbcfaniifaaDoorQ8d
namespace Go.Proofs.YtimelbcfaniifaaDoor
open Go.RowKit

def okT (n : Int) (l : List (Int × List Int)) : List (Int × List Int) := if n = 0 then l else []
theorem okT_0 {n : Int} (h : n = 0) (l : List (Int × List Int)) : okT n l = l := if_pos h
theorem okT_ne {n : Int} (h : ¬n = 0) (l : List (Int × List Int)) : okT n l = [] := if_neg h
def RetT (ts : List (Int × List Int)) (n : Int) (w : World) (e : Ending) (w' : World) : Prop := ∃ q c, e = .returned (.tuple #[.slice q ts.length c, .int .i64 n]) ∧ Ext w w' ∧ TrsAt w' q ts
theorem askV_bad {M : Mt} (hM : ¬ValidM M) (is : Bool) : askV M is = 40 := by unfold askV; rw [if_neg hM]
theorem askV_ref {M : Mt} (hM : ValidM M) : askV M true = if truthsL M M.wrong = [] then 3 else 0 := by
  rw [askV_t hM]
  have h := truthsL_ne hM (n := M.wrong)
  by_cases hc : leastN M ≤ M.wrong
  · rw [if_pos hc, if_neg (h.2 hc)]
  · rw [if_neg hc, if_pos (Classical.byContradiction fun e => hc (h.1 e))]

set_option maxRecDepth 20000 in
set_option maxHeartbeats 1600000 in
theorem rknown04 (M : Mt) (hf : farB M = false) (is : Bool) (v : Value) (w : World) (hv : MtV w v M) :
    Calls Tryd.prog 64 #[v, .bool is] w (RetT (okT (askV M is) (truthsL M M.wrong)) (askV M is) w) := by
  have HV := Lib.hid hv
  have hl := far_len hf
  have HCK := Lib.hid (fun y (h : Ext w y) => rCheck04 M _ y (hv.ext h) (by omega) (by omega))
  have HF := Lib.hid hf
  obtain ⟨p, c, qq, d, rfl, hp, hq⟩ := hv
  clear hp hq hf hl
  go_enter Tryd.func64, Tryd.ntmps64
  go_upto_region 1 with (fail)
  obtain ⟨s0, hs0⟩ : ∃ s0, s0 = w.heap.size := ⟨_, rfl⟩
  obtain ⟨W, hW⟩ : ∃ W, W = w.alloc (.cells #[.slice p M.weeks.length c, .slice qq M.reads.length d, .int .i64 M.wrong] 25) := ⟨_, rfl⟩
  have m0 : W.heap[s0]? = some (.cells #[.slice p M.weeks.length c, .slice qq M.reads.length d, .int .i64 M.wrong] 25) := by rw [hs0, hW]; exact heap_new _ _
  have hE : Ext w W := by rw [hW]; exact (by repeat (first | exact Ext.refl _ | assumption | refine Ext.drewN ?_ _ | refine Ext.drew ?_ | refine Ext.alloc ?_ _))
  rw [← hs0, ← hW]
  have a0 := ExtW.cell (v := .slice p M.weeks.length c) (cell_of_heap m0 0)
  have a1 := ExtW.cell (v := .slice qq M.reads.length d) (cell_of_heap m0 1)
  have a2 := ExtW.cell (v := .int .i64 M.wrong) (cell_of_heap m0 2)
  have HE := Lib.hid hE
  have HCK := Lib.hid (fun x : ExtW W => ExtW.call (x := x) (HCK.out x.w (HE.out.trans x.h)))
  obtain ⟨x0, hx0⟩ := ExtW.of (Ext.refl W)
  clear hW m0 hE hs0
  conv => arg 5; rw [hx0]
  clear hx0
  by_cases hM : ValidM M
  case neg =>
    have HZ := Lib.hid (askV_bad hM is)
    rw [chkM_f hM] at HCK
    clear hM
    go_wp2_with (go_at_call 36; refine (HCK.out _).mono ?_; rintro e w2 ⟨rfl, x1, rfl⟩)
    go_ret2
    refine ⟨none, 0, ?_, HE.out.trans x1.h, ?_⟩ <;> rw [HZ.out, okT_ne (by decide)]
    · rfl
    · exact fun i h => absurd h (by simp)
  rw [chkM_t hM] at HCK
  have HVM := Lib.hid hM
  clear hM
  cases is
  case false =>
    have HZ := Lib.hid (askV_false HVM.out)
    go_wp2_with (go_at_call 36; refine (HCK.out _).mono ?_; rintro e w2 ⟨rfl, x1, rfl⟩)
    go_ret2
    refine ⟨none, 0, ?_, HE.out.trans x1.h, ?_⟩ <;> rw [HZ.out, okT_ne (by decide)]
    · rfl
    · exact fun i h => absurd h (by simp)
  have HTR := Lib.hid (fun y (h : Ext W y) => rtruths04 M HVM.out HF.out M.wrong _ y (HV.out.ext (HE.out.trans h)))
  have hz := askV_ref HVM.out
  have hlen := truthsL_len HVM.out HF.out M.wrong
  obtain ⟨T, hT⟩ : ∃ T, T = truthsL M M.wrong := ⟨_, rfl⟩
  rw [← hT] at HTR hz hlen
  have HTT := Lib.hid hT
  clear hT
  by_cases h0 : T = []
  · rw [if_pos h0] at hz
    have HZ := Lib.hid hz
    have hlz : T.length = 0 := by rw [h0]; rfl
    rw [hlz] at HTR
    clear hz h0 hlz
    go_wp2_with (first | (go_at_call 36; refine (HCK.out _).mono ?_; rintro e w2 ⟨rfl, x1, rfl⟩) | (go_at_call 70; refine (HTR.out _ x1.h).mono ?_; rintro e w2 ⟨q, cq, rfl, hE2, hq⟩))
    go_ret2
    refine ⟨none, 0, ?_, (HE.out.trans x1.h).trans hE2, ?_⟩ <;> rw [HZ.out, okT_ne (by decide)]
    · rfl
    · exact fun i h => absurd h (by simp)
  · rw [if_neg h0] at hz
    have HZ := Lib.hid hz
    have hne : ((T.length : Int) == 0) = false := by rw [beq_eq_false_iff_ne]; intro e; exact h0 (List.length_eq_zero_iff.1 (by omega))
    have hne2 : ¬T = [] := h0
    clear hz
    go_wp2_with (first | (go_at_call 36; refine (HCK.out _).mono ?_; rintro e w2 ⟨rfl, x1, rfl⟩) | (go_at_call 70; refine (HTR.out _ x1.h).mono ?_; rintro e w2 ⟨q, cq, rfl, hE2, hq⟩))
    go_ret2
    refine ⟨q, cq, ?_, (HE.out.trans x1.h).trans hE2, ?_⟩ <;> rw [HZ.out, okT_0 rfl, ← HTT.out]
    · rfl
    · exact hq

noncomputable def fewV04 (M : Mt) : Value := .tuple #[.int .i64 (if chkM M = 0 then leastTo M 100 else 0), .int .i64 (chkM M)]
set_option maxRecDepth 20000 in
set_option maxHeartbeats 1600000 in
theorem rFewest04 (M : Mt) (hf : farB M = false) (v : Value) (w : World) (hv : MtV w v M) :
    Calls Tryd.prog 37 #[v] w (RetE (fewV04 M) w) := by
  have HV := Lib.hid hv
  have hl := far_len hf
  have HCK := Lib.hid (fun y (h : Ext w y) => rCheck04 M _ y (hv.ext h) (by omega) (by omega))
  have HF := Lib.hid hf
  obtain ⟨p, c, qq, d, rfl, hp, hq⟩ := hv
  clear hp hq hf hl
  go_enter Tryd.func37, Tryd.ntmps37
  go_upto_region 1 with (fail)
  obtain ⟨s0, hs0⟩ : ∃ s0, s0 = w.heap.size := ⟨_, rfl⟩
  obtain ⟨W, hW⟩ : ∃ W, W = w.alloc (.cells #[.slice p M.weeks.length c, .slice qq M.reads.length d, .int .i64 M.wrong] 25) := ⟨_, rfl⟩
  have m0 : W.heap[s0]? = some (.cells #[.slice p M.weeks.length c, .slice qq M.reads.length d, .int .i64 M.wrong] 25) := by rw [hs0, hW]; exact heap_new _ _
  have hE : Ext w W := by rw [hW]; exact (by repeat (first | exact Ext.refl _ | assumption | refine Ext.drewN ?_ _ | refine Ext.drew ?_ | refine Ext.alloc ?_ _))
  rw [← hs0, ← hW]
  have a0 := ExtW.cell (v := .slice p M.weeks.length c) (cell_of_heap m0 0)
  have a1 := ExtW.cell (v := .slice qq M.reads.length d) (cell_of_heap m0 1)
  have a2 := ExtW.cell (v := .int .i64 M.wrong) (cell_of_heap m0 2)
  have HE := Lib.hid hE
  have HCK := Lib.hid (fun x : ExtW W => ExtW.call (x := x) (HCK.out x.w (HE.out.trans x.h)))
  obtain ⟨x0, hx0⟩ := ExtW.of (Ext.refl W)
  clear hW m0 hE hs0
  conv => arg 5; rw [hx0]
  clear hx0
  by_cases hM : ValidM M
  case neg =>
    have HZ := Lib.hid (show fewV04 M = .tuple #[.int .i64 0, .int .i64 40] from by unfold fewV04; rw [chkM_f hM, if_neg (by decide)])
    rw [chkM_f hM] at HCK
    clear hM
    go_wp2_with (go_at_call 36; refine (HCK.out _).mono ?_; rintro e w2 ⟨rfl, x1, rfl⟩)
    go_ret2
    exact RetE.fin (HE.out.trans x1.h) (by rw [HZ.out]; rfl)
  rw [chkM_t hM] at HCK
  have HVM := Lib.hid hM
  have HZ := Lib.hid (show fewV04 M = .tuple #[.int .i64 (leastN M), .int .i64 0] from by unfold fewV04; rw [chkM_t hM, if_pos rfl, least_eq hM])
  have HTR := Lib.hid (fun n y (h : Ext W y) => rtruths04 M HVM.out HF.out n _ y (HV.out.ext (HE.out.trans h)))
  have HNE := Lib.hid (fun n => truthsL_ne HVM.out (n := n))
  have HLEN := Lib.hid (fun n => truthsL_len HVM.out HF.out n)
  obtain ⟨hl1, D, hD1, hD2⟩ := least_law hM
  have hl0 : 0 ≤ leastN M := by omega
  have hl7 : leastN M ≤ 7 := by
    have := wIn_le (l := M.reads) (D := D) (P := fun _ => true)
    have h7 := hM.nr
    have : Wd M D ≤ M.reads.length := this
    omega
  clear hl1 hD1 hD2 hM
  obtain ⟨m, hm⟩ : ∃ m, m = leastN M := ⟨_, rfl⟩
  rw [← hm] at hl0 hl7 HZ HNE
  clear hm D
  go_upto_region 5 with (go_at_call 36; refine (HCK.out _).mono ?_; rintro e w2 ⟨rfl, x1, rfl⟩)
  go_wp2
  go_loopw [5] (fun i wr => ∃ k : Int, 0 ≤ k ∧ k ≤ m ∧ i = .int .i64 k ∧ ∃ x : ExtW W, wr = x.w) (fun i _ => (m - intOf i).toNat)
  case atStart => exact ⟨0, by omega, hl0, rfl, x1, rfl⟩
  case round =>
    obtain ⟨k, hk0, hk, rfl, x, rfl⟩ := hrel
    have htr := HTR.out k
    have hne := HNE.out k
    have hlen := HLEN.out k
    obtain ⟨T, hT⟩ : ∃ T, T = truthsL M k := ⟨_, rfl⟩
    rw [← hT] at htr hne hlen
    have HT2 := Lib.hid (htr x.w x.h)
    clear htr hT
    by_cases hlt : k < m
    · have h0 : T = [] := Classical.byContradiction fun e => by have := hne.1 e; omega
      have hlz : T.length = 0 := by rw [h0]; rfl
      rw [hlz] at HT2
      have hwk : IntKind.i64.wrap (k + 1) = k + 1 := IntWalk.i64_in _ (by omega)
      clear hne h0 hlz hlen
      go_wp2_with (go_at_call 70; refine HT2.out.mono ?_; rintro e w2 ⟨q, cq, rfl, hE2, hq⟩)
      go_roundw
      case rel => exact ⟨k + 1, by omega, by omega, rfl, ⟨_, x.h.trans hE2⟩, rfl⟩
      case measure => simp [intOf]; omega
    · obtain rfl : k = m := by omega
      have h0 : ¬T = [] := hne.2 (Int.le_refl _)
      have hne2 : ((T.length : Int) == 0) = false := by rw [beq_eq_false_iff_ne]; intro e; exact h0 (List.length_eq_zero_iff.1 (by omega))
      clear hne
      go_wp2_with (go_at_call 70; refine HT2.out.mono ?_; rintro e w2 ⟨q, cq, rfl, hE2, hq⟩)
      go_ret2
      exact RetE.fin ((HE.out.trans x.h).trans hE2) (by rw [HZ.out]; rfl)
end Go.Proofs.YtimelbcfaniifaaDoor
