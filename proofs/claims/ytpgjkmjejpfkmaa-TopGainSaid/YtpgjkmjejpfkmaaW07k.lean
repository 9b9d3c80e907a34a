/- The walks of Best, gain, Copy and Change, for a valid visit. -/
import Derived.Test.YtpgjkmjejpfkmaaW07h
import Derived.Test.YtpgjkmjejpfkmaaW07j
namespace Go.Proofs.Ytpgjkmjejpfkmaa
open Go.RowKit

theorem openV_ok {S : Swap} (hS : Valid S) : VOK (openV S) := by
  refine ⟨hS.boxes, hS.stock, hS.earn, hS.row, hS.cell, ⟨hS.ch.1, by have := hS.ch.2; show S.changes ≤ 9; omega⟩, fun k _ => nowTo_lt hS _ k, fun k _ => ?_, fun k _ => ?_, fun i h => (hS.box i h).1⟩
  · have := keepTo_lt hS S.keeps.length (Nat.le_refl _) k
    rwa [List.take_length] at this
  · show 0 ≤ copiesTo S (nowTo S S.boxes.length) S.stock.length k ∧ copiesTo S (nowTo S S.boxes.length) S.stock.length k ≤ 99
    unfold copiesTo
    have hc := cntB_le (nowTo S S.boxes.length) k 3
    split
    · rename_i hk
      have := hS.st k hk
      rw [getD_of_lt _ _ _ hk]
      omega
    · omega

/-- all plans of a visit at work -/
noncomputable def allP (V : Visit) : List (Nat → Nat) := plansL V V.S.boxes.length (fun _ => 0) 0
noncomputable def bestN (V : Visit) : Int := (bestOf V (allP V)).1

theorem modest_of_valid {S : Swap} (hS : Valid S) : Modest S := by
  refine ⟨by have := hS.boxes; omega, fun i h => by have := (hS.box i h).1; omega, by have := hS.stock; omega, by have := hS.earn; have := hS.stock; omega, fun i h => by rw [hS.row i h]; have := hS.boxes; omega, by have := hS.keeps; omega⟩

/-- a function's answer where the visit may be bad -/
noncomputable def ansV (S : Swap) (n : Int) : Value := .tuple #[.int .i64 (if bP (Valid S) = true then n else 0), .int .i64 (chk S)]
theorem ansV_t {S : Swap} {n : Int} (h : Valid S) : ansV S n = .tuple #[.int .i64 n, .int .i64 0] := by simp [ansV, bP_t h, chk_t h]
theorem ansV_f {S : Swap} {n : Int} (h : ¬Valid S) : ansV S n = .tuple #[.int .i64 0, .int .i64 70] := by simp [ansV, bP_f h, chk_f h]

theorem SwapV.cells {w : World} {v : Value} {S : Swap} (h : SwapV w v S) : ∃ a b c d e, v = .agg #[a, b, c, d, e] := by
  obtain ⟨p0, c0, p1, c1, p2, c2, p3, c3, rfl, -⟩ := h
  exact ⟨_, _, _, _, _, rfl⟩

set_option maxHeartbeats 800000 in
theorem Best07 (v : Value) (S : Swap) (w : World) (hv : SwapV w v S) (hM : Modest S) : Calls Try.prog 17 #[v] w (RetE (ansV S (bestN (openV S))) w) := by
  have hC := fun w' (h : Ext w w') => Check07 v S w' (SwapV.mono _ _ _ _ h hv) hM
  obtain ⟨p0, c0, p1, c1, p2, c2, p3, c3, rfl, h0, h1, h2, h3⟩ := id hv
  have HC := Lib.hid hC
  clear hC
  by_cases hS : Valid S
  · rw [ansV_t hS]
    have HS := Lib.hid hS
    have HC2 := Lib.hid (fun w' h => (HC.out w' h).mono (R' := RetE (.int .i64 0) w') (fun e w'' hh => by rw [← chk_t hS]; exact hh))
    clear HC hS
    go_enter Try.func17, Try.ntmps17
    go_upto_region 1 with (fail)
    have hn := heap_new w (.cells #[.slice p0 S.boxes.length c0, .slice p1 S.stock.length c1, .slice p2 S.earn.length c2, .slice p3 S.keeps.length c3, .int .i64 S.changes] 26)
    obtain ⟨W, hW⟩ : ∃ W, W = w.alloc (.cells #[.slice p0 S.boxes.length c0, .slice p1 S.stock.length c1, .slice p2 S.earn.length c2, .slice p3 S.keeps.length c3, .int .i64 S.changes] 26) := ⟨_, rfl⟩
    have hE : Ext w W := by rw [hW]; exact Ext.alloc (Ext.refl w) _
    rw [← hW] at hn ⊢
    have q0 := ExtW.cell (v := .slice p0 S.boxes.length c0) (cell_of_heap hn 0)
    have q1 := ExtW.cell (v := .slice p1 S.stock.length c1) (cell_of_heap hn 1)
    have q2 := ExtW.cell (v := .slice p2 S.earn.length c2) (cell_of_heap hn 2)
    have q3 := ExtW.cell (v := .slice p3 S.keeps.length c3) (cell_of_heap hn 3)
    have q4 := ExtW.cell (v := .int .i64 S.changes) (cell_of_heap hn 4)
    obtain ⟨x0, hx0⟩ := ExtW.of (Ext.refl W)
    have HV := Lib.hid hv
    clear hW hn hv
    conv => arg 5; rw [hx0]
    go_wp2_with fail
    refine (ExtW.call (HC2.out _ (hE.trans x0.h))).mono ?_
    rintro e _ ⟨rfl, x1, rfl⟩
    go_wp2_with fail
    refine (open07 _ S x1.w (SwapV.mono _ _ _ _ (hE.trans x1.h) HV.out) HS.out).mono ?_
    rintro e W2 ⟨b, rfl, hvis, hE2, -⟩
    go_wp2_with fail
    have hB := best07 (openV S) (openV_ok HS.out) b W2 hvis
    obtain ⟨mp, hmp⟩ : ∃ mp, mp = bestOf (openV S) (plansL (openV S) (openV S).S.boxes.length (fun _ => 0) 0) := ⟨_, rfl⟩
    rw [← hmp] at hB
    unfold pl3 at hB
    have HMP := Lib.hid hmp
    clear hmp
    refine hB.mono ?_
    rintro e W3 ⟨rfl, hE3⟩
    clear hB
    go_wp2
    go_ret2
    refine RetE.fin ?_ (by rw [HMP.out]; rfl)
    repeat (with_reducible (first | refine Ext.drew ?_ | refine Ext.alloc ?_ _ | exact ((hE.trans x1.h).trans hE2).trans hE3))
  · rw [ansV_f hS]
    have HC2 := Lib.hid (fun w' h => (HC.out w' h).mono (R' := RetE (.int .i64 70) w') (fun e w'' hh => by rw [← chk_f hS]; exact hh))
    clear HC hS
    go_enter Try.func17, Try.ntmps17
    go_wp2_with fail
    refine (HC2.out _ (Ext.alloc (Ext.refl w) _)).mono ?_
    rintro e W2 ⟨rfl, hE2⟩
    go_wp2
    go_ret2
    exact RetE.fin ((Ext.alloc (Ext.refl w) _).trans hE2) rfl
end Go.Proofs.Ytpgjkmjejpfkmaa
