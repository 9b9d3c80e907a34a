/- The walk of Fits. -/
import Derived.Test.YtpgjkmjejpfkmaaW07o
namespace Go.Proofs.Ytpgjkmjejpfkmaa
open Go.RowKit

/-- what Fits returns -/
noncomputable def fitsV (S : Swap) (L : List (List Int)) : Value :=
  if bP (Valid S) = true then (if bP (IsPlan S L) = true then .tuple #[.bool (bP (FitsTo (openV S) (planTo L L.length) S.boxes.length)), .int .i64 0] else .tuple #[.bool false, .int .i64 1]) else .tuple #[.bool false, .int .i64 70]

theorem planTo_lt {S : Swap} (hS : Valid S) {L : List (List Int)} (hL : IsPlan S L) (k j : Nat) : planTo L k j < 64 := by
  unfold planTo
  split
  · by_cases h : j < L.length
    · rw [getD_of_lt _ _ _ h]
      have hr := (hL.2 j h).2
      have ht := hS.stock
      exact maskOf_lt _ (fun n hn => by have := hr.mem n hn; omega)
    · rw [show L.getD j [] = [] from by simp [List.getD, List.getElem?_eq_none (by omega : L.length ≤ j)]]
      decide
  · decide

set_option maxHeartbeats 1600000 in
theorem Fits07 (v : Value) (S : Swap) (pp : Option Addr) (pc : Nat) (L : List (List Int)) (w : World) (hv : SwapV w v S) (hM : Modest S) (hL : ListsAt w pp L) (hLl : L.length ≤ 100000) (hLr : ∀ i (h : i < L.length), L[i].length ≤ 100000) :
    Calls Try.prog 33 #[v, .slice pp L.length pc] w (RetE (fitsV S L) w) := by
  have hG := fun w' (h : Ext w w') => given07 v S pp pc L w' (SwapV.mono _ _ _ _ h hv) hM (hL.ext h) hLl hLr
  obtain ⟨p0, c0, p1, c1, p2, c2, p3, c3, rfl, h0, h1, h2, h3⟩ := id hv
  have HG := Lib.hid hG
  clear hG hL hLr hv
  go_enter Try.func33, Try.ntmps33
  go_upto_region 1 with (fail)
  have hn := heap_new w (.cells #[.slice p0 S.boxes.length c0, .slice p1 S.stock.length c1, .slice p2 S.earn.length c2, .slice p3 S.keeps.length c3, .int .i64 S.changes] 26)
  obtain ⟨W, hW⟩ : ∃ W, W = w.alloc (.cells #[.slice p0 S.boxes.length c0, .slice p1 S.stock.length c1, .slice p2 S.earn.length c2, .slice p3 S.keeps.length c3, .int .i64 S.changes] 26) := ⟨_, rfl⟩
  have hE : Ext w W := by rw [hW]; exact Ext.alloc (Ext.refl w) _
  rw [← hW] at hn ⊢
  have q0 := ExtW.cell (v := .slice p0 S.boxes.length c0) (cell_of_heap hn 0)
  have q1 := ExtW.cell (v := .slice p1 S.stock.length c1) (cell_of_heap hn 1)
  have q2 := ExtW.cell (v := .slice p2 S.earn.length c2) (cell_of_heap hn 2)
  have q3 := ExtW.cell (v := .slice p3 S.keeps.length c3) (cell_of_heap hn 3)
  have q4 := ExtW.cell (v := .int .i64 S.changes) (cell_of_heap hn 4)
  obtain ⟨x0, hx0⟩ := ExtW.of (Ext.refl W)
  clear hW hn h0 h1 h2 h3
  conv => arg 5; rw [hx0]
  go_wp2_with fail
  refine (HG.out _ (hE.trans x0.h)).mono ?_
  rintro e W2 (⟨hS, hP, b, rfl, hvis, hE2⟩ | ⟨hS, hP, rfl, hE2⟩ | ⟨hS, rfl, hE2⟩)
  · have HFV := Lib.hid (show fitsV S L = .tuple #[.bool (bP (FitsTo (openV S) (planTo L L.length) S.boxes.length)), .int .i64 0] from by simp only [fitsV, bP_t hS, bP_t hP, if_true])
    have hb3 := hS.boxes
    have hc0 := hE2.cell (q0 x0)
    have hF := fun w' (h : Ext W2 w') => fits07 (planTo L L.length) S.boxes.length b (openV S) w' (hvis.ext h) (openV_ok hS) (fun k _ => planTo_lt hS hP _ k) hb3
    have HF := Lib.hid hF
    have hlt : w.heap.size < W2.heap.size := lt_of_cell hc0
    clear hF hS hP
    obtain ⟨f, hf⟩ : ∃ f, f = planTo L L.length := ⟨_, rfl⟩
    rw [← hf] at HF HFV ⊢
    unfold pl3 at HF ⊢
    clear hf
    go_wp2_with fail
    refine (HF.out _ (by repeat (with_reducible (first | exact Ext.refl _ | refine Ext.drew ?_ | refine Ext.alloc ?_ _)))).mono ?_
    rintro e W3 ⟨rfl, hE3⟩
    go_wp2
    go_ret2
    refine RetE.fin ?_ HFV.out.symm
    exact ((hE.trans x0.h).trans hE2).trans ((Ext.alloc (Ext.refl _) _).trans hE3)
  · have HFV := Lib.hid (show fitsV S L = .tuple #[.bool false, .int .i64 1] from by simp [fitsV, bP_t hS, bP_f hP])
    clear hS hP
    unfold pl3
    go_wp2
    go_ret2
    exact RetE.fin (Ext.alloc ((hE.trans x0.h).trans hE2) _) HFV.out.symm
  · have HFV := Lib.hid (show fitsV S L = .tuple #[.bool false, .int .i64 70] from by simp [fitsV, bP_f hS])
    clear hS
    unfold pl3
    go_wp2
    go_ret2
    exact RetE.fin (Ext.alloc ((hE.trans x0.h).trans hE2) _) HFV.out.symm
end Go.Proofs.Ytpgjkmjejpfkmaa
