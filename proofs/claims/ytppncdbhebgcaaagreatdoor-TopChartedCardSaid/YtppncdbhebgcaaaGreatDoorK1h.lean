
/- TopCharted: the two boxes, filled, as swaps. -/
import Derived.Test.YtppncdbhebgcaaaGreatDoorK1g
namespace Go.Proofs.YtppncdbhebgcaaaGreatDoor
open Go.RowKit

/-- one filled box in memory -/
theorem box_swapV {w : World} {B C g s k : Nat} {v vS vE : Value} {es : List Value} {x : Nat → Int} (hR : BxR w B vS vE es ((List.range k).map x))
    (hg : w.heap[g]? = some (.cells #[v] 23)) (hI : w.ownsRow C 3 1 v s (intVs (idL s))) :
    Sw7.SwapV w (.agg #[.slice (some ⟨g, 0, none⟩) 1 1, vS, vE, .slice none 0 0, .int .i64 (s : Int)]) (boxS x k s) := by
  obtain ⟨p, c, q, d, rfl, rfl, hS, hE⟩ := hR.ints
  have hI' : w.ownsRow C 3 1 v (idL s).length (intVs (idL s)) := by rw [idL_len]; exact hI
  obtain ⟨pi, ci, rfl, hL⟩ := ownsRow_ints hI'
  have e1 : ((List.range k).map x).length = k := by simp
  rw [e1] at hS ⊢
  have e2 : (boxS x k s).earn = ((List.range k).map x).map fun y => [y] := by simp [boxS]
  have e3 : (boxS x k s).stock.length = k := by simp [boxS]
  have e4 : (boxS x k s).earn.length = k := by simp [boxS]
  refine ⟨some ⟨g, 0, none⟩, 1, p, c, q, d, none, 0, by rw [e3, e4]; rfl, fun i hi => ?_, hS, by rw [e2]; exact hE, PairsAt.nil _ _⟩
  have hi' : i < 1 := hi
  obtain rfl : i = 0 := by omega
  exact ⟨_, 0, _, rfl, cell_of_heap hg 0, ⟨_, ci, rfl, hL⟩⟩
theorem TwI.low {Wm w : World} {g1 g2 j B : Nat} {v1 v2 vS vE : Value} {es : List Value} {L : List Int} (h : TwI Wm w g1 g2 v1 v2 j) (hR : BxR Wm B vS vE es L) (h1 : g1 < B) (h2 : g2 < B) : BxR w B vS vE es L :=
  hR.keep (fun y hy => h.fr.block y (hR.S.lt y hy).2 (fun e => by have := (hR.S.lt y hy).1; omega)) (fun y hy => h.fr.block y (hR.E.lt y hy).2 (fun e => by have := (hR.E.lt y hy).1; omega))
    (fun y _ hy hm => h.fr.block y (Array.getElem?_eq_some_iff.1 hm).1 (fun e => by omega))
/-- both boxes are filled -/
theorem box_both {W3 Wm w : World} {g1 b1 g2 b2 B s k : Nat} {u1 u2 vS1 vE1 vS2 vE2 v1 v2 : Value} {es1 es2 : List Value} {lo hi : Nat → Int}
    (hB : TwB W3 Wm g1 b1 g2 b2 B s u1 u2 vS1 vE1 es1 ((List.range k).map lo) vS2 vE2 es2 ((List.range k).map hi)) (hI : TwI Wm w g1 g2 v1 v2 s) :
    ∃ p c q d p' c' q' d', w.heap[b1]? = some (.cells #[.slice (some ⟨g1, 0, none⟩) 1 1, .slice p k c, .slice q k d, .slice none 0 0, .int .i64 (s : Int)] 33) ∧
    w.heap[b2]? = some (.cells #[.slice (some ⟨g2, 0, none⟩) 1 1, .slice p' k c', .slice q' k d', .slice none 0 0, .int .i64 (s : Int)] 33) ∧
    Sw7.SwapV w (.agg #[.slice (some ⟨g1, 0, none⟩) 1 1, .slice p k c, .slice q k d, .slice none 0 0, .int .i64 (s : Int)]) (boxS lo k s) ∧
    Sw7.SwapV w (.agg #[.slice (some ⟨g2, 0, none⟩) 1 1, .slice p' k c', .slice q' k d', .slice none 0 0, .int .i64 (s : Int)]) (boxS hi k s) := by
  obtain ⟨t1, t2, t3, t4, t5⟩ := hB.lt
  have m1 := hI.old hB.m1 (by omega) (by omega)
  have m2 := hI.old hB.m2 (by omega) (by omega)
  have s1 := box_swapV (hI.low hB.R1 (by omega) (by omega)) hI.h1 hI.I1
  have s2 := box_swapV (hI.low hB.R2 (by omega) (by omega)) hI.h2 hI.I2
  obtain ⟨p, c, q, d, e1, e2, -, -⟩ := hB.R1.ints
  obtain ⟨p', c', q', d', e3, e4, -, -⟩ := hB.R2.ints
  rw [List.length_map, List.length_range] at e1 e2 e3 e4
  rw [e1, e2] at m1 s1
  rw [e3, e4] at m2 s2
  exact ⟨p, c, q, d, p', c', q', d', m1, m2, s1, s2⟩
section
variable {x : Nat → Int} {n s : Nat} (hn : n ≤ 6) (hs : s ≤ 3) (hsn : s ≤ n) (hx : ∀ i, i < n → 0 ≤ x i ∧ x i ≤ 999)
include hn hs hsn hx
theorem box_best07 {w : World} {v : Value} (hv : Sw7.SwapV w v (boxS x n s)) : Calls Tryz.prog 11 #[v] w (RetE (.tuple #[.int .i64 (topSum n x s), .int .i64 0]) w) := by
  have hV := box_valid hn hs hsn hx
  have h := Sw7.Best07 v _ w hv (Sw7.modest_of_valid hV)
  rwa [Sw7.ansV_t hV, box_best hn hs hsn hx] at h
theorem box_fair07 {w : World} {v : Value} (hv : Sw7.SwapV w v (boxS x n s)) : Calls Tryz.prog 12 #[v] w (RetE (.tuple #[.int .i64 (topSum n x s), .int .i64 0]) w) := by
  have hV := box_valid hn hs hsn hx
  have h := Sw7.Fair07 v _ w hv (Sw7.modest_of_valid hV)
  have e : Sw7.fairV (boxS x n s) = .tuple #[.int .i64 (topSum n x s), .int .i64 0] := by
    have h1 : ¬(boxS x n s).boxes.length = 0 := by simp [boxS]
    unfold Sw7.fairV
    rw [if_pos (bP_t hV), if_neg h1, box_fair hn hs hsn hx]
  rwa [e] at h
end
end Go.Proofs.YtppncdbhebgcaaaGreatDoor
