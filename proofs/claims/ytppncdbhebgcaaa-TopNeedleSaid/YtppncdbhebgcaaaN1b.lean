
/- TopNeedle: a row of records, each with a row of one number; the walk of dayPlayed. -/
import Derived.Test.YtppncdbhebgcaaaN1a
import Derived.Test.YtppncdbhebgcaaaYB
import Derived.Test.YtppncdbhebgcaaaOpY
import Derived.Test.YtppncdbhebgcaaaVG
namespace Go.Proofs.Ytppncdbhebgcaaa
open Go.RowKit

theorem own_not' {w : World} {B size n g : Nat} {e t : TypeId} {v : Value} {xs : List Value} {cs : Array Value} {f : Nat × Nat} (h : w.ownsRow B e size v n xs) (hm : w.heap[g]? = some (.cells cs t f)) (ht : t ≠ e) : some g ≠ v.ownBlock := by
  intro hg
  rcases h.2 with ⟨hv, -⟩ | ⟨g1, cap, cur, hv, -, hm1, -⟩
  · rw [hv] at hg; cases hg
  · rw [hv] at hg
    cases hg
    rw [hm] at hm1
    injection hm1 with h1
    injection h1 with _ h2
    exact ht h2
/-- a row of records, each with a row of one number -/
structure NdR (w : World) (B : Nat) (v : Value) (vs : List Value) (L : List Int) : Prop where
  out : w.ownsRow B 59 4 v L.length vs
  elt : ∀ i (h : i < L.length), ∃ g, vs[i * 4]? = some (.int .i64 (i : Int)) ∧ vs[i * 4 + 1]? = some (.int .i64 99999) ∧ vs[i * 4 + 2]? = some (.int .i64 0) ∧ vs[i * 4 + 3]? = some (.slice (some ⟨g, 0, none⟩) 1 1) ∧ B ≤ g ∧ w.heap[g]? = some (.cells #[.int .i64 L[i]] 3)
theorem NdR.nil (w : World) (B : Nat) : NdR w B (.slice none 0 0) [] [] := ⟨World.ownsRow_nil _ _ _ _, fun i h => absurd h (by simp)⟩
theorem NdR.off {w : World} {B b o : Nat} {u v : Value} {vs : List Value} {L : List Int} (h : NdR w B u vs L) (hb : b < B) : NdR (w.setCell ⟨b, o, none⟩ v) B u vs L := by
  refine ⟨ownsRow_off h.out hb, fun i hi => ?_⟩
  obtain ⟨g, e0, e1, e2, e3, hB, hg⟩ := h.elt i hi
  exact ⟨g, e0, e1, e2, e3, hB, heap_set_ne (by omega) hg⟩
theorem NdR.ext {w w' : World} {B : Nat} {v : Value} {vs : List Value} {L : List Int} (h : NdR w B v vs L) (hE : Ext w w') : NdR w' B v vs L :=
  ⟨ownsRow_ext h.out hE, fun i hi => by obtain ⟨g, e0, e1, e2, e3, hB, hg⟩ := h.elt i hi; exact ⟨g, e0, e1, e2, e3, hB, heap_ext3 hg hE⟩⟩
theorem NdR.step {wr w2 : World} {B g' g : Nat} {cap : Nat} {u : Value} {vs : List Value} {L : List Int} {x : Int} (h : NdR wr B u vs L) (hG : GrB u.ownBlock wr w2)
    (h2 : w2.ownsRow B 59 4 (.slice (some ⟨g', 0, none⟩) (L.length + 1) cap) (L.length + 1) (vs ++ [.int .i64 (L.length : Int), .int .i64 99999, .int .i64 0, .slice (some ⟨g, 0, none⟩) 1 1])) (hB : B ≤ g) (hg : w2.heap[g]? = some (.cells #[.int .i64 x] 3)) :
    NdR w2 B (.slice (some ⟨g', 0, none⟩) (L.length + 1) cap) (vs ++ [.int .i64 (L.length : Int), .int .i64 99999, .int .i64 0, .slice (some ⟨g, 0, none⟩) 1 1]) (L ++ [x]) := by
  have hl : vs.length = L.length * 4 := h.out.1
  have hget2 : ∀ k, (vs ++ [.int .i64 (L.length : Int), .int .i64 99999, .int .i64 0, .slice (some ⟨g, 0, none⟩) 1 1])[L.length * 4 + k]? = [Value.int .i64 (L.length : Int), .int .i64 99999, .int .i64 0, .slice (some ⟨g, 0, none⟩) 1 1][k]? := fun k => by
    rw [List.getElem?_append_right (by omega), hl]
    congr 1
    omega
  refine ⟨by rw [List.length_append]; exact h2, fun i hi => ?_⟩
  by_cases hil : i < L.length
  · obtain ⟨q, e0, e1, e2, e3, hq, hm⟩ := h.elt i hil
    have el : (L ++ [x])[i] = L[i] := List.getElem_append_left hil
    rw [el]
    exact ⟨q, by rw [List.getElem?_append_left (by omega)]; exact e0, by rw [List.getElem?_append_left (by omega)]; exact e1, by rw [List.getElem?_append_left (by omega)]; exact e2, by rw [List.getElem?_append_left (by omega)]; exact e3, hq, hG.keep hm (own_not' h.out hm (by decide))⟩
  · have hil' : i = L.length := by simp at hi; omega
    subst hil'
    have el : (L ++ [x])[L.length] = x := by simp
    rw [el]
    exact ⟨g, hget2 0, hget2 1, hget2 2, hget2 3, hB, hg⟩
theorem NdR.recs {w : World} {B : Nat} {v : Value} {vs : List Value} {L : List Int} (h : NdR w B v vs L) : ∃ p c, v = .slice p L.length c ∧ We.RecsAt w p (We.ndRecs L) := by
  rcases h.out.2 with ⟨hv, h0⟩ | ⟨g, cap, cur, hv, hB, hg, hc, -, hs, hx⟩
  · obtain rfl : L = [] := List.length_eq_zero_iff.1 h0
    exact ⟨none, 0, hv, fun i hi => absurd hi (by simp [We.ndRecs])⟩
  · have hcell : ∀ j, j < L.length * 4 → w.cell? ⟨g, j, none⟩ = vs[j]? := fun j hj => by
      rw [cell_of_heap hg, ← hx, List.getElem?_take, if_pos (by omega)]
      simp
    refine ⟨_, cap, hv, fun i hi => ?_⟩
    have hi' : i < L.length := by rw [We.ndRecs_len] at hi; exact hi
    obtain ⟨q, e0, e1, e2, e3, hq, hm⟩ := h.elt i hi'
    rw [We.ndRecs_get]
    have hd : L.getD i 0 = L[i] := by simp [List.getD_eq_getElem?_getD, hi']
    refine ⟨g, 0, some ⟨q, 0, none⟩, 1, rfl, ?_, ?_, ?_, ?_, ?_⟩
    · rw [Nat.zero_add, hcell _ (by omega)]; exact e0
    · rw [Nat.zero_add, hcell _ (by omega)]; exact e1
    · rw [Nat.zero_add, hcell _ (by omega)]; exact e2
    · rw [Nat.zero_add, hcell _ (by omega)]; exact e3
    · show IntsAt w _ [L.getD i 0]
      rw [hd]
      exact IntsAt.cells [L[i]] hm

def dayT : TrayD := ⟨[(10, 20)], 0, 1, 7, [(1, 0), (0, 5), (0, 21)]⟩
theorem day_valid : ValidY dayT := okY_is (by decide +kernel)
theorem day_plays {q : List (Int × Int)} (h1 : q.Perm dayT.prs) (h2 : q.Pairwise (fun x y => x.2 ≤ y.2)) : (playsC dayT q).length = 3 := by
  have he : q = dayT.prs := by
    refine List.Perm.eq_of_pairwise (le := fun x y : Int × Int => x.2 ≤ y.2) (fun a b ha hb h3 h4 => ?_) h2 (by decide) h1
    have ha' := h1.subset ha
    simp [dayT] at ha' hb
    rcases ha' with rfl | rfl | rfl <;> rcases hb with rfl | rfl | rfl <;> first | rfl | (exfalso; simp at h3 h4)
  rw [he]
  decide +kernel

set_option maxRecDepth 20000 in
set_option maxHeartbeats 3200000 in
theorem dayPlayed03 (w : World) : Calls Try.prog 17 #[] w (RetE (.bool true) w) := by
  obtain ⟨s0, hs0⟩ : ∃ s, s = w.heap.size := ⟨_, rfl⟩
  obtain ⟨W, hW⟩ : ∃ W, W = (w.alloc (.cells #[.int .i64 10, .int .i64 20] 83)).alloc (.cells #[.int .i64 1, .int .i64 0, .int .i64 0, .int .i64 5, .int .i64 0, .int .i64 21] 89) := ⟨_, rfl⟩
  have hE : Ext w W := by rw [hW]; exact ((Ext.refl w).alloc _).alloc _
  have m0 : W.heap[s0]? = some (.cells #[.int .i64 10, .int .i64 20] 83) := by rw [hs0, hW]; exact heap_ext3 (heap_new _ _) ((Ext.refl _).alloc _)
  have m1 : W.heap[s0 + 1]? = some (.cells #[.int .i64 1, .int .i64 0, .int .i64 0, .int .i64 5, .int .i64 0, .int .i64 21] 89) := by rw [hs0, hW]; exact heap_new2 _ _ _
  have hv : TyV W (.agg #[.slice (some ⟨s0, 0, none⟩) 1 1, .int .i64 0, .int .i64 1, .int .i64 7, .slice (some ⟨s0 + 1, 0, none⟩) 3 3]) dayT :=
    ⟨_, 1, _, 3, rfl, PairsAt.cells (t := 83) (f := (0, 0)) m0, PairsAt.cells (t := 89) (f := (0, 0)) m1⟩
  have HP := Lib.hid (plays02 day_valid hv)
  have HE := Lib.hid hE
  clear m0 m1 hv hE
  go_enter Try.func17, Try.ntmps17
  go_upto_region 2 with (go_at_call 31; rw [← hs0, ← hW]; refine HP.out.mono ?_; rintro e w2 ⟨qs, pp, cc, hq1, hq2, rfl, hE2, -⟩)
  rw [day_plays hq1 hq2]
  have HE2 := Lib.hid (HE.out.trans hE2)
  clear hE2 hq1 hq2
  go_wp2
  go_ret
  exact RetE.fin HE2.out rfl
end Go.Proofs.Ytppncdbhebgcaaa
