
/- TopHits: a row of meters of one week, each with a block of its own. -/
import Derived.Test.YtppncdbhebgcaaaGreatDoorYC
namespace Go.Proofs.YtppncdbhebgcaaaGreatDoor
open Go.RowKit

theorem StH.self {k1 k2 i : Nat} {r1 r2 : Option Nat} {a b : World} (h1 : (i == k1) = false) (h2 : (i == k2) = false) (h : Ext a b) : StH k1 k2 r1 r2 i a b := by
  unfold StH
  rw [if_neg (by simpa using h1), if_neg (by simpa using h2)]
  exact h
theorem StH.k1 {k1 k2 : Nat} {r1 r2 : Option Nat} {a b : World} (h : GrB r1 a b) : StH k1 k2 r1 r2 k1 a b := by unfold StH; rw [if_pos rfl]; exact h
theorem StH.k2 {k1 k2 : Nat} {r1 r2 : Option Nat} {a b : World} (hk : (k2 == k1) = false) (h : GrB r2 a b) : StH k1 k2 r1 r2 k2 a b := by unfold StH; rw [if_neg (by simpa using hk), if_pos rfl]; exact h
theorem own_not {w : World} {B size n g : Nat} {e t : TypeId} {v : Value} {xs : List Value} {cs : Array Value} {f : Nat × Nat} (h : w.ownsRow B e size v n xs) (hm : w.heap[g]? = some (.cells cs t f)) (ht : t ≠ e) : some g ≠ v.ownBlock := by
  intro hg
  rcases h.2 with ⟨hv, -⟩ | ⟨g1, cap, cur, hv, -, hm1, -⟩
  · rw [hv] at hg; cases hg
  · rw [hv] at hg
    cases hg
    rw [hm] at hm1
    injection hm1 with h1
    injection h1 with _ h2
    exact ht h2
theorem Gr2.keep {r1 r2 : Option Nat} {w w' : World} (h : Gr2 r1 r2 w w') {b : Nat} {o : Obj} (hm : w.heap[b]? = some o) (h1 : some b ≠ r1) (h2 : some b ≠ r2) : w'.heap[b]? = some o := (h.block b (Array.getElem?_eq_some_iff.1 hm).1 h1 h2).trans hm
theorem Gr2.keepT {r1 r2 : Option Nat} {B : Nat} {w w' : World} (h : Gr2 r1 r2 w w') (hr : ∀ k, r1 = some k ∨ r2 = some k → k < B) {g : Nat} {o : Obj} (hB : B ≤ g) (hm : w.heap[g]? = some o) : w'.heap[g]? = some o :=
  h.keep hm (fun e => by have := hr g (Or.inl e.symm); omega) (fun e => by have := hr g (Or.inr e.symm); omega)
theorem Gr2.low {r1 r2 : Option Nat} {a w w' : World} (h : Gr2 r1 r2 w w') (hE : Ext a w) (hr : ∀ k, r1 = some k ∨ r2 = some k → a.heap.size ≤ k) : Ext a w' :=
  Below.trans hE ⟨h.os, h.tape, h.output, h.size, fun k hk => h.block k (Nat.lt_of_lt_of_le hk hE.size) (fun e => by have := hr k (Or.inl e.symm); omega) (fun e => by have := hr k (Or.inr e.symm); omega)⟩

theorem pairVs_pr1 (a b : Int) : pairVs [(a, b)] = [.int .i64 a, .int .i64 b] := by simp [pairVs, List.range_succ]
/-- a row of meters of one week -/
structure HitR (w : World) (B : Nat) (v : Value) (vs : List Value) (L : List Int) : Prop where
  out : w.ownsRow B 55 3 v L.length vs
  elt : ∀ i (h : i < L.length), ∃ g, vs[i * 3]? = some (.slice (some ⟨g, 0, none⟩) 1 1) ∧ vs[i * 3 + 1]? = some (.slice none 0 0) ∧ vs[i * 3 + 2]? = some (.int .i64 0) ∧ B ≤ g ∧ w.heap[g]? = some (.cells #[.int .i64 L[i], .int .i64 L[i]] 38)
theorem HitR.nil (w : World) (B : Nat) : HitR w B (.slice none 0 0) [] [] := ⟨World.ownsRow_nil _ _ _ _, fun i h => absurd h (by simp)⟩
theorem HitR.off {w : World} {B b o : Nat} {u v : Value} {vs : List Value} {L : List Int} (h : HitR w B u vs L) (hb : b < B) : HitR (w.setCell ⟨b, o, none⟩ v) B u vs L := by
  refine ⟨ownsRow_off h.out hb, fun i hi => ?_⟩
  obtain ⟨g, e0, e1, e2, hB, hg⟩ := h.elt i hi
  exact ⟨g, e0, e1, e2, hB, heap_set_ne (by omega) hg⟩
theorem HitR.ext {w w' : World} {B : Nat} {v : Value} {vs : List Value} {L : List Int} (h : HitR w B v vs L) (hE : Ext w w') : HitR w' B v vs L :=
  ⟨ownsRow_ext h.out hE, fun i hi => by obtain ⟨g, e0, e1, e2, hB, hg⟩ := h.elt i hi; exact ⟨g, e0, e1, e2, hB, heap_ext3 hg hE⟩⟩
theorem HitR.step {wr w2 : World} {B g' g : Nat} {cap : Nat} {u ux : Value} {vs xs : List Value} {L : List Int} {n : Nat} {x : Int} (h : HitR wr B u vs L) (hx : wr.ownsRow B 3 1 ux n xs) (hG : Gr2 u.ownBlock ux.ownBlock wr w2)
    (h2 : w2.ownsRow B 55 3 (.slice (some ⟨g', 0, none⟩) (L.length + 1) cap) (L.length + 1) (vs ++ [.slice (some ⟨g, 0, none⟩) 1 1, .slice none 0 0, .int .i64 0])) (hB : B ≤ g) (hg : w2.heap[g]? = some (.cells #[.int .i64 x, .int .i64 x] 38)) :
    HitR w2 B (.slice (some ⟨g', 0, none⟩) (L.length + 1) cap) (vs ++ [.slice (some ⟨g, 0, none⟩) 1 1, .slice none 0 0, .int .i64 0]) (L ++ [x]) := by
  have hl : vs.length = L.length * 3 := h.out.1
  have hget2 : ∀ k, (vs ++ [.slice (some ⟨g, 0, none⟩) 1 1, .slice none 0 0, .int .i64 0])[L.length * 3 + k]? = [Value.slice (some ⟨g, 0, none⟩) 1 1, .slice none 0 0, .int .i64 0][k]? := fun k => by
    rw [List.getElem?_append_right (by omega), hl]
    congr 1
    omega
  refine ⟨by rw [List.length_append]; exact h2, fun i hi => ?_⟩
  by_cases hil : i < L.length
  · obtain ⟨q, e0, e1, e2, hq, hm⟩ := h.elt i hil
    have el : (L ++ [x])[i] = L[i] := List.getElem_append_left hil
    rw [el]
    exact ⟨q, by rw [List.getElem?_append_left (by omega)]; exact e0, by rw [List.getElem?_append_left (by omega)]; exact e1, by rw [List.getElem?_append_left (by omega)]; exact e2, hq, hG.keep hm (own_not h.out hm (by decide)) (own_not hx hm (by decide))⟩
  · have hil' : i = L.length := by simp at hi; omega
    subst hil'
    have el : (L ++ [x])[L.length] = x := by simp
    rw [el]
    exact ⟨g, hget2 0, hget2 1, hget2 2, hB, hg⟩
theorem HitR.mts {w : World} {B : Nat} {v : Value} {vs : List Value} {L : List Int} (h : HitR w B v vs L) : ∃ p c, v = .slice p L.length c ∧ MtsAt w p (L.map fun x => mOne x x) := by
  rcases h.out.2 with ⟨hv, h0⟩ | ⟨g, cap, cur, hv, hB, hg, hc, -, hs, hx⟩
  · obtain rfl : L = [] := List.length_eq_zero_iff.1 h0
    exact ⟨none, 0, hv, fun i hi => absurd hi (by simp)⟩
  · have hcell : ∀ j, j < L.length * 3 → w.cell? ⟨g, j, none⟩ = vs[j]? := fun j hj => by
      rw [cell_of_heap hg, ← hx, List.getElem?_take, if_pos (by omega)]
      simp
    refine ⟨_, cap, hv, fun i hi => ?_⟩
    have hi' : i < L.length := by simpa using hi
    obtain ⟨q, e0, e1, e2, hq, hm⟩ := h.elt i hi'
    have el : (L.map fun x => mOne x x)[i] = mOne L[i] L[i] := by simp
    rw [el]
    exact ⟨g, 0, _, 1, none, 0, rfl, by rw [Nat.zero_add, hcell _ (by omega)]; exact e0, by rw [Nat.zero_add, hcell _ (by omega)]; exact e1, by rw [Nat.zero_add, hcell _ (by omega)]; exact e2, PairsAt.cells (l := [(L[i], L[i])]) (t := 38) (f := (0, 0)) (by rw [pairVs_pr1]; exact hm), PairsAt.nil _ _⟩
theorem HitR.chart {w : World} {B : Nat} {v vx : Value} {vs : List Value} {L : List Int} (h : HitR w B v vs L) (hx : w.ownsRow B 3 1 vx L.length (intVs (List.replicate L.length 0))) : ChV w (.agg #[v, vx, .int .i64 0, .int .i64 1]) (HitC L) := by
  obtain ⟨p, c, rfl, hM⟩ := h.mts
  have hX := ownsRow_ints (l := List.replicate L.length 0) (by simpa using hx)
  obtain ⟨q, d, rfl, hQ⟩ := hX
  refine ⟨p, c, q, d, ?_, hM, hQ⟩
  simp [HitC]

/-! facts of the region that adds a meter -/
def MtA (B : Nat) (x : Int) (v : Value) (_ _ : Nat) (w : World) : Prop := ∃ g, v = .slice (some ⟨g, 0, none⟩) 1 1 ∧ B ≤ g ∧ w.heap[g]? = some (.cells #[.int .i64 x, .int .i64 x] 38)
def MtB (B : Nat) (x : Int) (v : Value) (_ _ : Nat) (w : World) : Prop := ∃ g, v = .agg #[.slice (some ⟨g, 0, none⟩) 1 1, .slice none 0 0, .int .i64 0] ∧ B ≤ g ∧ w.heap[g]? = some (.cells #[.int .i64 x, .int .i64 x] 38)
def MtC (B : Nat) (x : Int) (v : Value) (_ _ : Nat) (w : World) : Prop := ∃ g h, v = .slice (some ⟨h, 0, none⟩) 1 1 ∧ B ≤ g ∧ B ≤ h ∧ w.heap[g]? = some (.cells #[.int .i64 x, .int .i64 x] 38) ∧ w.heap[h]? = some (.cells #[.slice (some ⟨g, 0, none⟩) 1 1, .slice none 0 0, .int .i64 0] 55)
/-- the meters' row, grown by one -/
def MtD (r2 : Option Nat) (B b1 n : Nat) (vs : List Value) (x : Int) (v : Value) (_ _ : Nat) (w : World) : Prop := ∃ g h cap, v = .slice (some ⟨h, 0, none⟩) (n + 1) cap ∧ B ≤ g ∧ w.heap[g]? = some (.cells #[.int .i64 x, .int .i64 x] 38) ∧
  w.ownsRow b1 55 3 v (n + 1) (vs ++ [.slice (some ⟨g, 0, none⟩) 1 1, .slice none 0 0, .int .i64 0]) ∧ v.ownBlock ≠ r2
/-- the extras' row, grown by one -/
def MtE (r1 : Option Nat) (b1 n : Nat) (xs : List Value) (v : Value) (_ _ : Nat) (w : World) : Prop := ∃ h cap, v = .slice (some ⟨h, 0, none⟩) (n + 1) cap ∧ w.ownsRow b1 3 1 v (n + 1) (xs ++ [.int .i64 0]) ∧ v.ownBlock ≠ r1
section
variable {r1 r2 : Option Nat} {B b1 n : Nat} {x : Int} {v : Value} {s t : Nat} {w w' : World} (hr : ∀ k, r1 = some k ∨ r2 = some k → k < B)
include hr
theorem OneN.gr2 {xs : List Value} {e : TypeId} (h : OneN B xs e v s t w) (hG : Gr2 r1 r2 w w') : OneN B xs e v s t w' := by
  obtain ⟨g, h1, h2, h3⟩ := h
  exact ⟨g, h1, h2, hG.keepT hr h2 h3⟩
theorem MtA.gr2 (h : MtA B x v s t w) (hG : Gr2 r1 r2 w w') : MtA B x v s t w' := by
  obtain ⟨g, h1, h2, h3⟩ := h
  exact ⟨g, h1, h2, hG.keepT hr h2 h3⟩
theorem MtB.gr2 (h : MtB B x v s t w) (hG : Gr2 r1 r2 w w') : MtB B x v s t w' := by
  obtain ⟨g, h1, h2, h3⟩ := h
  exact ⟨g, h1, h2, hG.keepT hr h2 h3⟩
theorem MtC.gr2 (h : MtC B x v s t w) (hG : Gr2 r1 r2 w w') : MtC B x v s t w' := by
  obtain ⟨g, h', h1, h2, h3, h4, h5⟩ := h
  exact ⟨g, h', h1, h2, h3, hG.keepT hr h2 h4, hG.keepT hr h3 h5⟩
theorem MtD.gr (vs : List Value) (h : MtD r2 B b1 n vs x v s t w) (hG : GrB r2 w w') : MtD r2 B b1 n vs x v s t w' := by
  obtain ⟨g, h', cap, h1, h2, h3, h4, h5⟩ := h
  refine ⟨g, h', cap, h1, h2, (Gr2.right (r1 := r1) hG).keepT hr h2 h3, ownsRow_fr h4 (grown_fr hG) (fun k hk e => h5 (hk.trans e.symm)), h5⟩
theorem MtE.gr (xs : List Value) (h : MtE r1 b1 n xs v s t w) (hG : GrB r1 w w') : MtE r1 b1 n xs v s t w' := by
  have _ := hr
  obtain ⟨h', cap, h1, h4, h5⟩ := h
  exact ⟨h', cap, h1, ownsRow_fr h4 (grown_fr hG) (fun k hk e => h5 (hk.trans e.symm)), h5⟩
end

end Go.Proofs.YtppncdbhebgcaaaGreatDoor
