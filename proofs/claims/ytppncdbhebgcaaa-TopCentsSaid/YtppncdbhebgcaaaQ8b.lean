
/- Rows that a call has collected: read through blocks that are not the collection's own; the walk of the reference's plays. -/
import Derived.Test.YtppncdbhebgcaaaQ7t
import Derived.Deep.RegionWith
import Derived.Deep.RegionHeld3
namespace Go.Proofs.Ytppncdbhebgcaaa
open Go.RowKit

/-- ints read through blocks that are not r -/
def IntsNe (r : Option Nat) (w : World) (q : Option Addr) (l : List Int) : Prop := ∀ j (h : j < l.length), ∃ b o, q = some ⟨b, o, none⟩ ∧ some b ≠ r ∧ w.cell? ⟨b, o + j, none⟩ = some (.int .i64 l[j])
theorem IntsNe.ints {r : Option Nat} {w : World} {q : Option Addr} {l : List Int} (h : IntsNe r w q l) : IntsAt w q l := by
  intro j hj
  obtain ⟨b, o, hq, -, hc⟩ := h j hj
  exact ⟨b, o, _, hq, hc, rfl⟩
theorem IntsAt.ne {w : World} {q : Option Addr} {l : List Int} (h : IntsAt w q l) (r : Option Nat) (hr : ∀ b, r = some b → w.heap.size ≤ b) : IntsNe r w q l := by
  intro j hj
  obtain ⟨b, o, hq, hc⟩ := h.at j hj
  refine ⟨b, o, hq, fun he => ?_, hc⟩
  have h1 := lt_of_cell hc
  have h2 := hr b he.symm
  omega
theorem IntsNe.ext {r : Option Nat} {w w' : World} {q : Option Addr} {l : List Int} (h : IntsNe r w q l) (hE : Ext w w') : IntsNe r w' q l := by
  intro j hj
  obtain ⟨b, o, hq, hn, hc⟩ := h j hj
  exact ⟨b, o, hq, hn, hE.cell hc⟩
theorem IntsNe.keep2 {g r : Option Nat} {w w' : World} {q : Option Addr} {l : List Int} (hL : IntsNe g w q l) (hL2 : IntsNe r w q l) (hg : w.grownBy w' g) : IntsNe r w' q l := by
  intro j hj
  obtain ⟨b, o, hq, hn, hc⟩ := hL j hj
  obtain ⟨b', o', hq', hn', hc'⟩ := hL2 j hj
  rw [hq] at hq'
  cases hq'
  exact ⟨b, o, hq, hn', hg.cell hc hn⟩
theorem IntsNe.keep1 {g : Option Nat} {n : Nat} {w w' : World} {q : Option Addr} {l : List Int} (hL : IntsNe g w q l) (hg : w.grownBy w' g) (hat : g = some n ∨ n = w.heap.size) : IntsNe (some n) w' q l := by
  rcases hat with ha | ha
  · rw [← ha]; exact hL.keep2 hL hg
  · exact hL.keep2 (hL.ints.ne (some n) (fun b hb => by cases hb; omega)) hg

/-- rows that a call has collected: read through blocks that are not the collection's own, nor r -/
structure RwV (w : World) (B : Nat) (v : Value) (vs : List Value) (L : List (List Int)) (r : Option Nat) : Prop where
  len : vs.length = L.length
  out : w.ownsRow B 26 1 v vs.length vs
  row : ∀ i (h : i < L.length), ∃ p c, vs[i]? = some (.slice p L[i].length c) ∧ IntsNe v.ownBlock w p L[i]
  oth : ∀ i (h : i < L.length), ∃ p c, vs[i]? = some (.slice p L[i].length c) ∧ IntsNe r w p L[i]
theorem RwV.nil (w : World) (B : Nat) (r : Option Nat) : RwV w B (.slice none 0 0) [] [] r := ⟨rfl, World.ownsRow_nil _ _ _ _, fun i h => absurd h (by simp), fun i h => absurd h (by simp)⟩
theorem RwV.ext {w w' : World} {B : Nat} {v : Value} {vs : List Value} {L : List (List Int)} {r : Option Nat} (h : RwV w B v vs L r) (hE : Ext w w') : RwV w' B v vs L r :=
  ⟨h.len, ownsRow_ext h.out hE, fun i hi => by obtain ⟨p, c, h1, h2⟩ := h.row i hi; exact ⟨p, c, h1, h2.ext hE⟩, fun i hi => by obtain ⟨p, c, h1, h2⟩ := h.oth i hi; exact ⟨p, c, h1, h2.ext hE⟩⟩
theorem RwV.base {w : World} {B B' : Nat} {v : Value} {vs : List Value} {L : List (List Int)} {r : Option Nat} (h : RwV w B v vs L r) (hB : B' ≤ B) : RwV w B' v vs L r :=
  ⟨h.len, ownsRow_base h.out hB, h.row, h.oth⟩
theorem RwV.slice {w : World} {B : Nat} {v : Value} {vs : List Value} {L : List (List Int)} {r : Option Nat} (h : RwV w B v vs L r) : ∃ q cap, v = .slice q vs.length cap := by
  rcases h.out.2 with ⟨hv, h0⟩ | ⟨b, cap, cur, hv, -⟩
  · exact ⟨none, 0, by rw [hv, h0]⟩
  · exact ⟨_, cap, hv⟩
theorem RwV.one {w : World} {B : Nat} {v : Value} {vs : List Value} {L : List (List Int)} {r : Option Nat} (h : RwV w B v vs L r) : ∀ u ∈ vs, u.oneCell' = true := by
  intro u hu
  obtain ⟨i, hi, rfl⟩ := List.getElem_of_mem hu
  obtain ⟨p, c, h1, -⟩ := h.row i (by have := h.len; omega)
  rw [List.getElem?_eq_getElem hi] at h1
  rw [Option.some.inj h1]
  rfl
/-- rows that another call has collected, appended -/
theorem RwV.step {wr w2 w4 : World} {B n g4 cap4 : Nat} {u : Value} {vs xs : List Value} {L Ms : List (List Int)} {r : Option Nat} (h : RwV wr B u vs L r) (hE : Ext wr w2)
    (hxs : xs.length = Ms.length) (hx : ∀ i (hi : i < Ms.length), ∃ p c, xs[i]? = some (.slice p Ms[i].length c) ∧ IntsNe u.ownBlock w2 p Ms[i]) (hr : ∀ i (hi : i < Ms.length), ∃ p c, xs[i]? = some (.slice p Ms[i].length c) ∧ IntsNe r w2 p Ms[i])
    (h4 : w4.ownsRow B 26 1 (.slice (some ⟨g4, 0, none⟩) n cap4) (vs.length + Ms.length) (vs ++ xs)) (hg : w2.grownBy w4 u.ownBlock) (hat : u.ownBlock = some g4 ∨ g4 = w2.heap.size) :
    RwV w4 B (.slice (some ⟨g4, 0, none⟩) n cap4) (vs ++ xs) (L ++ Ms) r := by
  have hget : ∀ i, i < L.length → (vs ++ xs)[i]? = vs[i]? := fun i hi => List.getElem?_append_left (by have := h.len; omega)
  have hget2 : ∀ i, ¬i < L.length → (vs ++ xs)[i]? = xs[i - L.length]? := fun i hi => by rw [List.getElem?_append_right (by have := h.len; omega), h.len]
  refine ⟨by simp [h.len, hxs], by rw [List.length_append, hxs]; exact h4, fun i hi => ?_, fun i hi => ?_⟩
  · rw [List.length_append] at hi
    by_cases hik : i < L.length
    · obtain ⟨p, c, h1, h2⟩ := h.row i hik
      rw [List.getElem_append_left hik, hget i hik]
      exact ⟨p, c, h1, (h2.ext hE).keep1 hg hat⟩
    · obtain ⟨p, c, h1, h2⟩ := hx (i - L.length) (by omega)
      rw [List.getElem_append_right (by omega), hget2 i hik]
      exact ⟨p, c, h1, h2.keep1 hg hat⟩
  · rw [List.length_append] at hi
    by_cases hik : i < L.length
    · obtain ⟨p, c, h1, h2⟩ := h.row i hik
      obtain ⟨p', c', h1', h2'⟩ := h.oth i hik
      rw [h1] at h1'
      cases h1'
      rw [List.getElem_append_left hik, hget i hik]
      exact ⟨p, c, h1, (h2.ext hE).keep2 (h2'.ext hE) hg⟩
    · obtain ⟨p, c, h1, h2⟩ := hx (i - L.length) (by omega)
      obtain ⟨p', c', h1', h2'⟩ := hr (i - L.length) (by omega)
      rw [h1] at h1'
      cases h1'
      rw [List.getElem_append_right (by omega), hget2 i hik]
      exact ⟨p, c, h1, h2.keep2 h2' hg⟩
def StpK (a b : World) : Prop := Ext a b
theorem StpK.out {a b : World} (h : StpK a b) : Ext a b := h
theorem StpK.mk {a b : World} (h : Ext a b) : StpK a b := h
/-- the operation that is at hand, checked before all else -/
theorem guard_op {ops : Array Oper} {E : Prop} {w : World} {o : Oper} {a : Act} {K : Act → World → Prop} {Q : Exit → Act → World → Prop} (c : Op) (_ho : o.op = c)
    (h : if Region.wanted o (yielded ops a.tmps) = true then Oper.wp Try.prog o a w K Q else E) : if Region.wanted o (yielded ops a.tmps) = true then Oper.wp Try.prog o a w K Q else E := h
end Go.Proofs.Ytppncdbhebgcaaa
