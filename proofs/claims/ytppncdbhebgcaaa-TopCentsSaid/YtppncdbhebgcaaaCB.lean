
/- Charts: a chart and a table in memory; the small functions of package charts. Charts: the walk of (table).rank. Charts: the walk of Check. Charts: the table of a chart: the walk of ask. Charts: the walks of Numbers and Rank; which tables there are. -/
import Derived.Test.YtppncdbhebgcaaaXK
import Derived.Test.YtppncdbhebgcaaaQ8b
import Derived.Test.YtppncdbhebgcaaaCA
import Derived.Test.YtppncdbhebgcaaaXI
namespace Go.Proofs.Ytppncdbhebgcaaa
open Go.RowKit

structure Ch where
  meters : List Mt
  extra : List Int
  frm : Int
  tto : Int
/-- a slice of meters (three cells each) -/
def MtsAt (w : World) (p : Option Addr) (L : List Mt) : Prop :=
  ∀ i (h : i < L.length), ∃ b o p1 d1 p2 d2, p = some ⟨b, o, none⟩ ∧ w.cell? ⟨b, o + i * 3, none⟩ = some (.slice p1 L[i].weeks.length d1) ∧ w.cell? ⟨b, o + i * 3 + 1, none⟩ = some (.slice p2 L[i].reads.length d2) ∧
    w.cell? ⟨b, o + i * 3 + 2, none⟩ = some (.int .i64 L[i].wrong) ∧ PairsAt w p1 L[i].weeks ∧ PairsAt w p2 L[i].reads
theorem MtsAt.ext {w w' : World} {p : Option Addr} {L : List Mt} (h : MtsAt w p L) (hE : Ext w w') : MtsAt w' p L := by
  intro i hi
  obtain ⟨b, o, p1, d1, p2, d2, hp, h0, h1, h2, h3, h4⟩ := h i hi
  exact ⟨b, o, p1, d1, p2, d2, hp, hE.cell h0, hE.cell h1, hE.cell h2, h3.ext hE, h4.ext hE⟩
/-- a chart -/
def ChV (w : World) (v : Value) (C : Ch) : Prop := ∃ p c q d, v = .agg #[.slice p C.meters.length c, .slice q C.extra.length d, .int .i64 C.frm, .int .i64 C.tto] ∧ MtsAt w p C.meters ∧ IntsAt w q C.extra
theorem ChV.ext {w w' : World} {v : Value} {C : Ch} (h : ChV w v C) (hE : Ext w w') : ChV w' v C := by
  obtain ⟨p, c, q, d, e, h1, h2⟩ := h
  exact ⟨p, c, q, d, e, h1.ext hE, h2.ext hE⟩
theorem ListsAt.row {w : World} {p : Option Addr} {T : Tab} (h : ListsAt w p T) {i : Nat} (hi : i < T.length) : ∃ b o q c, p = some ⟨b, o, none⟩ ∧ w.cell? ⟨b, o + i, none⟩ = some (.slice q (rowT T i).length c) ∧ IntsAt w q (rowT T i) := by
  obtain ⟨b, o, q, c, h1, h2, h3⟩ := h.at i hi
  rw [rowT_get hi]
  exact ⟨b, o, q, c, h1, h2, h3⟩
theorem RwV.lists {w : World} {B : Nat} {v : Value} {vs : List Value} {L : Tab} {r : Option Nat} (h : RwV w B v vs L r) : ∃ q c, v = .slice q L.length c ∧ ListsAt w q L := by
  obtain ⟨q, c, rfl⟩ := h.slice
  refine ⟨q, c, by rw [h.len], fun i hi => ?_⟩
  have hiv : i < vs.length := by rw [h.len]; exact hi
  obtain ⟨b, cc, he, hc⟩ := ownsRow_at h.out i hiv
  obtain ⟨p, c', h1, h2⟩ := h.row i hi
  injection he with he1 he2 he3
  rw [h1] at hc
  refine ⟨b, 0, .slice p L[i].length c', he1, ?_, p, c', rfl, h2.ints⟩
  rw [Nat.zero_add]
  exact hc

end Go.Proofs.Ytppncdbhebgcaaa
namespace Go.Proofs.Ytppncdbhebgcaaa
open Go.RowKit

theorem keep2 {w w' : World} {b : Nat} {t : TypeId} {x y : Value} (h : w.heap[b]? = some (.cells #[x, y] t)) (hE : Ext w w') : w'.heap[b]? = some (.cells #[x, y] t) :=
  (hE.block b (Array.getElem?_eq_some_iff.1 h).1).trans h

end Go.Proofs.Ytppncdbhebgcaaa
namespace Go.Proofs.Ytppncdbhebgcaaa
open Go.RowKit

structure EqS (n m : Nat) : Prop where
  out : n = m
end Go.Proofs.Ytppncdbhebgcaaa
namespace Go.Proofs.Ytppncdbhebgcaaa
open Go.RowKit

theorem ownsRow_set {w : World} {B g n c i : Nat} {l : List Int} {m : Int} (h : w.ownsRow B 3 1 (.slice (some ⟨g, 0, none⟩) n c) n (intVs l)) :
    (w.setCell ⟨g, i, none⟩ (.int .i64 m)).ownsRow B 3 1 (.slice (some ⟨g, 0, none⟩) n c) n (intVs (l.set i m)) := by
  have hl : (intVs (l.set i m)).length = (intVs l).length := by simp [intVs]
  refine ⟨hl.trans h.1, ?_⟩
  rcases h.2 with ⟨hv, h0⟩ | ⟨g', cap, cur, hv, hB, hg, hc, hm, hs, hx⟩
  · cases hv
  · cases hv
    refine Or.inr ⟨g, c, cur.setIfInBounds i (.int .i64 m), rfl, hB, heap_set hg rfl, hc, hm, by simpa using hs, ?_⟩
    rw [Array.toList_setIfInBounds, List.take_set, hx]
    simp [intVs, List.map_set]
theorem ownsRow_cell {w : World} {B g n c i : Nat} {l : List Int} (h : w.ownsRow B 3 1 (.slice (some ⟨g, 0, none⟩) n c) n (intVs l)) (hi : i < l.length) :
    w.cell? ⟨g, i, none⟩ = some (.int .i64 l[i]) ∧ w.frozen? ⟨g, i, none⟩ = false := by
  have hn : n = l.length := by have := h.1; rw [intVs_len] at this; omega
  obtain ⟨b, c', he, hc⟩ := ownsRow_at h i (by omega)
  cases he
  refine ⟨?_, ?_⟩
  · rw [hc]; simp [intVs, hi]
  · rcases h.2 with ⟨hv, h0⟩ | ⟨g', cap, cur, hv, hB, hg, hc, hm, hs, hx⟩
    · cases hv
    · cases hv; exact cell_frozen hg i
/-- slices that are no longer than they can be -/
def CapOK (vs : List Value) : Prop := ∀ v ∈ vs, ∃ p n c, v = .slice p n c ∧ n ≤ c
theorem CapOK.nil : CapOK [] := fun v h => by cases h
end Go.Proofs.Ytppncdbhebgcaaa
namespace Go.Proofs.Ytppncdbhebgcaaa
open Go.RowKit

def TabF (T : Tab) (z : Int) (B : Nat) (v : Value) (_ _ : Nat) (w : World) : Prop := ∃ u vs, v = .tuple #[u, .int .i64 z] ∧ RwV w B u vs T none ∧ CapOK vs
theorem TabF.mono {T : Tab} {z : Int} {B : Nat} : ∀ v s t w w', Ext w w' → TabF T z B v s t w → TabF T z B v s t w' := fun _ _ _ _ _ hE ⟨u, vs, h1, h2, h3⟩ => ⟨u, vs, h1, h2.ext hE, h3⟩
def RowF (T : Tab) (B : Nat) (v : Value) (_ _ : Nat) (w : World) : Prop := ∃ vs, RwV w B v vs T none ∧ CapOK vs
theorem RowF.mono {T : Tab} {B : Nat} : ∀ v s t w w', Ext w w' → RowF T B v s t w → RowF T B v s t w' := fun _ _ _ _ _ hE ⟨vs, h2, h3⟩ => ⟨vs, h2.ext hE, h3⟩
end Go.Proofs.Ytppncdbhebgcaaa
