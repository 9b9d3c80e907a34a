
/- The walks of slices.AppendSeq and slices.Collect, over the choices. The walks of slices.Collect, ContainsFunc over the choices, and Worth of a valid box. The walk of Worth, of a valid box. -/
import Derived.Test.YtppncdbhebgcaaaVE
import Derived.Deep.RegionHeld3
namespace Go.Proofs.Ytppncdbhebgcaaa.We
open Go.RowKit
attribute [local go_sem] Oper.semAt_some

/-- the cells of choices, whose records lie apart from block r -/
def ChsR (M : Nat) (W : World) (r : Option Nat) (xs : List Value) (l : List Ch) : Prop :=
  ∀ i (h : i < l.length), ∃ q c, xs[i * 2]? = some (.int .u64 l[i].needles) ∧ xs[i * 2 + 1]? = some (.slice q l[i].records.length c) ∧ MasksAt W q l[i].records ∧ (∀ a, q = some a → M ≤ a.block) ∧ ∀ a, q = some a → l[i].records ≠ [] → r ≠ some a.block
theorem masks_lt {W : World} {q : Option Addr} {l : List Nat} (h : MasksAt W q l) (a : Addr) (ha : q = some a) (hl : l ≠ []) : a.block < W.heap.size := by
  obtain ⟨b, o, he, hc⟩ := h.at 0 (List.length_pos_iff.2 hl)
  rw [ha] at he
  cases he
  exact lt_of_cell hc
theorem ChsR.fr {M : Nat} {W W' : World} {r : Option Nat} {xs : List Value} {l : List Ch} {E : Nat → Prop} (h : ChsR M W r xs l) (hF : Fr E W W') (hE : ∀ k, M ≤ k → ¬E k) : ChsR M W' r xs l := by
  intro i hi
  obtain ⟨q, c, h1, h2, h3, h4, h5⟩ := h i hi
  exact ⟨q, c, h1, h2, h3.fr hF (fun a ha => hE _ (h4 a ha)), h4, h5⟩
theorem ChsR.step {M : Nat} {W W' : World} {r : Option Nat} {xs : List Value} {l : List Ch} {g : Nat} {x : Ch} {mp : Option Addr} {mc : Nat} (h : ChsR M W r xs l) (hxs : xs.length = l.length * 2) (hg : W.grownBy W' r) (hat : r = some g ∨ g = W.heap.size)
    (hma : MasksAt W mp x.records) (hmb : ∀ a, mp = some a → M ≤ a.block) (hmr : ∀ a, mp = some a → x.records ≠ [] → r ≠ some a.block) : ChsR M W' (some g) (xs ++ [.int .u64 x.needles, .slice mp x.records.length mc]) (l ++ [x]) := by
  have keep : ∀ (q : Option Addr) (rs : List Nat), MasksAt W q rs → (∀ a, q = some a → rs ≠ [] → r ≠ some a.block) → MasksAt W' q rs ∧ ∀ a, q = some a → rs ≠ [] → some g ≠ some a.block := by
    intro q rs hq hr
    refine ⟨fun i hi => ?_, fun a ha hne e => ?_⟩
    · obtain ⟨b, o, v, hp, hc, hv⟩ := hq i hi
      exact ⟨b, o, v, hp, hg.cell hc (fun e => hr _ hp (by intro h0; rw [h0] at hi; simp at hi) e.symm), hv⟩
    · rcases hat with h1 | h1
      · exact hr a ha hne (h1.trans e)
      · have := masks_lt hq a ha hne
        have e2 : g = a.block := Option.some.inj e
        omega
  intro i hi
  rw [List.length_append, List.length_singleton] at hi
  by_cases e : i < l.length
  · obtain ⟨q, c, h1, h2, h3, h4, h5⟩ := h i e
    obtain ⟨k1, k2⟩ := keep q _ h3 h5
    rw [List.getElem_append_left e]
    exact ⟨q, c, by rw [List.getElem?_append_left (by omega)]; exact h1, by rw [List.getElem?_append_left (by omega)]; exact h2, k1, h4, k2⟩
  · obtain rfl : i = l.length := by omega
    obtain ⟨k1, k2⟩ := keep mp _ hma hmr
    have hx : (l ++ [x])[l.length]'(by simp) = x := by simp
    rw [hx]
    refine ⟨mp, mc, ?_, ?_, k1, hmb, k2⟩
    · rw [List.getElem?_append_right (by omega), hxs]; simp
    · rw [List.getElem?_append_right (by omega), hxs]; simp

/-- choices in a slice -/
def ChsV (w : World) (v : Value) (l : List Ch) : Prop := ∃ p c, v = .slice p l.length c ∧ ChsAt w p l
end Go.Proofs.Ytppncdbhebgcaaa.We
namespace Go.Proofs.Ytppncdbhebgcaaa.We
open Go.RowKit

end Go.Proofs.Ytppncdbhebgcaaa.We
namespace Go.Proofs.Ytppncdbhebgcaaa.We
open Go.RowKit

def StpT (a b : World) : Prop := Ext a b
theorem StpT.out {a b : World} (h : StpT a b) : Ext a b := h
theorem StpT.mk {a b : World} (h : Ext a b) : StpT a b := h
end Go.Proofs.Ytppncdbhebgcaaa.We
