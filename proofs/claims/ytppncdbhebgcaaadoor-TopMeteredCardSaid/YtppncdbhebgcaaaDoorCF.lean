
/- Charts: meters in memory of their own. Charts: the walk of the reference's Copy. -/
import Derived.Test.YtppncdbhebgcaaaDoorCE
import Derived.Test.YtppncdbhebgcaaaDoorCB
import Derived.Test.YtppncdbhebgcaaaDoorCD
import Derived.Laws.AppendOwnNone
namespace Go.Proofs.YtppncdbhebgcaaaDoor
open Go.RowKit

/-- a row of meters: it, and each meter's weeks and readings, in blocks of their own -/
structure MtR (w : World) (B : Nat) (v : Value) (vs : List Value) (L : List Mt) : Prop where
  len : vs.length = L.length * 3
  out : w.ownsRow B 31 3 v L.length vs
  elt : ∀ i (h : i < L.length), ∃ g1 c1 g2 c2, vs[i * 3]? = some (.slice (some ⟨g1, 0, none⟩) L[i].weeks.length c1) ∧ vs[i * 3 + 1]? = some (.slice (some ⟨g2, 0, none⟩) L[i].reads.length c2) ∧ vs[i * 3 + 2]? = some (.int .i64 L[i].wrong) ∧
    w.ownsRow B 43 2 (.slice (some ⟨g1, 0, none⟩) L[i].weeks.length c1) L[i].weeks.length (pairVs L[i].weeks) ∧ w.ownsRow B 27 2 (.slice (some ⟨g2, 0, none⟩) L[i].reads.length c2) L[i].reads.length (pairVs L[i].reads)
  dis : ∀ i j a b n m c d, i < j → vs[i * 3 + 1]? = some (.slice (some a) n c) → vs[j * 3 + 1]? = some (.slice (some b) m d) → a.block ≠ b.block
theorem MtR.nil (w : World) (B : Nat) : MtR w B (.slice none 0 0) [] [] := ⟨rfl, World.ownsRow_nil _ _ _ _, fun i h => absurd h (by simp), fun i j a b n m c d _ h => by simp at h⟩
theorem MtR.ext {w w' : World} {B : Nat} {v : Value} {vs : List Value} {L : List Mt} (h : MtR w B v vs L) (hE : Ext w w') : MtR w' B v vs L :=
  ⟨h.len, ownsRow_ext h.out hE, fun i hi => by obtain ⟨g1, c1, g2, c2, e0, e1, e2, o1, o2⟩ := h.elt i hi; exact ⟨g1, c1, g2, c2, e0, e1, e2, ownsRow_ext o1 hE, ownsRow_ext o2 hE⟩, h.dis⟩
theorem MtR.blk {w : World} {B : Nat} {v : Value} {vs : List Value} {L : List Mt} (h : MtR w B v vs L) : ∀ i, i < L.length → ∀ a n c, vs[i * 3 + 1]? = some (.slice (some a) n c) → a.block < w.heap.size := by
  intro i hi a n c ha
  obtain ⟨g1, c1, g2, c2, e0, e1, e2, o1, o2⟩ := h.elt i hi
  rw [e1] at ha
  cases ha
  exact (o2.lt g2 rfl).2
theorem MtR.step {wr w2 w4 : World} {B B2 n g4 cap4 : Nat} {u a0 a1 a2 : Value} {vs : List Value} {L : List Mt} {M : Mt} (h : MtR wr B u vs L) (hE : Ext wr w2)
    (hM : MtOwn B2 w2 (.agg #[a0, a1, a2]) M) (hB : B ≤ B2) (hB2 : wr.heap.size ≤ B2)
    (h4 : w4.ownsRow B 31 3 (.slice (some ⟨g4, 0, none⟩) n cap4) (L.length + 1) (vs ++ [a0, a1, a2])) (hg : w2.grownBy w4 u.ownBlock) :
    MtR w4 B (.slice (some ⟨g4, 0, none⟩) n cap4) (vs ++ [a0, a1, a2]) (L ++ [M]) := by
  have hF := grown_fr hg
  have hl := h.len
  obtain ⟨g1, c1, g2, c2, e, o1, o2⟩ := hM
  simp only [Value.agg.injEq, Array.mk.injEq, List.cons.injEq, and_true] at e
  obtain ⟨rfl, rfl, rfl⟩ := e
  have hu := h.out.2
  have hne : ∀ {e : TypeId} {g m c : Nat} {xs : List Value} {BB : Nat}, e ≠ 31 → w2.ownsRow BB e 2 (.slice (some ⟨g, 0, none⟩) m c) m xs → ∀ x, (Value.slice (some ⟨g, 0, none⟩) m c).ownBlock = some x → ¬u.ownBlock = some x := by
    intro e g m c xs BB he ho x hx hux
    cases hx
    rcases hu with ⟨hv, -⟩ | ⟨g', cap', cur', hv, -⟩
    · rw [hv] at hux; cases hux
    · have hout := ownsRow_ext h.out hE
      rw [hv] at hux hout
      cases hux
      exact own_ne ho hout he rfl
  have hget : ∀ k, k < vs.length → ∀ xs : List Value, (vs ++ xs)[k]? = vs[k]? := fun k hk xs => List.getElem?_append_left hk
  have hget2 : ∀ k, (vs ++ [.slice (some ⟨g1, 0, none⟩) M.weeks.length c1, .slice (some ⟨g2, 0, none⟩) M.reads.length c2, .int .i64 M.wrong])[L.length * 3 + k]? = [Value.slice (some ⟨g1, 0, none⟩) M.weeks.length c1, .slice (some ⟨g2, 0, none⟩) M.reads.length c2, .int .i64 M.wrong][k]? := fun k => by
    rw [List.getElem?_append_right (by omega), hl]
    congr 1
    omega
  refine ⟨by simp [hl]; omega, by rw [List.length_append]; exact h4, fun i hi => ?_, fun i j a b n m c d hij ha hb => ?_⟩
  · by_cases hil : i < L.length
    · obtain ⟨q1, d1, q2, d2, e0, e1, e2, r1, r2⟩ := h.elt i hil
      have el : (L ++ [M])[i] = L[i] := List.getElem_append_left hil
      rw [el]
      have r1' := ownsRow_ext r1 hE
      have r2' := ownsRow_ext r2 hE
      exact ⟨q1, d1, q2, d2, by rw [hget _ (by omega)]; exact e0, by rw [hget _ (by omega)]; exact e1, by rw [hget _ (by omega)]; exact e2, ownsRow_fr r1' hF (hne (by decide) r1'), ownsRow_fr r2' hF (hne (by decide) r2')⟩
    · have hil' : i = L.length := by simp at hi; omega
      subst hil'
      have el : (L ++ [M])[L.length] = M := by simp
      rw [el]
      exact ⟨g1, c1, g2, c2, hget2 0, hget2 1, hget2 2, ownsRow_base (ownsRow_fr o1 hF (hne (by decide) o1)) hB, ownsRow_base (ownsRow_fr o2 hF (hne (by decide) o2)) hB⟩
  · by_cases hjl : j < L.length
    · rw [hget _ (by omega)] at ha hb
      exact h.dis i j a b n m c d hij ha hb
    · have hj2 : j = L.length := by
        have := (List.getElem?_eq_some_iff.1 hb).1
        simp [hl] at this
        omega
      subst hj2
      have h1 := hget2 1
      rw [hb] at h1
      simp at h1
      obtain ⟨⟨rfl, -⟩, -⟩ := h1
      rw [hget _ (by omega)] at ha
      have hlt := h.blk i hij a n c ha
      have hge := (o2.lt g2 rfl).1
      show a.block ≠ g2
      omega
theorem MtR.cells {w : World} {B : Nat} {v : Value} {vs : List Value} {L : List Mt} (h : MtR w B v vs L) : (v = .slice none 0 0 ∧ L = []) ∨ ∃ g c, v = .slice (some ⟨g, 0, none⟩) L.length c ∧ B ≤ g ∧ ∀ j, j < L.length * 3 → w.cell? ⟨g, j, none⟩ = vs[j]? := by
  rcases h.out.2 with ⟨hv, h0⟩ | ⟨g, cap, cur, hv, hB, hg, hc, -, hs, hx⟩
  · exact Or.inl ⟨hv, List.length_eq_zero_iff.1 h0⟩
  · refine Or.inr ⟨g, cap, hv, hB, fun j hj => ?_⟩
    rw [cell_of_heap hg, ← hx, List.getElem?_take, if_pos (by omega)]
    simp
theorem MtR.off {w : World} {B b o : Nat} {u v : Value} {vs : List Value} {L : List Mt} (h : MtR w B u vs L) (hb : b < B) : MtR (w.setCell ⟨b, o, none⟩ v) B u vs L := by
  refine ⟨h.len, ownsRow_off h.out hb, fun i hi => ?_, h.dis⟩
  obtain ⟨g1, c1, g2, c2, e0, e1, e2, o1, o2⟩ := h.elt i hi
  exact ⟨g1, c1, g2, c2, e0, e1, e2, ownsRow_off o1 hb, ownsRow_off o2 hb⟩
theorem MtR.base {w : World} {B B' : Nat} {u : Value} {vs : List Value} {L : List Mt} (h : MtR w B u vs L) (hb : B' ≤ B) : MtR w B' u vs L := by
  refine ⟨h.len, ownsRow_base h.out hb, fun i hi => ?_, h.dis⟩
  obtain ⟨g1, c1, g2, c2, e0, e1, e2, o1, o2⟩ := h.elt i hi
  exact ⟨g1, c1, g2, c2, e0, e1, e2, ownsRow_base o1 hb, ownsRow_base o2 hb⟩
/-- a chart in memory of its own -/
def ChG (w : World) (B : Nat) (u : Value) (g cx : Nat) (C : Ch) : Prop :=
  (∃ vs, MtR w B u vs C.meters) ∧ w.ownsRow B 3 1 (.slice (some ⟨g, 0, none⟩) C.extra.length cx) C.extra.length (intVs C.extra)
theorem ChG.ext {w w' : World} {B : Nat} {u : Value} {g cx : Nat} {C : Ch} (h : ChG w B u g cx C) (hE : Ext w w') : ChG w' B u g cx C := by
  obtain ⟨⟨vs, hM⟩, hX⟩ := h
  exact ⟨⟨vs, hM.ext hE⟩, ownsRow_ext hX hE⟩
end Go.Proofs.YtppncdbhebgcaaaDoor
namespace Go.Proofs.YtppncdbhebgcaaaDoor
open Go.RowKit

def MtF (B : Nat) (M : Mt) (v : Value) (_ _ : Nat) (w : World) : Prop := MtOwn B w v M
theorem MtF.mono {B : Nat} {M : Mt} : ∀ v s t w w', Ext w w' → MtF B M v s t w → MtF B M v s t w' := fun _ _ _ _ _ hE h => MtOwn.ext h hE
theorem MtOwn.base {B B' : Nat} {w : World} {v : Value} {M : Mt} (h : MtOwn B w v M) (hB : B' ≤ B) : MtOwn B' w v M := by
  obtain ⟨g1, c1, g2, c2, e, o1, o2⟩ := h
  exact ⟨g1, c1, g2, c2, e, ownsRow_base o1 hB, ownsRow_base o2 hB⟩
/-- a new slice of one meter of its own -/
def OneM (B : Nat) (M : Mt) (v : Value) (_ _ : Nat) (w : World) : Prop := ∃ g a0 a1 a2, v = .slice (some ⟨g, 0, none⟩) 1 1 ∧ w.heap[g]? = some (.cells #[a0, a1, a2] 31) ∧ MtOwn B w (.agg #[a0, a1, a2]) M
theorem OneM.mono {B : Nat} {M : Mt} : ∀ v s t w w', Ext w w' → OneM B M v s t w → OneM B M v s t w' := fun _ _ _ _ _ hE ⟨g, a0, a1, a2, h1, h2, h3⟩ => ⟨g, a0, a1, a2, h1, heap_ext3 h2 hE, h3.ext hE⟩

end Go.Proofs.YtppncdbhebgcaaaDoor
