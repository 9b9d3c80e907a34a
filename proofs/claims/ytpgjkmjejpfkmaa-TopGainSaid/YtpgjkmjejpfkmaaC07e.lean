/- What Clone leaves: all in memory of its own. -/
import Derived.Test.YtpgjkmjejpfkmaaC07d
import Derived.Test.YtpgjkmjejpfkmaaA07b
namespace Go.Proofs.Ytpgjkmjejpfkmaa
open Go.RowKit

theorem ownsRow_but {w w' : World} {l B : Nat} {e : TypeId} {size : Nat} {v : Value} {n : Nat} {xs : List Value} (h : w.ownsRow B e size v n xs) (hb : But l w w') (hl : v.ownBlock ≠ some l) : w'.ownsRow B e size v n xs := by
  refine ⟨h.1, ?_⟩
  rcases h.2 with h0 | ⟨g, cap, cur, hv, hB, hg, hr⟩
  · exact Or.inl h0
  · refine Or.inr ⟨g, cap, cur, hv, hB, (hb.block g ?_).trans hg, hr⟩
    rintro rfl
    exact hl (by rw [hv]; rfl)
/-- a block of rows -/
def inR (v : Value) (l : List (List Int)) (g : Nat → Nat) (b : Nat) : Prop := v.ownBlock = some b ∨ ∃ i, i < l.length ∧ g i = b
theorem RowsOwn.bd {w : World} {B : Nat} {v : Value} {l : List (List Int)} {g c : Nat → Nat} (h : RowsOwn w B v l g c) {b : Nat} (hb : inR v l g b) : B ≤ b ∧ b < w.heap.size := by
  rcases hb with hb | ⟨i, hi, rfl⟩
  · exact h.out.lt b hb
  · exact (h.row i hi).lt (g i) rfl
theorem RowsOwn.base {w : World} {B B' : Nat} {v : Value} {l : List (List Int)} {g c : Nat → Nat} (h : RowsOwn w B v l g c) (hB : B' ≤ B) : RowsOwn w B' v l g c :=
  ⟨ownsRow_base h.out hB, fun i hi => ownsRow_base (h.row i hi) hB, h.apart, h.inj⟩
theorem RowsOwn.but {w w' : World} {l0 B : Nat} {v : Value} {l : List (List Int)} {g c : Nat → Nat} (h : RowsOwn w B v l g c) (hb : But l0 w w') (hn : ¬inR v l g l0) : RowsOwn w' B v l g c :=
  ⟨ownsRow_but h.out hb (fun he => hn (Or.inl he)), fun i hi => ownsRow_but (h.row i hi) hb (fun he => hn (Or.inr ⟨i, hi, by simpa [rowV, Value.ownBlock] using he⟩)), h.apart, h.inj⟩

/-- a visit in memory of its own, from block B on -/
structure CloneOwn (w : World) (B : Nat) (S : Swap) (v0 v1 v2 v3 : Value) (g0 k0 g2 k2 : Nat → Nat) : Prop where
  b : RowsOwn w B v0 S.boxes g0 k0
  s : w.ownsRow B 3 1 v1 S.stock.length (intVs S.stock)
  e : RowsOwn w B v2 S.earn g2 k2
  k : w.ownsRow B 45 2 v3 S.keeps.length (pairVs S.keeps)
  bs : ∀ x, inR v0 S.boxes g0 x → v1.ownBlock ≠ some x
  be : ∀ x, inR v0 S.boxes g0 x → ¬inR v2 S.earn g2 x
  bk : ∀ x, inR v0 S.boxes g0 x → v3.ownBlock ≠ some x
  es : ∀ x, inR v2 S.earn g2 x → v1.ownBlock ≠ some x
  sk : ∀ x, v1.ownBlock = some x → v3.ownBlock ≠ some x
  ek : ∀ x, inR v2 S.earn g2 x → v3.ownBlock ≠ some x
theorem CloneOwn.swap {w : World} {B : Nat} {S : Swap} {v0 v1 v2 v3 : Value} {g0 k0 g2 k2 : Nat → Nat} (h : CloneOwn w B S v0 v1 v2 v3 g0 k0 g2 k2) : SwapV w (.agg #[v0, v1, v2, v3, .int .i64 S.changes]) S := by
  obtain ⟨p0, c0, rfl, h0⟩ := h.b.lists
  obtain ⟨p1, c1, rfl, h1⟩ := ownsRow_ints h.s
  obtain ⟨p2, c2, rfl, h2⟩ := h.e.lists
  obtain ⟨p3, c3, rfl, h3⟩ := own_pairs h.k
  exact ⟨p0, c0, p1, c1, p2, c2, p3, c3, rfl, h0, h1, h2, h3⟩

theorem setCell_but (w : World) (b o : Nat) (u : Value) : But b w (w.setCell ⟨b, o, none⟩ u) :=
  ⟨rfl, rfl, rfl, by simp, fun k hk => Below.heap_setCell w ⟨b, o, none⟩ u k hk⟩
theorem But.trans {l : Nat} {a b c : World} (h : But l a b) (k : But l b c) : But l a c :=
  ⟨k.os.trans h.os, k.tape.trans h.tape, k.output.trans h.output, k.size.trans h.size, fun i hi => (k.block i hi).trans (h.block i hi)⟩
theorem sets_but (w : World) (b : Nat) (u0 u1 u2 u3 u4 : Value) :
    But b w (((((w.setCell ⟨b, 0, none⟩ u0).setCell ⟨b, 1, none⟩ u1).setCell ⟨b, 2, none⟩ u2).setCell ⟨b, 3, none⟩ u3).setCell ⟨b, 4, none⟩ u4) :=
  (((( setCell_but w b 0 u0).trans (setCell_but _ b 1 u1)).trans (setCell_but _ b 2 u2)).trans (setCell_but _ b 3 u3)).trans (setCell_but _ b 4 u4)

theorem clone_fin {w W w1 w2 w3 w4 : World} {n1 n2 n3 n4 H2 H4 g2 g4 k1 k3 cn2 cn4 : Nat} {u1 u3 : Option Addr} {S : Swap} {g1 cc1 g3 cc3 : Nat → Nat} (hE : Ext w W) (hWs : W.heap.size = w.heap.size + 2)
    (hb1 : W.heap[w.heap.size + 1]? = some (.cells #[.slice none 0 0, .slice none 0 0, .slice none 0 0, .slice none 0 0, .int .i64 0] 26 (0, 0)))
    (r1 : RowsOwn w1 n1 (.slice u1 S.boxes.length k1) S.boxes g1 cc1) (r3 : RowsOwn w3 n3 (.slice u3 S.earn.length k3) S.earn g3 cc3)
    (o2 : w2.ownsRow g2 3 1 (.slice (some ⟨g2, 0, none⟩) S.stock.length cn2) S.stock.length (intVs S.stock)) (at2 : g2 = H2 ∨ g2 = n2)
    (o4 : w4.ownsRow g4 45 2 (.slice (some ⟨g4, 0, none⟩) S.keeps.length cn4) S.keeps.length (pairVs S.keeps)) (at4 : g4 = H4 ∨ g4 = n4)
    (c14 : Ext w1 w4) (c24 : Ext w2 w4) (c34 : Ext w3 w4) (cW4 : Ext W w4)
    (s1 : W.heap.size ≤ n1) (s2 : w1.heap.size ≤ n2) (s3 : w2.heap.size ≤ n3) (s4 : w3.heap.size ≤ n4) (t1 : n1 ≤ w1.heap.size) (t2 : n2 ≤ w2.heap.size) (t3 : n3 ≤ w3.heap.size)
    (a2 : W.heap.size ≤ H2) (b2 : H2 < n1 ∨ w1.heap.size ≤ H2) (d2 : H2 < n2)
    (a4 : W.heap.size ≤ H4) (b4 : H4 < n1 ∨ w1.heap.size ≤ H4) (d4 : H4 < n2 ∨ w2.heap.size ≤ H4) (e4 : H4 < n3 ∨ w3.heap.size ≤ H4) (f4 : H4 ≠ H2) (i4 : H4 < n4) :
    ∃ w5, w5 = (((((w4.setCell ⟨w.heap.size + 1, 0, none⟩ (.slice u1 S.boxes.length k1)).setCell ⟨w.heap.size + 1, 1, none⟩ (.slice (some ⟨g2, 0, none⟩) S.stock.length cn2)).setCell ⟨w.heap.size + 1, 2, none⟩ (.slice u3 S.earn.length k3)).setCell ⟨w.heap.size + 1, 3, none⟩ (.slice (some ⟨g4, 0, none⟩) S.keeps.length cn4)).setCell ⟨w.heap.size + 1, 4, none⟩ (.int .i64 S.changes)) ∧
      CloneOwn w5 W.heap.size S (.slice u1 S.boxes.length k1) (.slice (some ⟨g2, 0, none⟩) S.stock.length cn2) (.slice u3 S.earn.length k3) (.slice (some ⟨g4, 0, none⟩) S.keeps.length cn4) g1 cc1 g3 cc3 ∧ Ext w w5 ∧
      w5.heap[w.heap.size + 1]? = some (.cells #[.slice u1 S.boxes.length k1, .slice (some ⟨g2, 0, none⟩) S.stock.length cn2, .slice u3 S.earn.length k3, .slice (some ⟨g4, 0, none⟩) S.keeps.length cn4, .int .i64 S.changes] 26 (0, 0)) := by
  have hbut := sets_but w4 (w.heap.size + 1) (.slice u1 S.boxes.length k1) (.slice (some ⟨g2, 0, none⟩) S.stock.length cn2) (.slice u3 S.earn.length k3) (.slice (some ⟨g4, 0, none⟩) S.keeps.length cn4) (.int .i64 S.changes)
  have hb4 := (Below.block cW4 _ (by omega)).trans hb1
  have l2 := (o2.lt g2 rfl).2
  have l4 := (o4.lt g4 rfl).2
  have z2 : W.heap.size ≤ g2 := by omega
  have z4 : W.heap.size ≤ g4 := by omega
  have m14 := c14.size
  have m24 := c24.size
  have m34 := c34.size
  refine ⟨_, rfl, ⟨?_, ?_, ?_, ?_, ?_, ?_, ?_, ?_, ?_, ?_⟩, ?_, ?_⟩
  · exact ((r1.base s1).ext c14).but hbut (fun h => by have := r1.bd h; omega)
  · exact ownsRow_but (ownsRow_ext (ownsRow_base o2 z2) c24) hbut (fun h => by have h' : g2 = w.heap.size + 1 := (by simpa [Value.ownBlock] using h); omega)
  · exact ((r3.base (by omega)).ext c34).but hbut (fun h => by have := r3.bd h; omega)
  · exact ownsRow_but (ownsRow_base o4 z4) hbut (fun h => by have h' : g4 = w.heap.size + 1 := (by simpa [Value.ownBlock] using h); omega)
  · intro x hx h
    have h' : g2 = x := by simpa [Value.ownBlock] using h
    have := r1.bd hx
    omega
  · intro x hx h
    have h1 := r1.bd hx
    have h2 := r3.bd h
    omega
  · intro x hx h
    have h' : g4 = x := by simpa [Value.ownBlock] using h
    have := r1.bd hx
    omega
  · intro x hx h
    have h' : g2 = x := by simpa [Value.ownBlock] using h
    have := r3.bd hx
    omega
  · intro x hx h
    have h' : g2 = x := by simpa [Value.ownBlock] using hx
    have h'' : g4 = x := by simpa [Value.ownBlock] using h
    omega
  · intro x hx h
    have h' : g4 = x := by simpa [Value.ownBlock] using h
    have := r3.bd hx
    omega
  · exact (hE.trans cW4).trans' (hbut.below (by omega))
  · exact heap_set (heap_set (heap_set (heap_set (heap_set hb4 rfl) rfl) rfl) rfl) rfl
end Go.Proofs.Ytpgjkmjejpfkmaa
