
/- TopCharted: the walk of swapped; two boxes in memory. -/
import Derived.Test.YtppncdbhebgcaaaGreatDoorK1b
import Derived.Test.YtppncdbhebgcaaaGreatDoorFc5
namespace Go.Proofs.YtppncdbhebgcaaaGreatDoor
open Go.RowKit

set_option maxRecDepth 20000 in
set_option maxHeartbeats 3200000 in
theorem swapped07 (w : World) : Calls Tryz.prog 7 #[] w (RetE (.bool true) w) := by
  obtain ⟨s0, hs0⟩ : ∃ s, s = w.heap.size := ⟨_, rfl⟩
  obtain ⟨W1, hW1⟩ : ∃ W1, W1 = w.alloc (.cells #[.int .i64 0] 3) := ⟨_, rfl⟩
  obtain ⟨W2, hW2⟩ : ∃ W2, W2 = W1.alloc (.cells #[.slice (some ⟨s0, 0, none⟩) 1 1] 23) := ⟨_, rfl⟩
  obtain ⟨W3, hW3⟩ : ∃ W3, W3 = W2.alloc (.cells #[.int .i64 0, .int .i64 1, .int .i64 1] 3) := ⟨_, rfl⟩
  obtain ⟨W4, hW4⟩ : ∃ W4, W4 = W3.alloc (.cells #[.int .i64 3] 3) := ⟨_, rfl⟩
  obtain ⟨W5, hW5⟩ : ∃ W5, W5 = W4.alloc (.cells #[.int .i64 7] 3) := ⟨_, rfl⟩
  obtain ⟨W6, hW6⟩ : ∃ W6, W6 = W5.alloc (.cells #[.int .i64 5] 3) := ⟨_, rfl⟩
  obtain ⟨W7, hW7⟩ : ∃ W7, W7 = W6.alloc (.cells #[.slice (some ⟨s0 + 1 + 1 + 1, 0, none⟩) 1 1, .slice (some ⟨s0 + 1 + 1 + 1 + 1, 0, none⟩) 1 1, .slice (some ⟨s0 + 1 + 1 + 1 + 1 + 1, 0, none⟩) 1 1] 23) := ⟨_, rfl⟩
  have z1 : W1.heap.size = s0 + 1 := by rw [hW1, size_alloc, hs0]
  have z2 : W2.heap.size = s0 + 1 + 1 := by rw [hW2, size_alloc, z1]
  have z3 : W3.heap.size = s0 + 1 + 1 + 1 := by rw [hW3, size_alloc, z2]
  have z4 : W4.heap.size = s0 + 1 + 1 + 1 + 1 := by rw [hW4, size_alloc, z3]
  have z5 : W5.heap.size = s0 + 1 + 1 + 1 + 1 + 1 := by rw [hW5, size_alloc, z4]
  have z6 : W6.heap.size = s0 + 1 + 1 + 1 + 1 + 1 + 1 := by rw [hW6, size_alloc, z5]
  have x7 : Ext W6 W7 := by rw [hW7]; exact (Ext.refl _).alloc _
  have x6 : Ext W5 W6 := by rw [hW6]; exact (Ext.refl _).alloc _
  have x5 : Ext W4 W5 := by rw [hW5]; exact (Ext.refl _).alloc _
  have x4 : Ext W3 W4 := by rw [hW4]; exact (Ext.refl _).alloc _
  have x3 : Ext W2 W3 := by rw [hW3]; exact (Ext.refl _).alloc _
  have x2 : Ext W1 W2 := by rw [hW2]; exact (Ext.refl _).alloc _
  have x1 : Ext w W1 := by rw [hW1]; exact (Ext.refl _).alloc _
  have m1 : W7.heap[s0]? = some (.cells #[.int .i64 0] 3) := heap_ext3 (by rw [hW1, hs0]; exact heap_new _ _) (x2.trans (x3.trans (x4.trans (x5.trans (x6.trans x7)))))
  have m2 : W7.heap[s0 + 1]? = some (.cells #[.slice (some ⟨s0, 0, none⟩) 1 1] 23) := heap_ext3 (by rw [← z1, hW2]; exact heap_new _ _) (x3.trans (x4.trans (x5.trans (x6.trans x7))))
  have m3 : W7.heap[s0 + 1 + 1]? = some (.cells #[.int .i64 0, .int .i64 1, .int .i64 1] 3) := heap_ext3 (by rw [← z2, hW3]; exact heap_new _ _) (x4.trans (x5.trans (x6.trans x7)))
  have m4 : W7.heap[s0 + 1 + 1 + 1]? = some (.cells #[.int .i64 3] 3) := heap_ext3 (by rw [← z3, hW4]; exact heap_new _ _) (x5.trans (x6.trans x7))
  have m5 : W7.heap[s0 + 1 + 1 + 1 + 1]? = some (.cells #[.int .i64 7] 3) := heap_ext3 (by rw [← z4, hW5]; exact heap_new _ _) (x6.trans x7)
  have m6 : W7.heap[s0 + 1 + 1 + 1 + 1 + 1]? = some (.cells #[.int .i64 5] 3) := heap_ext3 (by rw [← z5, hW6]; exact heap_new _ _) x7
  have m7 : W7.heap[s0 + 1 + 1 + 1 + 1 + 1 + 1]? = some (.cells #[.slice (some ⟨s0 + 1 + 1 + 1, 0, none⟩) 1 1, .slice (some ⟨s0 + 1 + 1 + 1 + 1, 0, none⟩) 1 1, .slice (some ⟨s0 + 1 + 1 + 1 + 1 + 1, 0, none⟩) 1 1] 23) := by rw [← z6, hW7]; exact heap_new _ _
  have hv : Sw7.SwapV W7 (.agg #[.slice (some ⟨s0 + 1, 0, none⟩) 1 1, .slice (some ⟨s0 + 1 + 1, 0, none⟩) 3 3, .slice (some ⟨s0 + 1 + 1 + 1 + 1 + 1 + 1, 0, none⟩) 3 3, .slice none 0 0, .int .i64 1]) exS7 := by
    refine ⟨some ⟨s0 + 1, 0, none⟩, 1, some ⟨s0 + 1 + 1, 0, none⟩, 3, some ⟨s0 + 1 + 1 + 1 + 1 + 1 + 1, 0, none⟩, 3, none, 0, rfl, fun i hi => ?_, IntsAt.cells [0, 1, 1] m3, fun i hi => ?_, PairsAt.nil _ _⟩
    · have hi' : i < 1 := hi
      obtain rfl : i = 0 := by omega
      exact ⟨_, 0, _, rfl, cell_of_heap m2 0, ⟨_, 1, rfl, IntsAt.cells [0] m1⟩⟩
    · have hi' : i < 3 := hi
      rcases (by omega : i = 0 ∨ i = 1 ∨ i = 2) with rfl | rfl | rfl
      · exact ⟨_, 0, _, rfl, cell_of_heap m7 0, ⟨_, 1, rfl, IntsAt.cells [3] m4⟩⟩
      · exact ⟨_, 0, _, rfl, cell_of_heap m7 1, ⟨_, 1, rfl, IntsAt.cells [7] m5⟩⟩
      · exact ⟨_, 0, _, rfl, cell_of_heap m7 2, ⟨_, 1, rfl, IntsAt.cells [5] m6⟩⟩
  have HB := Lib.hid (by
    have h := Sw7.Best07 _ exS7 W7 hv exS7_modest
    rw [Sw7.ansV_t exS7_valid, ex7_best] at h
    exact h)
  have HE := Lib.hid (x1.trans (x2.trans (x3.trans (x4.trans (x5.trans (x6.trans x7))))))
  clear m1 m2 m3 m4 m5 m6 m7 hv z1 z2 z3 z4 z5 z6 x1 x2 x3 x4 x5 x6 x7
  go_enter Tryz.func7, Tryz.ntmps7
  go_upto_region 2 with (go_at_call 11; rw [← hs0, ← hW1, ← hW2, ← hW3, ← hW4, ← hW5, ← hW6, ← hW7]; refine HB.out.mono ?_; rintro e w2 ⟨rfl, hE2⟩)
  go_wp2
  go_ret
  exact RetE.fin (HE.out.trans hE2) rfl

/-- two boxes in memory -/
structure TwB (W3 w : World) (g1 b1 g2 b2 B s : Nat) (u1 u2 vS1 vE1 : Value) (es1 : List Value) (L1 : List Int) (vS2 vE2 : Value) (es2 : List Value) (L2 : List Int) : Prop where
  ext : Ext W3 w
  lt : W3.heap.size ≤ g1 ∧ g1 < b1 ∧ b1 < g2 ∧ g2 < b2 ∧ b2 < B
  m1 : w.heap[b1]? = some (.cells #[.slice (some ⟨g1, 0, none⟩) 1 1, vS1, vE1, .slice none 0 0, .int .i64 (s : Int)] 33)
  m2 : w.heap[b2]? = some (.cells #[.slice (some ⟨g2, 0, none⟩) 1 1, vS2, vE2, .slice none 0 0, .int .i64 (s : Int)] 33)
  h1 : w.heap[g1]? = some (.cells #[u1] 23)
  h2 : w.heap[g2]? = some (.cells #[u2] 23)
  R1 : BxR w B vS1 vE1 es1 L1
  R2 : BxR w B vS2 vE2 es2 L2
  dS : ∀ y, vS1.ownBlock = some y → ¬vS2.ownBlock = some y
  dE : ∀ y, vE1.ownBlock = some y → ¬vE2.ownBlock = some y
  sz : B ≤ w.heap.size
section
variable {W3 w w' : World} {g1 b1 g2 b2 B s : Nat} {u1 u2 vS1 vE1 vS2 vE2 vS' vE' : Value} {es1 es2 : List Value} {L1 L2 : List Int}
theorem TwB.ext' (h : TwB W3 w g1 b1 g2 b2 B s u1 u2 vS1 vE1 es1 L1 vS2 vE2 es2 L2) (hE : Ext w w') : TwB W3 w' g1 b1 g2 b2 B s u1 u2 vS1 vE1 es1 L1 vS2 vE2 es2 L2 :=
  ⟨h.ext.trans hE, h.lt, heap_ext3 h.m1 hE, heap_ext3 h.m2 hE, heap_ext3 h.h1 hE, heap_ext3 h.h2 hE, h.R1.ext hE, h.R2.ext hE, h.dS, h.dE, Nat.le_trans h.sz hE.size⟩
theorem grow_off {r1 r2 : Option Nat} {y : Nat} {o : Obj} (hG : Gr2 r1 r2 w w') (hr : ∀ z, r1 = some z ∨ r2 = some z → B ≤ z) (hy : y < B) (hm : w.heap[y]? = some o) : w'.heap[y]? = some o :=
  hG.keep hm (fun e => by have := hr y (Or.inl e.symm); omega) (fun e => by have := hr y (Or.inr e.symm); omega)
theorem TwB.step1 (h : TwB W3 w g1 b1 g2 b2 B s u1 u2 vS1 vE1 es1 L1 vS2 vE2 es2 L2) {x : Int} {g : Nat} (hG : Gr2 (roomR vS1 (L1.length + 1)) vE1.ownBlock w w')
    (hS : w'.ownsRow B 3 1 vS' (L1.length + 1) (intVs (List.replicate L1.length 1) ++ [.int .i64 1])) (hE : w'.ownsRow B 23 1 vE' (L1.length + 1) (es1 ++ [.slice (some ⟨g, 0, none⟩) 1 1])) (hB : B ≤ g) (hg : w'.heap[g]? = some (.cells #[.int .i64 x] 3))
    (nS : ∀ y, vS'.ownBlock = some y → vS1.ownBlock = some y ∨ w.heap.size ≤ y) (nE : ∀ y, vE'.ownBlock = some y → vE1.ownBlock = some y ∨ w.heap.size ≤ y) :
    TwB W3 ((w'.setCell ⟨b1, 1, none⟩ vS').setCell ⟨b1, 2, none⟩ vE') g1 b1 g2 b2 B s u1 u2 vS' vE' (es1 ++ [.slice (some ⟨g, 0, none⟩) 1 1]) (L1 ++ [x]) vS2 vE2 es2 L2 := by
  obtain ⟨l1, l2, l3, l4, l5⟩ := h.lt
  have hr : ∀ z, roomR vS1 (L1.length + 1) = some z ∨ vE1.ownBlock = some z → B ≤ z := fun z hz => hz.elim (fun h' => (h.R1.S.lt z (roomR_own h')).1) (fun h' => (h.R1.E.lt z h').1)
  have e1 := hG.low h.ext (fun z hz => by have := hr z hz; omega)
  have k1 := grow_off hG hr (by omega) h.m1
  have k2 := grow_off hG hr (by omega) h.m2
  have k3 := grow_off hG hr (by omega) h.h1
  have k4 := grow_off hG hr (by omega) h.h2
  refine ⟨Ext.setCell (Ext.setCell e1 (p := ⟨b1, 1, none⟩) (by show W3.heap.size ≤ b1; omega) _) (p := ⟨b1, 2, none⟩) (by show W3.heap.size ≤ b1; omega) _, h.lt, heap_set (heap_set k1 rfl) rfl, heap_set_ne (by omega) (heap_set_ne (by omega) k2), heap_set_ne (by omega) (heap_set_ne (by omega) k3), heap_set_ne (by omega) (heap_set_ne (by omega) k4),
    ((h.R1.step hG hS hE hB hg).off (by omega)).off (by omega), ((h.R2.other h.R1 hG (fun y hy e => h.dS y e hy) (fun y hy e => h.dE y e hy)).off (by omega)).off (by omega), fun y hy e => ?_, fun y hy e => ?_, by simp only [World.setCell, Array.size_modify]; exact Nat.le_trans h.sz hG.size⟩
  · rcases nS y hy with h' | h'
    · exact h.dS y h' e
    · have := (h.R2.S.lt y e).2; omega
  · rcases nE y hy with h' | h'
    · exact h.dE y h' e
    · have := (h.R2.E.lt y e).2; omega
theorem TwB.step2 (h : TwB W3 w g1 b1 g2 b2 B s u1 u2 vS1 vE1 es1 L1 vS2 vE2 es2 L2) {x : Int} {g : Nat} (hG : Gr2 (roomR vS2 (L2.length + 1)) vE2.ownBlock w w')
    (hS : w'.ownsRow B 3 1 vS' (L2.length + 1) (intVs (List.replicate L2.length 1) ++ [.int .i64 1])) (hE : w'.ownsRow B 23 1 vE' (L2.length + 1) (es2 ++ [.slice (some ⟨g, 0, none⟩) 1 1])) (hB : B ≤ g) (hg : w'.heap[g]? = some (.cells #[.int .i64 x] 3))
    (nS : ∀ y, vS'.ownBlock = some y → vS2.ownBlock = some y ∨ w.heap.size ≤ y) (nE : ∀ y, vE'.ownBlock = some y → vE2.ownBlock = some y ∨ w.heap.size ≤ y) :
    TwB W3 ((w'.setCell ⟨b2, 1, none⟩ vS').setCell ⟨b2, 2, none⟩ vE') g1 b1 g2 b2 B s u1 u2 vS1 vE1 es1 L1 vS' vE' (es2 ++ [.slice (some ⟨g, 0, none⟩) 1 1]) (L2 ++ [x]) := by
  obtain ⟨l1, l2, l3, l4, l5⟩ := h.lt
  have hr : ∀ z, roomR vS2 (L2.length + 1) = some z ∨ vE2.ownBlock = some z → B ≤ z := fun z hz => hz.elim (fun h' => (h.R2.S.lt z (roomR_own h')).1) (fun h' => (h.R2.E.lt z h').1)
  have e1 := hG.low h.ext (fun z hz => by have := hr z hz; omega)
  have k1 := grow_off hG hr (by omega) h.m1
  have k2 := grow_off hG hr (by omega) h.m2
  have k3 := grow_off hG hr (by omega) h.h1
  have k4 := grow_off hG hr (by omega) h.h2
  refine ⟨Ext.setCell (Ext.setCell e1 (p := ⟨b2, 1, none⟩) (by show W3.heap.size ≤ b2; omega) _) (p := ⟨b2, 2, none⟩) (by show W3.heap.size ≤ b2; omega) _, h.lt, heap_set_ne (by omega) (heap_set_ne (by omega) k1), heap_set (heap_set k2 rfl) rfl, heap_set_ne (by omega) (heap_set_ne (by omega) k3), heap_set_ne (by omega) (heap_set_ne (by omega) k4),
    ((h.R1.other h.R2 hG h.dS h.dE).off (by omega)).off (by omega), ((h.R2.step hG hS hE hB hg).off (by omega)).off (by omega), fun y hy e => ?_, fun y hy e => ?_, by simp only [World.setCell, Array.size_modify]; exact Nat.le_trans h.sz hG.size⟩
  · rcases nS y e with h' | h'
    · exact h.dS y hy h'
    · have := (h.R1.S.lt y hy).2; omega
  · rcases nE y e with h' | h'
    · exact h.dE y hy h'
    · have := (h.R1.E.lt y hy).2; omega
end
end Go.Proofs.YtppncdbhebgcaaaGreatDoor
