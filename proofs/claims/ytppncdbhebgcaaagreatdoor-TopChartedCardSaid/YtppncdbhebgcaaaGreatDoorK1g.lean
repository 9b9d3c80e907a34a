
/- TopCharted: the rows of two boxes that are filled; what a region does that writes three times. -/
import Derived.Test.YtppncdbhebgcaaaGreatDoorK1c
namespace Go.Proofs.YtppncdbhebgcaaaGreatDoor
open Go.RowKit

def idL (j : Nat) : List Int := (List.range j).map fun i : Nat => (i : Int)
theorem idL_len (j : Nat) : (idL j).length = j := by simp [idL]
theorem idL_succ (j : Nat) : intVs (idL j) ++ [.int .i64 (j : Int)] = intVs (idL (j + 1)) := by
  unfold idL
  rw [List.range_succ, List.map_append, List.map_singleton, intVs_snoc]
/-- the boxes' own rows -/
structure TwI (Wm w : World) (g1 g2 : Nat) (v1 v2 : Value) (j : Nat) : Prop where
  fr : Fr (fun y => y = g1 ∨ y = g2) Wm w
  lt : g1 < Wm.heap.size ∧ g2 < Wm.heap.size ∧ g1 ≠ g2
  h1 : w.heap[g1]? = some (.cells #[v1] 23)
  h2 : w.heap[g2]? = some (.cells #[v2] 23)
  I1 : w.ownsRow Wm.heap.size 3 1 v1 j (intVs (idL j))
  I2 : w.ownsRow Wm.heap.size 3 1 v2 j (intVs (idL j))
  d : ∀ y, v1.ownBlock = some y → ¬v2.ownBlock = some y
theorem TwI.ext {Wm w w' : World} {g1 g2 j : Nat} {v1 v2 : Value} (h : TwI Wm w g1 g2 v1 v2 j) (hE : Ext w w') : TwI Wm w' g1 g2 v1 v2 j :=
  ⟨⟨hE.os.trans h.fr.os, hE.tape.trans h.fr.tape, hE.output.trans h.fr.output, Nat.le_trans h.fr.size hE.size, fun k hk hn => (Below.block hE k (Nat.lt_of_lt_of_le hk h.fr.size)).trans (h.fr.block k hk hn)⟩, h.lt, heap_ext3 h.h1 hE, heap_ext3 h.h2 hE, ownsRow_ext h.I1 hE, ownsRow_ext h.I2 hE, h.d⟩
/-- a block of the world before stands, but for g1 and g2 -/
theorem TwI.old {Wm w : World} {g1 g2 j : Nat} {v1 v2 : Value} (h : TwI Wm w g1 g2 v1 v2 j) {y : Nat} {o : Obj} (hm : Wm.heap[y]? = some o) (h1 : y ≠ g1) (h2 : y ≠ g2) : w.heap[y]? = some o :=
  (h.fr.block y (Array.getElem?_eq_some_iff.1 hm).1 (fun e => e.elim h1 h2)).trans hm

/-! the three writers of the region: k1 lets r1 grow, k2 lets r2 grow, k3 writes into block g -/
def St3 (k1 k2 k3 : Nat) (r1 r2 : Option Nat) (g : Nat) (i : Nat) (w w' : World) : Prop := if i = k1 then GrB r1 w w' else if i = k2 then GrB r2 w w' else if i = k3 then Fr (fun y => y = g) w w' else Ext w w'
def RR3 (r1 r2 : Option Nat) (g : Nat) : World → World → Prop := Fr (fun y => r1 = some y ∨ r2 = some y ∨ y = g)
def RK3 (k1 k2 : Nat) (r1 r2 : Option Nat) (g : Nat) (k : Nat) : World → World → Prop :=
  if k = k1 then Fr (fun y => r2 = some y ∨ y = g) else if k = k2 then Fr (fun y => r1 = some y ∨ y = g) else Fr (fun y => r1 = some y ∨ r2 = some y)
theorem gr_fr {r : Option Nat} {w w' : World} (h : GrB r w w') : Fr (fun y => r = some y) w w' := grown_fr h
theorem ext_fr {E : Nat → Prop} {w w' : World} (h : Ext w w') : Fr E w w' := ⟨h.os, h.tape, h.output, h.size, fun k hk _ => Below.block h k hk⟩
section
variable {k1 k2 k3 : Nat} {r1 r2 : Option Nat} {g : Nat}
theorem St3.all (i : Nat) (a b : World) (h : St3 k1 k2 k3 r1 r2 g i a b) : RR3 r1 r2 g a b := by
  unfold St3 at h
  split at h
  · exact (gr_fr h).mono fun _ e => Or.inl e
  · split at h
    · exact (gr_fr h).mono fun _ e => Or.inr (Or.inl e)
    · split at h
      · exact h.mono fun _ e => Or.inr (Or.inr e)
      · exact ext_fr h
theorem St3.strong (hk : k1 ≠ k2) (hk3 : k3 ≠ k1) (hk4 : k3 ≠ k2) : ∀ k ∈ [k1, k2, k3], ∀ i a b, i ≠ k → St3 k1 k2 k3 r1 r2 g i a b → RK3 k1 k2 r1 r2 g k a b := by
  intro k hkm i a b hi h
  have hkk : k = k1 ∨ k = k2 ∨ k = k3 := by simpa using hkm
  unfold St3 at h
  unfold RK3
  rcases hkk with rfl | rfl | rfl
  · rw [if_pos rfl]
    rw [if_neg hi] at h
    split at h
    · exact (gr_fr h).mono fun _ e => Or.inl e
    · split at h
      · exact h.mono fun _ e => Or.inr e
      · exact ext_fr h
  · rw [if_neg (fun e => hk e.symm), if_pos rfl]
    split at h
    · exact (gr_fr h).mono fun _ e => Or.inl e
    · split at h
      · exact h.mono fun _ e => Or.inr e
      · exact ext_fr h
  · rw [if_neg hk3, if_neg hk4]
    split at h
    · exact (gr_fr h).mono fun _ e => Or.inl e
    · split at h
      · exact (gr_fr h).mono fun _ e => Or.inr e
      · exact ext_fr h
theorem RK3.trans : ∀ k ∈ [k1, k2, k3], ∀ a b c, RK3 k1 k2 r1 r2 g k a b → RK3 k1 k2 r1 r2 g k b c → RK3 k1 k2 r1 r2 g k a c := by
  intro k _ a b c h h'
  unfold RK3 at h h' ⊢
  split
  · rename_i e; rw [if_pos e] at h h'; exact h.trans h'
  · rename_i e
    rw [if_neg e] at h h'
    split
    · rename_i e2; rw [if_pos e2] at h h'; exact h.trans h'
    · rename_i e2; rw [if_neg e2] at h h'; exact h.trans h'
theorem RK3.refl : ∀ k ∈ [k1, k2, k3], ∀ w, RK3 k1 k2 r1 r2 g k w w := by
  intro k _ w
  unfold RK3
  split
  · exact Fr.refl _ _
  · split <;> exact Fr.refl _ _
theorem St3.self {i : Nat} {a b : World} (h1 : (i == k1) = false) (h2 : (i == k2) = false) (h3 : (i == k3) = false) (h : Ext a b) : St3 k1 k2 k3 r1 r2 g i a b := by
  unfold St3
  rw [if_neg (by simpa using h1), if_neg (by simpa using h2), if_neg (by simpa using h3)]
  exact h
theorem St3.w1 {a b : World} (h : GrB r1 a b) : St3 k1 k2 k3 r1 r2 g k1 a b := by unfold St3; rw [if_pos rfl]; exact h
theorem St3.w2 {a b : World} (hk : (k2 == k1) = false) (h : GrB r2 a b) : St3 k1 k2 k3 r1 r2 g k2 a b := by unfold St3; rw [if_neg (by simpa using hk), if_pos rfl]; exact h
theorem St3.w3 {a b : World} (hk : (k3 == k1) = false) (hk2 : (k3 == k2) = false) (h : Fr (fun y => y = g) a b) : St3 k1 k2 k3 r1 r2 g k3 a b := by unfold St3; rw [if_neg (by simpa using hk), if_neg (by simpa using hk2), if_pos rfl]; exact h
theorem RK3.one {a b : World} (h : RK3 k1 k2 r1 r2 g k1 a b) : Fr (fun y => r2 = some y ∨ y = g) a b := by unfold RK3 at h; rw [if_pos rfl] at h; exact h
theorem RK3.two {a b : World} (hk : (k2 == k1) = false) (h : RK3 k1 k2 r1 r2 g k2 a b) : Fr (fun y => r1 = some y ∨ y = g) a b := by unfold RK3 at h; rw [if_neg (by simpa using hk), if_pos rfl] at h; exact h
theorem RK3.three {a b : World} (hk : (k3 == k1) = false) (hk2 : (k3 == k2) = false) (h : RK3 k1 k2 r1 r2 g k3 a b) : Fr (fun y => r1 = some y ∨ r2 = some y) a b := by unfold RK3 at h; rw [if_neg (by simpa using hk), if_neg (by simpa using hk2)] at h; exact h
end
/-- a new slice of one number -/
def One5 (B : Nat) (x : Int) (v : Value) (_ : List Value) (_ _ : Nat) (w : World) : Prop := ∃ g, v = .slice (some ⟨g, 0, none⟩) 1 1 ∧ B ≤ g ∧ w.heap[g]? = some (.cells #[.int .i64 x] 3)
/-- a box's own row, grown -/
def Row5 (old : Value) (B b1 j : Nat) (v : Value) (_ : List Value) (_ _ : Nat) (w : World) : Prop := ∃ h cap, v = .slice (some ⟨h, 0, none⟩) (j + 1) cap ∧ w.ownsRow b1 3 1 v (j + 1) (intVs (idL (j + 1))) ∧ (old.ownBlock = some h ∨ B ≤ h)
/-- the other box's, in another block -/
def Row6 (old : Value) (B b1 j : Nat) (v : Value) (l : List Value) (_ _ : Nat) (w : World) : Prop := ∃ h cap, v = .slice (some ⟨h, 0, none⟩) (j + 1) cap ∧ w.ownsRow b1 3 1 v (j + 1) (intVs (idL (j + 1))) ∧ (old.ownBlock = some h ∨ B ≤ h) ∧ (l.getD 2 undef).ownBlock ≠ some h
/-- a value lies in the block -/
def Put5 (g : Nat) (v : Value) (l : List Value) (_ _ : Nat) (w : World) : Prop := w.heap[g]? = some (.cells #[v] 23) ∧ v = l.getD 1 undef
section
variable {E : Nat → Prop} {B b1 j g : Nat} {x : Int} {v old : Value} {l : List Value} {s t : Nat} {w w' : World}
theorem One5.fr (hE : ∀ y, E y → y < B) (h : One5 B x v l s t w) (hF : Fr E w w') : One5 B x v l s t w' := by
  obtain ⟨q, h1, h2, h3⟩ := h
  exact ⟨q, h1, h2, (hF.block q (Array.getElem?_eq_some_iff.1 h3).1 (fun e => by have := hE q e; omega)).trans h3⟩
theorem Row5.fr (hE : ∀ y, E y → y < B) (hn : ∀ y, old.ownBlock = some y → ¬E y) (h : Row5 old B b1 j v l s t w) (hF : Fr E w w') : Row5 old B b1 j v l s t w' := by
  obtain ⟨q, cap, h1, h2, h3⟩ := h
  refine ⟨q, cap, h1, own_keep h2 fun y hy => hF.block y (h2.lt y hy).2 fun e => ?_, h3⟩
  rw [h1] at hy
  obtain rfl : q = y := Option.some.inj hy
  rcases h3 with h3 | h3
  · exact hn q h3 e
  · have := hE q e; omega
theorem Row6.fr (hE : ∀ y, E y → y < B) (hn : ∀ y, old.ownBlock = some y → ¬E y) (h : Row6 old B b1 j v l s t w) (hF : Fr E w w') : Row6 old B b1 j v l s t w' := by
  obtain ⟨q, cap, h1, h2, h3, h4⟩ := h
  refine ⟨q, cap, h1, own_keep h2 fun y hy => hF.block y (h2.lt y hy).2 fun e => ?_, h3, h4⟩
  rw [h1] at hy
  obtain rfl : q = y := Option.some.inj hy
  rcases h3 with h3 | h3
  · exact hn q h3 e
  · have := hE q e; omega
theorem Put5.fr (hg : ¬E g) (h : Put5 g v l s t w) (hF : Fr E w w') : Put5 g v l s t w' := ⟨(hF.block g (Array.getElem?_eq_some_iff.1 h.1).1 hg).trans h.1, h.2⟩
end
theorem TwI.step {Wm w w2 : World} {g1 g2 j : Nat} {v1 v2 v1' v2' : Value} (h : TwI Wm w g1 g2 v1 v2 j) (hR : RR3 v1.ownBlock v2.ownBlock g1 w w2) (hp : w2.heap[g1]? = some (.cells #[v1'] 23))
    (o1 : w2.ownsRow Wm.heap.size 3 1 v1' (j + 1) (intVs (idL (j + 1)))) (o2 : w2.ownsRow Wm.heap.size 3 1 v2' (j + 1) (intVs (idL (j + 1)))) (hd : ∀ y, v1'.ownBlock = some y → ¬v2'.ownBlock = some y) :
    TwI Wm (w2.setCell ⟨g2, 0, none⟩ v2') g1 g2 v1' v2' (j + 1) := by
  obtain ⟨l1, l2, l3⟩ := h.lt
  have h2 : w2.heap[g2]? = some (.cells #[v2] 23) := (hR.block g2 (Array.getElem?_eq_some_iff.1 h.h2).1 (fun e => by
    rcases e with e | e | e
    · have := (h.I1.lt g2 e).1; omega
    · have := (h.I2.lt g2 e).1; omega
    · omega)).trans h.h2
  refine ⟨⟨hR.os.trans h.fr.os, hR.tape.trans h.fr.tape, hR.output.trans h.fr.output, by simp only [World.setCell, Array.size_modify]; exact Nat.le_trans h.fr.size hR.size, fun k hk hn => ?_⟩, h.lt, heap_set_ne (by omega) hp, heap_set h2 rfl, ownsRow_off o1 (by omega), ownsRow_off o2 (by omega), hd⟩
  rw [heap_off (fun e => hn (Or.inr e))]
  refine (hR.block k (Nat.lt_of_lt_of_le hk h.fr.size) fun e => ?_).trans (h.fr.block k hk hn)
  rcases e with e | e | e
  · have := (h.I1.lt k e).1; omega
  · have := (h.I2.lt k e).1; omega
  · exact hn (Or.inl e)
/-- a number with a rank is one of the numbers -/
theorem cut_in {n j : Nat} {x : Nat → Int} {P : Int → Prop} (hP : ∀ i, i < n → P (x i)) (hj : j < n) : P (cutN n x ((j : Int) + 1)) := by
  obtain ⟨i, h1, h2, -⟩ := atN_ex (n := n) x (k := j + 1) (by omega) (by omega)
  unfold cutN
  rw [show (((j + 1 : Nat) : Nat) : Int) = (j : Int) + 1 by omega] at h1
  rw [h1, Int.toNat_natCast]
  exact hP i h2
theorem top_bound {n : Nat} {x : Nat → Int} (hx : ∀ i, i < n → 0 ≤ x i ∧ x i ≤ 999) : ∀ j, j ≤ n → 0 ≤ topSum n x j ∧ topSum n x j ≤ 999 * j
  | 0, _ => ⟨Int.le_refl _, Int.le_refl _⟩
  | j + 1, h => by
    have h1 := top_bound hx j (by omega)
    have h2 := cut_in (P := fun v => 0 ≤ v ∧ v ≤ 999) hx (by omega : j < n)
    rw [topSum_succ]
    omega
end Go.Proofs.YtppncdbhebgcaaaGreatDoor
