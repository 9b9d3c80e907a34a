
/- Blocks of whole numbers, read and written in rows; calls that write one block of the caller. The walks of the sets of package meters: or, and, up, put. The words of a set; what or, and, up do to them. The walks of up and put. The walk of put. How many numbers a set has: the count of bits in a word, as math/bits counts them; the walk of many. The walks of OnesCount64 and many. -/
import Derived.Test.YtppncdbhebgcaaaVA
import Derived.Deep.MidRow
import Derived.Test.YtppncdbhebgcaaaRows
import Derived.StillTailTactics
import Derived.Test.YtppncdbhebgcaaaXA
import Derived.Laws.BitsAllLaws
import Derived.Laws.Bits128
namespace Go.Proofs.Ytppncdbhebgcaaa
open Go.RowKit

def rowV (n : Nat) (k : IntKind) (f : Nat → Int) : Array Value := ((List.range n).map (fun i => Value.int k (f i))).toArray
theorem rowV_size {n : Nat} {k : IntKind} {f : Nat → Int} : (rowV n k f).size = n := by unfold rowV; simp
theorem rowV_get {n : Nat} {k : IntKind} {f : Nat → Int} {j : Nat} (h : j < n) : (rowV n k f)[j]? = some (.int k (f j)) := by
  unfold rowV
  simp [h]
theorem rowV_none {n : Nat} {k : IntKind} {f : Nat → Int} {j : Nat} (h : ¬j < n) : (rowV n k f)[j]? = none := by
  unfold rowV
  simp; omega
theorem rowV_congr {n : Nat} {k : IntKind} {f g : Nat → Int} (h : ∀ j, j < n → f j = g j) : rowV n k f = rowV n k g := by
  apply Array.ext_getElem?
  intro j
  by_cases hj : j < n
  · rw [rowV_get hj, rowV_get hj, h j hj]
  · rw [rowV_none hj, rowV_none hj]
theorem rowV_set {n : Nat} {k : IntKind} {f : Nat → Int} {j : Nat} {x : Int} : (rowV n k f).setIfInBounds j (.int k x) = rowV n k (fun i => if i = j then x else f i) := by
  apply Array.ext_getElem?
  intro i
  rw [Array.getElem?_setIfInBounds]
  by_cases hi : i < n
  · rw [rowV_get hi]
    by_cases e : j = i
    · subst e
      rw [if_pos rfl, if_pos (by rw [rowV_size]; exact hi), rowV_get hi, if_pos rfl]
    · have e' : ¬i = j := fun h => e h.symm
      rw [if_neg e, rowV_get hi, if_neg e']
  · rw [rowV_none hi, rowV_none hi]
    split
    · rw [if_neg (by rw [rowV_size]; omega)]
    · rfl
theorem rowV_list {n : Nat} {k : IntKind} {f : Nat → Int} {j : Nat} (h : j < n) : (rowV n k f).toList[j]? = some (.int k (f j)) := by
  rw [Array.getElem?_toList]; exact rowV_get h

/-- A block that holds so many numbers of a kind. -/
def Blk (w : World) (b : Nat) (t : TypeId) (n : Nat) (k : IntKind) (f : Nat → Int) : Prop := w.heap[b]? = some (.cells (rowV n k f) t (0, 0))
section
variable {w w' : World} {b c : Nat} {t : TypeId} {n m : Nat} {k : IntKind} {f g : Nat → Int}
theorem Blk.lt (h : Blk w b t n k f) : b < w.heap.size := (Array.getElem?_eq_some_iff.1 h).1
theorem Blk.congr (h : Blk w b t n k f) (e : ∀ j, j < n → f j = g j) : Blk w b t n k g := by unfold Blk at *; rw [h, rowV_congr e]
theorem Blk.cell (h : Blk w b t n k f) {j : Nat} (hj : j < n) : w.cell? ⟨b, j, none⟩ = some (.int k (f j)) := by
  unfold World.cell?
  rw [h]; simp only [Option.isSome_none, Bool.false_eq_true, if_false]
  exact rowV_get hj
theorem Blk.frozen (h : Blk w b t n k f) {j : Nat} : w.frozen? ⟨b, j, none⟩ = false := by
  unfold World.frozen?
  rw [h]; simp
theorem Blk.range (h : Blk w b t n k f) {o : Nat} (ho : o + m ≤ n) : w.rangeAt b o (rowV m k (fun j => f (o + j))).toList := by
  intro j v hv
  have hj : j < m := by
    have := (List.getElem?_eq_some_iff.1 hv).1
    rw [Array.length_toList, rowV_size] at this; exact this
  rw [rowV_list hj] at hv
  rw [h.cell (by omega), hv]
theorem Blk.there (h : Blk w b t n k f) {o : Nat} (ho : o + m ≤ n) : w.there b o m := fun j hj => ⟨by rw [h.cell (by omega)]; rfl, h.frozen⟩
theorem Blk.alloc (h : Blk w b t n k f) (ob : Obj) : Blk (w.alloc ob) b t n k f := (Below.heap_alloc w ob b h.lt).trans h
theorem Blk.drew (h : Blk w b t n k f) : Blk w.drew b t n k f := h
theorem Blk.new (w : World) (t : TypeId) (n : Nat) (k : IntKind) (f : Nat → Int) : Blk (w.alloc (.cells (rowV n k f) t)) w.heap.size t n k f := heap_alloc_new _ _
theorem Blk.ext (h : Blk w b t n k f) (hE : Ext w w') : Blk w' b t n k f := (hE.block b h.lt).trans h
theorem Blk.set (h : Blk w b t n k f) {o : Nat} {x : Int} : Blk (w.setCell ⟨b, o, none⟩ (.int k x)) b t n k (fun i => if i = o then x else f i) := by
  unfold Blk World.setCell
  simp only [Array.getElem?_modify, if_true]
  rw [h]
  simp only [Option.map_some, Option.isSome_none, Bool.false_eq_true, if_false, rowV_set]
theorem size_setCells (b : Nat) : ∀ (vs : List Value) (o : Nat) (w : World), (w.setCells b o vs).heap.size = w.heap.size
  | [], _, _ => rfl
  | v :: r, o, w => by rw [World.setCells, size_setCells b r]; simp [World.setCell]
theorem heap_setCells (b : Nat) {j : Nat} (hj : j ≠ b) : ∀ (vs : List Value) (o : Nat) (w : World), (w.setCells b o vs).heap[j]? = w.heap[j]?
  | [], _, _ => rfl
  | v :: r, o, w => by rw [World.setCells, heap_setCells b hj r, Below.heap_setCell _ _ _ _ hj]
theorem same_setCells (b : Nat) : ∀ (vs : List Value) (o : Nat) (w : World), (w.setCells b o vs).os = w.os ∧ (w.setCells b o vs).tape = w.tape ∧ (w.setCells b o vs).output = w.output
  | [], _, _ => ⟨rfl, rfl, rfl⟩
  | v :: r, o, w => by rw [World.setCells]; exact same_setCells b r _ _
theorem Blk.sets_list : ∀ (l : List Int) (o : Nat) {w : World} {f : Nat → Int}, Blk w b t n k f → Blk (w.setCells b o (l.map (fun x => Value.int k x))) b t n k (fun i => if o ≤ i ∧ i < o + l.length then l.getD (i - o) 0 else f i)
  | [], o, w, f, h => h.congr (fun j _ => by rw [if_neg (by simp)])
  | x :: l, o, w, f, h => by
    rw [List.map_cons, World.setCells]
    refine (Blk.sets_list l (o + 1) (h.set (o := o) (x := x))).congr (fun j _ => ?_)
    by_cases h1 : j = o
    · subst h1
      rw [if_neg (by omega), if_pos rfl, if_pos (by simp), Nat.sub_self]; rfl
    · by_cases h2 : o + 1 ≤ j ∧ j < o + 1 + l.length
      · rw [if_pos h2, if_pos (by simp; omega)]
        rw [show j - o = (j - (o + 1)) + 1 by omega]; rfl
      · rw [if_neg h2, if_neg h1, if_neg (by simp; omega)]
theorem rowV_toList : (rowV m k g).toList = ((List.range m).map g).map (fun x => Value.int k x) := by
  unfold rowV
  simp [List.map_map, Function.comp_def]
theorem Blk.sets (h : Blk w b t n k f) (o : Nat) (g : Nat → Int) (m : Nat) : Blk (w.setCells b o (rowV m k g).toList) b t n k (fun i => if o ≤ i ∧ i < o + m then g (i - o) else f i) := by
  rw [rowV_toList]
  refine (Blk.sets_list _ o h).congr (fun j _ => ?_)
  simp only [List.length_map, List.length_range]
  by_cases hj : o ≤ j ∧ j < o + m
  · rw [if_pos hj, if_pos hj]
    rw [List.getD_eq_getElem?_getD, List.getElem?_map, List.getElem?_range (by omega)]; rfl
  · rw [if_neg hj, if_neg hj]
end

/-- All that the earlier world had stands, but for one block. -/
structure Ups (b : Nat) (w w' : World) : Prop where
  os : w'.os = w.os
  tape : w'.tape = w.tape
  output : w'.output = w.output
  size : w.heap.size ≤ w'.heap.size
  block : ∀ k, k < w.heap.size → k ≠ b → w'.heap[k]? = w.heap[k]?
section
variable {a w w' w'' : World} {b c : Nat} {t : TypeId} {n m : Nat} {k : IntKind} {f g : Nat → Int}
theorem Ups.refl (b : Nat) (w : World) : Ups b w w := ⟨rfl, rfl, rfl, Nat.le_refl _, fun _ _ _ => rfl⟩
theorem Ups.trans (h : Ups b w w') (h' : Ups b w' w'') : Ups b w w'' :=
  ⟨h'.os.trans h.os, h'.tape.trans h.tape, h'.output.trans h.output, Nat.le_trans h.size h'.size, fun k hk hne => (h'.block k (Nat.lt_of_lt_of_le hk h.size) hne).trans (h.block k hk hne)⟩
theorem Ups.ext (h : Ext w w') : Ups b w w' := ⟨h.os, h.tape, h.output, h.size, fun k hk _ => h.block k hk⟩
theorem Ups.drew (h : Ups b w w') : Ups b w w'.drew := ⟨h.os, h.tape, h.output, h.size, h.block⟩
theorem Ups.alloc (h : Ups b w w') (o : Obj) : Ups b w (w'.alloc o) := h.trans (Ups.ext (Ext.alloc (Ext.refl _) o))
theorem Ups.setCell (h : Ups b w w') (o : Nat) (v : Value) : Ups b w (w'.setCell ⟨b, o, none⟩ v) :=
  h.trans ⟨rfl, rfl, rfl, by simp [World.setCell], fun k _ hne => Below.heap_setCell w' ⟨b, o, none⟩ v k hne⟩
theorem Ups.setCells (h : Ups b w w') (o : Nat) (vs : List Value) : Ups b w (w'.setCells b o vs) :=
  h.trans ⟨(same_setCells b vs o w').1, (same_setCells b vs o w').2.1, (same_setCells b vs o w').2.2, by rw [size_setCells]; exact Nat.le_refl _, fun k _ hne => heap_setCells b hne vs o w'⟩
/-- A block of one's own. -/
theorem Ups.own (h : Ups b w w') (hb : w.heap.size ≤ b) : Ext w w' := ⟨h.os, h.tape, h.output, h.size, fun k hk => h.block k hk (by omega)⟩
theorem Ext.ups (h : Ext a w) (h' : Ups b w w') (hb : a.heap.size ≤ b) : Ext a w' :=
  ⟨h'.os.trans h.os, h'.tape.trans h.tape, h'.output.trans h.output, Nat.le_trans h.size h'.size, fun k hk => (h'.block k (Nat.lt_of_lt_of_le hk h.size) (by omega)).trans (h.block k hk)⟩
theorem Ups.ups (h : Ups c a w) (h' : Ups b w w') (hb : a.heap.size ≤ b) : Ups c a w' :=
  ⟨h'.os.trans h.os, h'.tape.trans h.tape, h'.output.trans h.output, Nat.le_trans h.size h'.size, fun k hk hne => (h'.block k (Nat.lt_of_lt_of_le hk h.size) (by omega)).trans (h.block k hk hne)⟩
theorem Blk.ups (h : Blk w b t n k f) (h' : Ups c w w') (hne : b ≠ c) : Blk w' b t n k f := (h'.block b h.lt hne).trans h
theorem Ext.setCells (h : Ext a w) (hb : a.heap.size ≤ b) (o : Nat) (vs : List Value) : Ext a (w.setCells b o vs) := h.ups ((Ups.refl b w).setCells o vs) hb
theorem Ups.cell (h : Ups c w w') {o : Nat} {v : Value} (hc : w.cell? ⟨b, o, none⟩ = some v) (hne : b ≠ c) : w'.cell? ⟨b, o, none⟩ = some v := by
  have hl := lt_of_cell hc
  unfold World.cell? at *
  rw [h.block b hl hne]
  exact hc
end

/-! Operations on rows. -/
section
variable {P : Program} {w : World} {b o : Nat} {t : TypeId} {n m : Nat} {k : IntKind} {f : Nat → Int} {a : Act} {op : Oper} {Q : Exit → Act → World → Prop} {K : Act → World → Prop}
theorem OpB.mkG {ops : Array Oper} (hg : op.guard = none) (h : Oper.wp P op a w K Q) : OpB P Q ops a w K (some op) := OpB.mk' (by rw [if_pos (by unfold Region.wanted; rw [hg])]; exact h)
end
end Go.Proofs.Ytppncdbhebgcaaa
namespace Go.Proofs.Ytppncdbhebgcaaa
open Go.RowKit

end Go.Proofs.Ytppncdbhebgcaaa
namespace Go.Proofs.Ytppncdbhebgcaaa
open Go.RowKit

end Go.Proofs.Ytppncdbhebgcaaa
namespace Go.Proofs.Ytppncdbhebgcaaa
open Go.RowKit

end Go.Proofs.Ytppncdbhebgcaaa
namespace Go.Proofs.Ytppncdbhebgcaaa
open Go.RowKit

end Go.Proofs.Ytppncdbhebgcaaa
namespace Go.Proofs.Ytppncdbhebgcaaa
open Go.RowKit

/-- How many of the first n bits are set. -/
def cnt (n x : Nat) : Nat := (List.range n).countP x.testBit
/-- masks of so many bytes -/
def mk (c : Nat) : Nat → Nat
  | 0 => 0
  | n + 1 => c + 256 * mk c n
def s1 (n x : Nat) : Nat := (x / 2 &&& mk 85 n) + (x &&& mk 85 n)
def s2 (n x : Nat) : Nat := (x / 4 &&& mk 51 n) + (x &&& mk 51 n)
def s3 (n x : Nat) : Nat := (x / 16 + x) &&& mk 15 n
theorem b1 : ∀ b, b < 256 → ∀ y, y < 2 → (b / 2 + 128 * y) &&& 85 = (b / 2 &&& 85) := by decide +kernel
theorem b2 : ∀ b, b < 256 → ∀ y, y < 4 → (b / 4 + 64 * y) &&& 51 = (b / 4 &&& 51) := by decide +kernel
theorem b3 : ∀ b, b < 256 → b % 16 ≤ 4 → b / 16 ≤ 4 → ∀ y, y ≤ 4 → (b / 16 + 16 * y + b) &&& 15 = ((b / 16 + b) &&& 15) ∧ b / 16 + 16 * y + b < 256 := by decide +kernel
end Go.Proofs.Ytppncdbhebgcaaa
namespace Go.Proofs.Ytppncdbhebgcaaa
open Go.RowKit

end Go.Proofs.Ytppncdbhebgcaaa
