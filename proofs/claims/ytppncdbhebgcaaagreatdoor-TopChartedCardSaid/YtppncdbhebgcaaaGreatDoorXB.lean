
/- Blocks of whole numbers, read and written in rows; calls that write one block of the caller. The walks of the sets of package meters: or, and, up, put. The words of a set; what or, and, up do to them. The walks of up and put. The walk of put. How many numbers a set has: the count of bits in a word, as math/bits counts them; the walk of many. The walks of OnesCount64 and many. -/
import Derived.Test.YtppncdbhebgcaaaGreatDoorVA
import Derived.Deep.MidRow
import Derived.Test.YtppncdbhebgcaaaGreatDoorRows
import Derived.StillTailTactics
import Derived.Test.YtppncdbhebgcaaaGreatDoorXA
import Derived.Laws.BitsAllLaws
import Derived.Laws.Bits128
namespace Go.Proofs.YtppncdbhebgcaaaGreatDoor
open Go.RowKit

def rowV (n : Nat) (k : IntKind) (f : Nat → Int) : Array Value := ((List.range n).map (fun i => Value.int k (f i))).toArray
theorem rowV_size {n : Nat} {k : IntKind} {f : Nat → Int} : (rowV n k f).size = n := by unfold rowV; simp
theorem rowV_get {n : Nat} {k : IntKind} {f : Nat → Int} {j : Nat} (h : j < n) : (rowV n k f)[j]? = some (.int k (f j)) := by
  unfold rowV
  simp [h]
theorem rowV_none {n : Nat} {k : IntKind} {f : Nat → Int} {j : Nat} (h : ¬j < n) : (rowV n k f)[j]? = none := by
  unfold rowV
  simp; omega
theorem rowV_congr {n : Nat} {k : IntKind} {f g : Nat → Int} (h : ∀ j, j < n → f j = g j) : rowV n k f = rowV n k g := by
  apply Array.ext_getElem?
  intro j
  by_cases hj : j < n
  · rw [rowV_get hj, rowV_get hj, h j hj]
  · rw [rowV_none hj, rowV_none hj]
theorem rowV_one {n : Nat} {k : IntKind} {f : Nat → Int} : (rowV n k f).all (·.oneCell') = true := by
  rw [Array.all_eq_true_iff_forall_mem]
  intro v hv
  obtain ⟨j, hj, rfl⟩ := Array.getElem_of_mem hv
  have h1 : j < n := by rw [rowV_size] at hj; exact hj
  have h2 := rowV_get (k := k) (f := f) h1
  rw [Array.getElem?_eq_getElem hj] at h2
  rw [Option.some.inj h2]; rfl
theorem rowV_set {n : Nat} {k : IntKind} {f : Nat → Int} {j : Nat} {x : Int} : (rowV n k f).setIfInBounds j (.int k x) = rowV n k (fun i => if i = j then x else f i) := by
  apply Array.ext_getElem?
  intro i
  rw [Array.getElem?_setIfInBounds]
  by_cases hi : i < n
  · rw [rowV_get hi]
    by_cases e : j = i
    · subst e
      rw [if_pos rfl, if_pos (by rw [rowV_size]; exact hi), rowV_get hi, if_pos rfl]
    · have e' : ¬i = j := fun h => e h.symm
      rw [if_neg e, rowV_get hi, if_neg e']
  · rw [rowV_none hi, rowV_none hi]
    split
    · rw [if_neg (by rw [rowV_size]; omega)]
    · rfl
theorem rowV_list {n : Nat} {k : IntKind} {f : Nat → Int} {j : Nat} (h : j < n) : (rowV n k f).toList[j]? = some (.int k (f j)) := by
  rw [Array.getElem?_toList]; exact rowV_get h

/-- A block that holds so many numbers of a kind. -/
def Blk (w : World) (b : Nat) (t : TypeId) (n : Nat) (k : IntKind) (f : Nat → Int) : Prop := w.heap[b]? = some (.cells (rowV n k f) t (0, 0))
section
variable {w w' : World} {b c : Nat} {t : TypeId} {n m : Nat} {k : IntKind} {f g : Nat → Int}
theorem Blk.lt (h : Blk w b t n k f) : b < w.heap.size := (Array.getElem?_eq_some_iff.1 h).1
theorem Blk.congr (h : Blk w b t n k f) (e : ∀ j, j < n → f j = g j) : Blk w b t n k g := by unfold Blk at *; rw [h, rowV_congr e]
theorem Blk.cell (h : Blk w b t n k f) {j : Nat} (hj : j < n) : w.cell? ⟨b, j, none⟩ = some (.int k (f j)) := by
  unfold World.cell?
  rw [h]; simp only [Option.isSome_none, Bool.false_eq_true, if_false]
  exact rowV_get hj
theorem Blk.frozen (h : Blk w b t n k f) {j : Nat} : w.frozen? ⟨b, j, none⟩ = false := by
  unfold World.frozen?
  rw [h]; simp
theorem Blk.range (h : Blk w b t n k f) {o : Nat} (ho : o + m ≤ n) : w.rangeAt b o (rowV m k (fun j => f (o + j))).toList := by
  intro j v hv
  have hj : j < m := by
    have := (List.getElem?_eq_some_iff.1 hv).1
    rw [Array.length_toList, rowV_size] at this; exact this
  rw [rowV_list hj] at hv
  rw [h.cell (by omega), hv]
theorem Blk.there (h : Blk w b t n k f) {o : Nat} (ho : o + m ≤ n) : w.there b o m := fun j hj => ⟨by rw [h.cell (by omega)]; rfl, h.frozen⟩
theorem Blk.alloc (h : Blk w b t n k f) (ob : Obj) : Blk (w.alloc ob) b t n k f := (Below.heap_alloc w ob b h.lt).trans h
theorem Blk.drew (h : Blk w b t n k f) : Blk w.drew b t n k f := h
theorem Blk.new (w : World) (t : TypeId) (n : Nat) (k : IntKind) (f : Nat → Int) : Blk (w.alloc (.cells (rowV n k f) t)) w.heap.size t n k f := heap_alloc_new _ _
theorem Blk.new' {w : World} {b : Nat} (hb : w.heap.size = b) (t : TypeId) (n : Nat) (k : IntKind) (f : Nat → Int) : Blk (w.alloc (.cells (rowV n k f) t)) b t n k f := by subst hb; exact Blk.new w t n k f
theorem Blk.ext (h : Blk w b t n k f) (hE : Ext w w') : Blk w' b t n k f := (hE.block b h.lt).trans h
theorem Blk.set_ne (h : Blk w b t n k f) {o : Nat} {v : Value} (hne : b ≠ c) : Blk (w.setCell ⟨c, o, none⟩ v) b t n k f := (Below.heap_setCell w ⟨c, o, none⟩ v b hne).trans h
theorem Blk.set (h : Blk w b t n k f) {o : Nat} {x : Int} : Blk (w.setCell ⟨b, o, none⟩ (.int k x)) b t n k (fun i => if i = o then x else f i) := by
  unfold Blk World.setCell
  simp only [Array.getElem?_modify, if_true]
  rw [h]
  simp only [Option.map_some, Option.isSome_none, Bool.false_eq_true, if_false, rowV_set]
theorem size_setCells (b : Nat) : ∀ (vs : List Value) (o : Nat) (w : World), (w.setCells b o vs).heap.size = w.heap.size
  | [], _, _ => rfl
  | v :: r, o, w => by rw [World.setCells, size_setCells b r]; simp [World.setCell]
theorem heap_setCells (b : Nat) {j : Nat} (hj : j ≠ b) : ∀ (vs : List Value) (o : Nat) (w : World), (w.setCells b o vs).heap[j]? = w.heap[j]?
  | [], _, _ => rfl
  | v :: r, o, w => by rw [World.setCells, heap_setCells b hj r, Below.heap_setCell _ _ _ _ hj]
theorem same_setCells (b : Nat) : ∀ (vs : List Value) (o : Nat) (w : World), (w.setCells b o vs).os = w.os ∧ (w.setCells b o vs).tape = w.tape ∧ (w.setCells b o vs).output = w.output
  | [], _, _ => ⟨rfl, rfl, rfl⟩
  | v :: r, o, w => by rw [World.setCells]; exact same_setCells b r _ _
theorem Blk.sets_ne (h : Blk w b t n k f) {o : Nat} {vs : List Value} (hne : b ≠ c) : Blk (w.setCells c o vs) b t n k f := (heap_setCells c hne vs o w).trans h
theorem Blk.sets_list : ∀ (l : List Int) (o : Nat) {w : World} {f : Nat → Int}, Blk w b t n k f → Blk (w.setCells b o (l.map (fun x => Value.int k x))) b t n k (fun i => if o ≤ i ∧ i < o + l.length then l.getD (i - o) 0 else f i)
  | [], o, w, f, h => h.congr (fun j _ => by rw [if_neg (by simp)])
  | x :: l, o, w, f, h => by
    rw [List.map_cons, World.setCells]
    refine (Blk.sets_list l (o + 1) (h.set (o := o) (x := x))).congr (fun j _ => ?_)
    by_cases h1 : j = o
    · subst h1
      rw [if_neg (by omega), if_pos rfl, if_pos (by simp), Nat.sub_self]; rfl
    · by_cases h2 : o + 1 ≤ j ∧ j < o + 1 + l.length
      · rw [if_pos h2, if_pos (by simp; omega)]
        rw [show j - o = (j - (o + 1)) + 1 by omega]; rfl
      · rw [if_neg h2, if_neg h1, if_neg (by simp; omega)]
theorem rowV_toList : (rowV m k g).toList = ((List.range m).map g).map (fun x => Value.int k x) := by
  unfold rowV
  simp [List.map_map, Function.comp_def]
theorem Blk.sets (h : Blk w b t n k f) (o : Nat) (g : Nat → Int) (m : Nat) : Blk (w.setCells b o (rowV m k g).toList) b t n k (fun i => if o ≤ i ∧ i < o + m then g (i - o) else f i) := by
  rw [rowV_toList]
  refine (Blk.sets_list _ o h).congr (fun j _ => ?_)
  simp only [List.length_map, List.length_range]
  by_cases hj : o ≤ j ∧ j < o + m
  · rw [if_pos hj, if_pos hj]
    rw [List.getD_eq_getElem?_getD, List.getElem?_map, List.getElem?_range (by omega)]; rfl
  · rw [if_neg hj, if_neg hj]
end

/-- All that the earlier world had stands, but for one block. -/
structure Ups (b : Nat) (w w' : World) : Prop where
  os : w'.os = w.os
  tape : w'.tape = w.tape
  output : w'.output = w.output
  size : w.heap.size ≤ w'.heap.size
  block : ∀ k, k < w.heap.size → k ≠ b → w'.heap[k]? = w.heap[k]?
section
variable {a w w' w'' : World} {b c : Nat} {t : TypeId} {n m : Nat} {k : IntKind} {f g : Nat → Int}
theorem Ups.refl (b : Nat) (w : World) : Ups b w w := ⟨rfl, rfl, rfl, Nat.le_refl _, fun _ _ _ => rfl⟩
theorem Ups.trans (h : Ups b w w') (h' : Ups b w' w'') : Ups b w w'' :=
  ⟨h'.os.trans h.os, h'.tape.trans h.tape, h'.output.trans h.output, Nat.le_trans h.size h'.size, fun k hk hne => (h'.block k (Nat.lt_of_lt_of_le hk h.size) hne).trans (h.block k hk hne)⟩
theorem Ups.ext (h : Ext w w') : Ups b w w' := ⟨h.os, h.tape, h.output, h.size, fun k hk _ => h.block k hk⟩
theorem Ups.drew (h : Ups b w w') : Ups b w w'.drew := ⟨h.os, h.tape, h.output, h.size, h.block⟩
theorem Ups.alloc (h : Ups b w w') (o : Obj) : Ups b w (w'.alloc o) := h.trans (Ups.ext (Ext.alloc (Ext.refl _) o))
theorem Ups.setCell (h : Ups b w w') (o : Nat) (v : Value) : Ups b w (w'.setCell ⟨b, o, none⟩ v) :=
  h.trans ⟨rfl, rfl, rfl, by simp [World.setCell], fun k _ hne => Below.heap_setCell w' ⟨b, o, none⟩ v k hne⟩
theorem Ups.setCells (h : Ups b w w') (o : Nat) (vs : List Value) : Ups b w (w'.setCells b o vs) :=
  h.trans ⟨(same_setCells b vs o w').1, (same_setCells b vs o w').2.1, (same_setCells b vs o w').2.2, by rw [size_setCells]; exact Nat.le_refl _, fun k _ hne => heap_setCells b hne vs o w'⟩
/-- A block of one's own. -/
theorem Ups.own (h : Ups b w w') (hb : w.heap.size ≤ b) : Ext w w' := ⟨h.os, h.tape, h.output, h.size, fun k hk => h.block k hk (by omega)⟩
theorem Ext.ups (h : Ext a w) (h' : Ups b w w') (hb : a.heap.size ≤ b) : Ext a w' :=
  ⟨h'.os.trans h.os, h'.tape.trans h.tape, h'.output.trans h.output, Nat.le_trans h.size h'.size, fun k hk => (h'.block k (Nat.lt_of_lt_of_le hk h.size) (by omega)).trans (h.block k hk)⟩
theorem Ups.ups (h : Ups c a w) (h' : Ups b w w') (hb : a.heap.size ≤ b) : Ups c a w' :=
  ⟨h'.os.trans h.os, h'.tape.trans h.tape, h'.output.trans h.output, Nat.le_trans h.size h'.size, fun k hk hne => (h'.block k (Nat.lt_of_lt_of_le hk h.size) (by omega)).trans (h.block k hk hne)⟩
theorem Blk.ups (h : Blk w b t n k f) (h' : Ups c w w') (hne : b ≠ c) : Blk w' b t n k f := (h'.block b h.lt hne).trans h
theorem Ext.setCells (h : Ext a w) (hb : a.heap.size ≤ b) (o : Nat) (vs : List Value) : Ext a (w.setCells b o vs) := h.ups ((Ups.refl b w).setCells o vs) hb
theorem Ups.cell (h : Ups c w w') {o : Nat} {v : Value} (hc : w.cell? ⟨b, o, none⟩ = some v) (hne : b ≠ c) : w'.cell? ⟨b, o, none⟩ = some v := by
  have hl := lt_of_cell hc
  unfold World.cell? at *
  rw [h.block b hl hne]
  exact hc
end

/-! Operations on rows. -/
section
variable {P : Program} {w : World} {b o : Nat} {t : TypeId} {n m : Nat} {k : IntKind} {f : Nat → Int} {a : Act} {op : Oper} {Q : Exit → Act → World → Prop} {K : Act → World → Prop}
theorem wp_loadB (ty : TypeId) (x : Operand) (d : TypeDesc) (hu : P.underlying ty = some d) (hd : d.isRow = true) (hi : (P.info? ty).map (·.size) = some m) (ho : op.op = .load ty x)
    (hx : a.eval x = .pointer (some ⟨b, o, none⟩)) (hB : Blk w b t n k f) (hom : o + m ≤ n)
    (h : K (a.put op.dst (.agg (rowV m k (fun j => f (o + j))))) w) : op.wp P a w K Q :=
  wp_load_mid ty x ho b o hx _ d (hB.range hom) hu hd (by rw [hi, Array.length_toList, rowV_size]) h
theorem wpList_loadB {ops : Array Oper} {rest : List Oper} (ty : TypeId) (x : Operand) (d : TypeDesc) (hu : P.underlying ty = some d) (hd : d.isRow = true) (hi : (P.info? ty).map (·.size) = some m) (hg : op.guard = none) (ho : op.op = .load ty x)
    (hx : a.eval x = .pointer (some ⟨b, o, none⟩)) (hB : Blk w b t n k f) (hom : o + m ≤ n)
    (h : wpList P ops Q rest (a.put op.dst (.agg (rowV m k (fun j => f (o + j))))) w) : wpList P ops Q (op :: rest) a w :=
  wpList_load_mid hg ty x ho b o hx _ d (hB.range hom) hu hd (by rw [hi, Array.length_toList, rowV_size]) h
theorem wp_storeB (ty : TypeId) (x y : Operand) {g : Nat → Int} (hi : (P.info? ty).map (·.size) = some m) (ho : op.op = .store ty x y)
    (hx : a.eval x = .pointer (some ⟨b, o, none⟩)) (hy : a.eval y = .agg (rowV m k g)) (hB : Blk w b t n k f) (hom : o + m ≤ n)
    (h : K (a.put op.dst undef) (w.setCells b o (rowV m k g).toList)) : op.wp P a w K Q :=
  wp_store_mid ty x y ho b o _ hx hy (by rw [rowV_size]; exact hB.there hom) (by rw [hi, rowV_size]) rowV_one h
theorem wpList_storeB {ops : Array Oper} {rest : List Oper} (ty : TypeId) (x y : Operand) {g : Nat → Int} (hi : (P.info? ty).map (·.size) = some m) (hg : op.guard = none) (ho : op.op = .store ty x y)
    (hx : a.eval x = .pointer (some ⟨b, o, none⟩)) (hy : a.eval y = .agg (rowV m k g)) (hB : Blk w b t n k f) (hom : o + m ≤ n)
    (h : wpList P ops Q rest (a.put op.dst undef) (w.setCells b o (rowV m k g).toList)) : wpList P ops Q (op :: rest) a w :=
  wpList_store_mid hg ty x y ho b o _ hx hy (by rw [rowV_size]; exact hB.there hom) (by rw [hi, rowV_size]) rowV_one h
theorem guardL {ops : Array Oper} {rest : List Oper} (c : Op) (_ho : op.op = c) (h : wpList P ops Q (op :: rest) a w) : wpList P ops Q (op :: rest) a w := h
theorem OpB.mkG {ops : Array Oper} (hg : op.guard = none) (h : Oper.wp P op a w K Q) : OpB P Q ops a w K (some op) := OpB.mk' (by rw [if_pos (by unfold Region.wanted; rw [hg])]; exact h)
/-- A function whose one result lies in a block. -/
theorem ret_row {fn : Func} {R : Ending → World → Prop} {p : Tmp} (ty : TypeId) (d : TypeDesc) (hr : fn.results = #[.cell p ty]) (hp : a.tmps.getD p undef = .pointer (some ⟨b, 0, none⟩)) (hB : Blk w b t n k f)
    (hu : P.underlying ty = some d) (hd : (match d with | .struct _ | .array _ _ => true | _ => false) = true) (hi : (P.info? ty).map (·.size) = some n) (hdf : a.defers = []) (h : R (.returned (.agg (rowV n k f))) w) : bodyPost P fn R .ret a w :=
  bodyPost_ret (results_cell_row hr a.tmps w b t _ (0, 0) d hp hB hu hd (by rw [hi, rowV_size])) hdf h
end
end Go.Proofs.YtppncdbhebgcaaaGreatDoor
namespace Go.Proofs.YtppncdbhebgcaaaGreatDoor
open Go.RowKit

theorem iSet : (Tryz.prog.info? 137).map (·.size) = some 24 := by kernel_rfl
theorem zero24 : #[Value.int .u64 0, .int .u64 0, .int .u64 0, .int .u64 0, .int .u64 0, .int .u64 0, .int .u64 0, .int .u64 0, .int .u64 0, .int .u64 0, .int .u64 0, .int .u64 0, .int .u64 0, .int .u64 0, .int .u64 0, .int .u64 0, .int .u64 0, .int .u64 0, .int .u64 0, .int .u64 0, .int .u64 0, .int .u64 0, .int .u64 0, .int .u64 0] = rowV 24 .u64 (fun _ => 0) := by rfl

set_option maxRecDepth 20000 in
set_option maxHeartbeats 3200000 in
theorem or04 (f g : Nat → Int) (w : World) : Calls Tryz.prog 126 #[.agg (rowV 24 .u64 f), .agg (rowV 24 .u64 g)] w (RetE (.agg (rowV 24 .u64 (fun i => bits .or .u64 (f i) (g i)))) w) := by
  go_enter Tryz.func126, Tryz.ntmps126
  go_upto_region 1 with (fail)
  rw [zero24]
  obtain ⟨W, hW⟩ : ∃ W, W = ((w.alloc (.cells (rowV 24 .u64 f) 137)).alloc (.cells (rowV 24 .u64 g) 137)).alloc (.cells (rowV 24 .u64 (fun _ => 0)) 137) := ⟨_, rfl⟩
  have h2 : Blk W w.heap.size 137 24 .u64 f := by rw [hW]; exact ((Blk.new' rfl _ _ _ _).alloc _).alloc _
  have h3 : Blk W (w.heap.size + 1) 137 24 .u64 g := by rw [hW]; exact (Blk.new' (by simp) _ _ _ _).alloc _
  have h4 : Blk W (w.heap.size + 1 + 1) 137 24 .u64 (fun _ => 0) := by rw [hW]; exact Blk.new' (by simp) _ _ _ _
  have hE : Ext w W := by rw [hW]; exact (by repeat (first | exact Ext.refl _ | assumption | refine Ext.drewN ?_ _ | refine Ext.drew ?_ | refine Ext.alloc ?_ _))
  rw [← hW]
  have H2 := Lib.hid h2
  have H3 := Lib.hid h3
  have H4 := Lib.hid h4
  have HE := Lib.hid hE
  clear hW h2 h3 h4 hE
  go_wp2
  go_loopw [6] (fun i wr => ∃ k : Nat, k ≤ 24 ∧ i = .int .i64 k ∧ Ext w wr ∧ Blk wr w.heap.size 137 24 .u64 (fun j => if j < k then bits .or .u64 (f j) (g j) else f j) ∧ Blk wr (w.heap.size + 1) 137 24 .u64 g ∧ Blk wr (w.heap.size + 1 + 1) 137 24 .u64 (fun _ => 0)) (fun i _ => 24 - (intOf i).toNat)
  case atStart => exact ⟨0, by omega, rfl, HE.out, H2.out.congr (fun j _ => by simp), H3.out, H4.out⟩
  case round =>
    obtain ⟨k, hk, rfl, hE, h2, h3, h4⟩ := hrel
    have HE := Lib.hid hE
    have H2 := Lib.hid h2
    have H3 := Lib.hid h3
    have H4 := Lib.hid h4
    clear h2 h3 h4 hE
    by_cases hlt : k < 24
    · have c2 := H2.out.cell hlt
      have c3 := H3.out.cell hlt
      have f2 := H2.out.frozen (j := k)
      rw [if_neg (by omega)] at c2
      have hlt' : (k : Int) < 24 := by omega
      go_upto_region 4 with (fail)
      go_still_tail 8, (by kernel_rfl)
      change wpList _ _ _ _ _ wr.drew
      have c2 : wr.drew.cell? ⟨w.heap.size, k, none⟩ = _ := c2
      have c3 : wr.drew.cell? ⟨w.heap.size + 1, k, none⟩ = _ := c3
      have f2 : wr.drew.frozen? ⟨w.heap.size, k, none⟩ = false := f2
      go_upto_region 5 with (fail)
      have n2 := ((H2.out.set (o := k) (x := bits .or .u64 (f k) (g k))).drew).congr (g := fun j => if j < k + 1 then bits .or .u64 (f j) (g j) else f j) (fun j _ => by
        by_cases e : j = k
        · subst e; rw [if_pos rfl, if_pos (by omega)]
        · rw [if_neg e]
          by_cases e2 : j < k
          · rw [if_pos e2, if_pos (by omega)]
          · rw [if_neg e2, if_neg (by omega)])
      have n3 := (H3.out.set_ne (c := w.heap.size) (o := k) (v := .int .u64 (bits .or .u64 (f k) (g k))) (by omega)).drew
      have n4 := (H4.out.set_ne (c := w.heap.size) (o := k) (v := .int .u64 (bits .or .u64 (f k) (g k))) (by omega)).drew
      have nE : Ext w (wr.setCell ⟨w.heap.size, k, none⟩ (.int .u64 (bits .or .u64 (f k) (g k)))).drew := Ext.drew (Ext.setCell HE.out (Nat.le_refl _) _)
      have N2 := Lib.hid n2
      have N3 := Lib.hid n3
      have N4 := Lib.hid n4
      have NE := Lib.hid nE
      clear n2 n3 n4 nE c2 c3 f2 H2 H3 H4 HE
      go_wp2
      go_roundw
      case rel => exact ⟨k + 1, by omega, by simp, NE.out, N2.out, N3.out, N4.out⟩
      case measure => simp [intOf]; omega
    · obtain rfl : k = 24 := by omega
      go_upto_region 6 with (fail)
      refine wp_region_lit (wpList_loadB 137 _ _ Tryz.underlying137 rfl iSet rfl rfl rfl H2.out (Nat.le_refl _) ?_)
      refine wpList_storeB 137 _ _ iSet rfl rfl rfl rfl H4.out (Nat.le_refl _) ?_
      refine wpList_nil ?_
      have HF := Lib.hid (H4.out.sets 0 (fun j => if 0 + j < 24 then bits .or .u64 (f (0 + j)) (g (0 + j)) else f (0 + j)) 24)
      have HFE : Ext w _ := Ext.setCells (b := w.heap.size + 1 + 1) HE.out (by omega) 0 (rowV 24 .u64 (fun j => if 0 + j < 24 then bits .or .u64 (f (0 + j)) (g (0 + j)) else f (0 + j))).toList
      generalize World.setCells wr _ _ _ = W9 at HF HFE ⊢
      have HG := Lib.hid (HF.out.congr (g := fun i => bits .or .u64 (f i) (g i)) (fun j hj => by simp only [Nat.sub_zero, Nat.zero_add]; rw [if_pos ⟨Nat.zero_le _, hj⟩, if_pos hj]))
      have HFE := Lib.hid HFE
      go_wp2
      exact ret_row 137 _ rfl rfl HG.out Tryz.underlying137 rfl iSet rfl (RetE.fin HFE.out rfl)
set_option maxRecDepth 20000 in
set_option maxHeartbeats 3200000 in
theorem andT04 (f g : Nat → Int) (w : World) : Calls Tryz.prog 153 #[.agg (rowV 24 .u64 f), .agg (rowV 24 .u64 g), .bool true] w (RetE (.agg (rowV 24 .u64 (fun i => bits .and .u64 (f i) (g i)))) w) := by
  go_enter Tryz.func153, Tryz.ntmps153
  go_upto_region 1 with (fail)
  rw [zero24]
  obtain ⟨W, hW⟩ : ∃ W, W = ((w.alloc (.cells (rowV 24 .u64 f) 137)).alloc (.cells (rowV 24 .u64 g) 137)).alloc (.cells (rowV 24 .u64 (fun _ => 0)) 137) := ⟨_, rfl⟩
  have h2 : Blk W w.heap.size 137 24 .u64 f := by rw [hW]; exact ((Blk.new' rfl _ _ _ _).alloc _).alloc _
  have h3 : Blk W (w.heap.size + 1) 137 24 .u64 g := by rw [hW]; exact (Blk.new' (by simp) _ _ _ _).alloc _
  have h4 : Blk W (w.heap.size + 1 + 1) 137 24 .u64 (fun _ => 0) := by rw [hW]; exact Blk.new' (by simp) _ _ _ _
  have hE : Ext w W := by rw [hW]; exact (by repeat (first | exact Ext.refl _ | assumption | refine Ext.drewN ?_ _ | refine Ext.drew ?_ | refine Ext.alloc ?_ _))
  rw [← hW]
  have H2 := Lib.hid h2
  have H3 := Lib.hid h3
  have H4 := Lib.hid h4
  have HE := Lib.hid hE
  clear hW h2 h3 h4 hE
  go_wp2
  go_loopw [8] (fun i wr => ∃ k : Nat, k ≤ 24 ∧ i = .int .i64 k ∧ Ext w wr ∧ Blk wr w.heap.size 137 24 .u64 (fun j => if j < k then bits .and .u64 (f j) (g j) else f j) ∧ Blk wr (w.heap.size + 1) 137 24 .u64 g ∧ Blk wr (w.heap.size + 1 + 1) 137 24 .u64 (fun _ => 0)) (fun i _ => 24 - (intOf i).toNat)
  case atStart => exact ⟨0, by omega, rfl, HE.out, H2.out.congr (fun j _ => by simp), H3.out, H4.out⟩
  case round =>
    obtain ⟨k, hk, rfl, hE, h2, h3, h4⟩ := hrel
    have HE := Lib.hid hE
    have H2 := Lib.hid h2
    have H3 := Lib.hid h3
    have H4 := Lib.hid h4
    clear h2 h3 h4 hE
    by_cases hlt : k < 24
    · have c2 := H2.out.cell hlt
      have c3 := H3.out.cell hlt
      have f2 := H2.out.frozen (j := k)
      rw [if_neg (by omega)] at c2
      have hlt' : (k : Int) < 24 := by omega
      go_upto_region 5 with (fail)
      go_still_tail 8, (by kernel_rfl)
      change wpList _ _ _ _ _ wr.drew
      have c2 : wr.drew.cell? ⟨w.heap.size, k, none⟩ = _ := c2
      have c3 : wr.drew.cell? ⟨w.heap.size + 1, k, none⟩ = _ := c3
      have f2 : wr.drew.frozen? ⟨w.heap.size, k, none⟩ = false := f2
      go_upto_region 7 with (fail)
      have n2 := ((H2.out.set (o := k) (x := bits .and .u64 (f k) (g k))).drew).congr (g := fun j => if j < k + 1 then bits .and .u64 (f j) (g j) else f j) (fun j _ => by
        by_cases e : j = k
        · subst e; rw [if_pos rfl, if_pos (by omega)]
        · rw [if_neg e]
          by_cases e2 : j < k
          · rw [if_pos e2, if_pos (by omega)]
          · rw [if_neg e2, if_neg (by omega)])
      have n3 := (H3.out.set_ne (c := w.heap.size) (o := k) (v := .int .u64 (bits .and .u64 (f k) (g k))) (by omega)).drew
      have n4 := (H4.out.set_ne (c := w.heap.size) (o := k) (v := .int .u64 (bits .and .u64 (f k) (g k))) (by omega)).drew
      have nE : Ext w (wr.setCell ⟨w.heap.size, k, none⟩ (.int .u64 (bits .and .u64 (f k) (g k)))).drew := Ext.drew (Ext.setCell HE.out (Nat.le_refl _) _)
      have N2 := Lib.hid n2
      have N3 := Lib.hid n3
      have N4 := Lib.hid n4
      have NE := Lib.hid nE
      clear n2 n3 n4 nE c2 c3 f2 H2 H3 H4 HE
      go_wp2
      go_roundw
      case rel => exact ⟨k + 1, by omega, by simp, NE.out, N2.out, N3.out, N4.out⟩
      case measure => simp [intOf]; omega
    · obtain rfl : k = 24 := by omega
      go_upto_region 8 with (fail)
      refine wp_region_lit (wpList_loadB 137 _ _ Tryz.underlying137 rfl iSet rfl rfl rfl H2.out (Nat.le_refl _) ?_)
      refine wpList_storeB 137 _ _ iSet rfl rfl rfl rfl H4.out (Nat.le_refl _) ?_
      refine wpList_nil ?_
      have HF := Lib.hid (H4.out.sets 0 (fun j => if 0 + j < 24 then bits .and .u64 (f (0 + j)) (g (0 + j)) else f (0 + j)) 24)
      have HFE : Ext w _ := Ext.setCells (b := w.heap.size + 1 + 1) HE.out (by omega) 0 (rowV 24 .u64 (fun j => if 0 + j < 24 then bits .and .u64 (f (0 + j)) (g (0 + j)) else f (0 + j))).toList
      generalize World.setCells wr _ _ _ = W9 at HF HFE ⊢
      have HG := Lib.hid (HF.out.congr (g := fun i => bits .and .u64 (f i) (g i)) (fun j hj => by simp only [Nat.sub_zero, Nat.zero_add]; rw [if_pos ⟨Nat.zero_le _, hj⟩, if_pos hj]))
      have HFE := Lib.hid HFE
      go_wp2
      exact ret_row 137 _ rfl rfl HG.out Tryz.underlying137 rfl iSet rfl (RetE.fin HFE.out rfl)
set_option maxRecDepth 20000 in
set_option maxHeartbeats 3200000 in
theorem andF04 (f g : Nat → Int) (w : World) : Calls Tryz.prog 153 #[.agg (rowV 24 .u64 f), .agg (rowV 24 .u64 g), .bool false] w (RetE (.agg (rowV 24 .u64 (fun i => bits .andNot .u64 (f i) (g i)))) w) := by
  go_enter Tryz.func153, Tryz.ntmps153
  go_upto_region 1 with (fail)
  rw [zero24]
  obtain ⟨W, hW⟩ : ∃ W, W = ((w.alloc (.cells (rowV 24 .u64 f) 137)).alloc (.cells (rowV 24 .u64 g) 137)).alloc (.cells (rowV 24 .u64 (fun _ => 0)) 137) := ⟨_, rfl⟩
  have h2 : Blk W w.heap.size 137 24 .u64 f := by rw [hW]; exact ((Blk.new' rfl _ _ _ _).alloc _).alloc _
  have h3 : Blk W (w.heap.size + 1) 137 24 .u64 g := by rw [hW]; exact (Blk.new' (by simp) _ _ _ _).alloc _
  have h4 : Blk W (w.heap.size + 1 + 1) 137 24 .u64 (fun _ => 0) := by rw [hW]; exact Blk.new' (by simp) _ _ _ _
  have hE : Ext w W := by rw [hW]; exact (by repeat (first | exact Ext.refl _ | assumption | refine Ext.drewN ?_ _ | refine Ext.drew ?_ | refine Ext.alloc ?_ _))
  rw [← hW]
  have H2 := Lib.hid h2
  have H3 := Lib.hid h3
  have H4 := Lib.hid h4
  have HE := Lib.hid hE
  clear hW h2 h3 h4 hE
  go_wp2
  go_loopw [8] (fun i wr => ∃ k : Nat, k ≤ 24 ∧ i = .int .i64 k ∧ Ext w wr ∧ Blk wr w.heap.size 137 24 .u64 (fun j => if j < k then bits .andNot .u64 (f j) (g j) else f j) ∧ Blk wr (w.heap.size + 1) 137 24 .u64 g ∧ Blk wr (w.heap.size + 1 + 1) 137 24 .u64 (fun _ => 0)) (fun i _ => 24 - (intOf i).toNat)
  case atStart => exact ⟨0, by omega, rfl, HE.out, H2.out.congr (fun j _ => by simp), H3.out, H4.out⟩
  case round =>
    obtain ⟨k, hk, rfl, hE, h2, h3, h4⟩ := hrel
    have HE := Lib.hid hE
    have H2 := Lib.hid h2
    have H3 := Lib.hid h3
    have H4 := Lib.hid h4
    clear h2 h3 h4 hE
    by_cases hlt : k < 24
    · have c2 := H2.out.cell hlt
      have c3 := H3.out.cell hlt
      have f2 := H2.out.frozen (j := k)
      rw [if_neg (by omega)] at c2
      have hlt' : (k : Int) < 24 := by omega
      go_upto_region 6 with (fail)
      go_still_tail 8, (by kernel_rfl)
      change wpList _ _ _ _ _ wr.drew
      have c2 : wr.drew.cell? ⟨w.heap.size, k, none⟩ = _ := c2
      have c3 : wr.drew.cell? ⟨w.heap.size + 1, k, none⟩ = _ := c3
      have f2 : wr.drew.frozen? ⟨w.heap.size, k, none⟩ = false := f2
      go_upto_region 7 with (fail)
      have n2 := ((H2.out.set (o := k) (x := bits .andNot .u64 (f k) (g k))).drew).congr (g := fun j => if j < k + 1 then bits .andNot .u64 (f j) (g j) else f j) (fun j _ => by
        by_cases e : j = k
        · subst e; rw [if_pos rfl, if_pos (by omega)]
        · rw [if_neg e]
          by_cases e2 : j < k
          · rw [if_pos e2, if_pos (by omega)]
          · rw [if_neg e2, if_neg (by omega)])
      have n3 := (H3.out.set_ne (c := w.heap.size) (o := k) (v := .int .u64 (bits .andNot .u64 (f k) (g k))) (by omega)).drew
      have n4 := (H4.out.set_ne (c := w.heap.size) (o := k) (v := .int .u64 (bits .andNot .u64 (f k) (g k))) (by omega)).drew
      have nE : Ext w (wr.setCell ⟨w.heap.size, k, none⟩ (.int .u64 (bits .andNot .u64 (f k) (g k)))).drew := Ext.drew (Ext.setCell HE.out (Nat.le_refl _) _)
      have N2 := Lib.hid n2
      have N3 := Lib.hid n3
      have N4 := Lib.hid n4
      have NE := Lib.hid nE
      clear n2 n3 n4 nE c2 c3 f2 H2 H3 H4 HE
      go_wp2
      go_roundw
      case rel => exact ⟨k + 1, by omega, by simp, NE.out, N2.out, N3.out, N4.out⟩
      case measure => simp [intOf]; omega
    · obtain rfl : k = 24 := by omega
      go_upto_region 8 with (fail)
      refine wp_region_lit (wpList_loadB 137 _ _ Tryz.underlying137 rfl iSet rfl rfl rfl H2.out (Nat.le_refl _) ?_)
      refine wpList_storeB 137 _ _ iSet rfl rfl rfl rfl H4.out (Nat.le_refl _) ?_
      refine wpList_nil ?_
      have HF := Lib.hid (H4.out.sets 0 (fun j => if 0 + j < 24 then bits .andNot .u64 (f (0 + j)) (g (0 + j)) else f (0 + j)) 24)
      have HFE : Ext w _ := Ext.setCells (b := w.heap.size + 1 + 1) HE.out (by omega) 0 (rowV 24 .u64 (fun j => if 0 + j < 24 then bits .andNot .u64 (f (0 + j)) (g (0 + j)) else f (0 + j))).toList
      generalize World.setCells wr _ _ _ = W9 at HF HFE ⊢
      have HG := Lib.hid (HF.out.congr (g := fun i => bits .andNot .u64 (f i) (g i)) (fun j hj => by simp only [Nat.sub_zero, Nat.zero_add]; rw [if_pos ⟨Nat.zero_le _, hj⟩, if_pos hj]))
      have HFE := Lib.hid HFE
      go_wp2
      exact ret_row 137 _ rfl rfl HG.out Tryz.underlying137 rfl iSet rfl (RetE.fin HFE.out rfl)
end Go.Proofs.YtppncdbhebgcaaaGreatDoor
namespace Go.Proofs.YtppncdbhebgcaaaGreatDoor
open Go.RowKit

def wd (S i : Nat) : Nat := (S >>> (64 * i)) % 2 ^ 64
theorem testBit_wd {S i k : Nat} : (wd S i).testBit k = (decide (k < 64) && S.testBit (64 * i + k)) := by
  unfold wd
  rw [Nat.testBit_mod_two_pow, Nat.testBit_shiftRight]
theorem wd_lt {S i : Nat} : wd S i < 18446744073709551616 := Nat.mod_lt _ (by decide)
theorem wd_or {S T i : Nat} : wd (S ||| T) i = wd S i ||| wd T i := by
  apply Nat.eq_of_testBit_eq
  intro k
  rw [Nat.testBit_or, testBit_wd, testBit_wd, testBit_wd, Nat.testBit_or]
  cases decide (k < 64) <;> simp
theorem wd_and {S T i : Nat} : wd (S &&& T) i = wd S i &&& wd T i := by
  apply Nat.eq_of_testBit_eq
  intro k
  rw [Nat.testBit_and, testBit_wd, testBit_wd, testBit_wd, Nat.testBit_and]
  cases decide (k < 64) <;> simp
theorem wd_andNot {S T i : Nat} : wd (andNot S T) i = wd S i &&& (18446744073709551615 - wd T i) := by
  apply Nat.eq_of_testBit_eq
  intro k
  have h : 18446744073709551615 - wd T i = 2 ^ 64 - (wd T i + 1) := by have := @wd_lt T i; omega
  rw [h, Nat.testBit_and, Nat.testBit_two_pow_sub_succ (by have := @wd_lt T i; omega), testBit_wd, testBit_wd, testBit_wd, testBit_andNot]
  cases decide (k < 64) <;> simp
theorem wd_zero {i : Nat} : wd 0 i = 0 := by
  apply Nat.eq_of_testBit_eq
  intro k
  rw [testBit_wd]; simp

def setF (S : Nat) : Nat → Int := fun i => (wd S i : Nat)
def setV (S : Nat) : Value := .agg (rowV 24 .u64 (setF S))

theorem orS04 (S T : Nat) (w : World) : Calls Tryz.prog 126 #[setV S, setV T] w (RetE (setV (S ||| T)) w) := by
  have h : setV (S ||| T) = .agg (rowV 24 .u64 (fun i => bits .or .u64 (setF S i) (setF T i))) := by
    unfold setV
    rw [rowV_congr (fun j _ => ?_)]
    unfold setF
    rw [u64_or_nat _ _ wd_lt wd_lt, wd_or]
  rw [h]
  exact or04 _ _ w
theorem andTS04 (S T : Nat) (w : World) : Calls Tryz.prog 153 #[setV S, setV T, .bool true] w (RetE (setV (S &&& T)) w) := by
  have h : setV (S &&& T) = .agg (rowV 24 .u64 (fun i => bits .and .u64 (setF S i) (setF T i))) := by
    unfold setV
    rw [rowV_congr (fun j _ => ?_)]
    unfold setF
    rw [u64_and_nat _ _ wd_lt wd_lt, wd_and]
  rw [h]
  exact andT04 _ _ w
theorem andFS04 (S T : Nat) (w : World) : Calls Tryz.prog 153 #[setV S, setV T, .bool false] w (RetE (setV (andNot S T)) w) := by
  have h : setV (andNot S T) = .agg (rowV 24 .u64 (fun i => bits .andNot .u64 (setF S i) (setF T i))) := by
    unfold setV
    rw [rowV_congr (fun j _ => ?_)]
    unfold setF
    rw [u64_andNot_nat _ _ wd_lt wd_lt, wd_andNot]
  rw [h]
  exact andF04 _ _ w

/-- A word of the numbers that are greater by n. -/
theorem wd_up {S n i : Nat} (hi : i < 24) (hw : n / 64 ≤ i) :
    wd (upN S n) i = (wd S (i - n / 64) * 2 ^ (n % 64)) % 18446744073709551616 ||| (if n / 64 < i ∧ 0 < n % 64 then wd S (i - n / 64 - 1) / 2 ^ (64 - n % 64) else 0) := by
  apply Nat.eq_of_testBit_eq
  intro k
  have e : (wd S (i - n / 64) * 2 ^ (n % 64)) % 18446744073709551616 = (wd S (i - n / 64) <<< (n % 64)) % 2 ^ 64 := by rw [Nat.shiftLeft_eq]
  rw [e, Nat.testBit_or, testBit_wd, testBit_upN, Nat.testBit_mod_two_pow, Nat.testBit_shiftLeft, testBit_wd]
  by_cases hk : k < 64
  · have e1 : (decide (k < 64)) = true := decide_eq_true hk
    have e2 : decide (64 * i + k < 1536) = true := decide_eq_true (by omega)
    rw [e1, e2]
    simp only [Bool.true_and]
    by_cases hr : n % 64 ≤ k
    · have e3 : decide (n ≤ 64 * i + k) = true := decide_eq_true (by omega)
      have e4 : decide (k - n % 64 < 64) = true := decide_eq_true (by omega)
      have e5 : decide (k ≥ n % 64) = true := decide_eq_true hr
      rw [e3, e4, e5, show 64 * (i - n / 64) + (k - n % 64) = 64 * i + k - n by omega]
      simp only [Bool.true_and]
      split
      · rename_i hc
        have : (wd S (i - n / 64 - 1) / 2 ^ (64 - n % 64)).testBit k = false := by
          rw [← Nat.shiftRight_eq_div_pow, Nat.testBit_shiftRight, testBit_wd]
          have : decide (64 - n % 64 + k < 64) = false := decide_eq_false (by omega)
          rw [this, Bool.false_and]
        rw [this, Bool.or_false]
      · rw [Nat.zero_testBit, Bool.or_false]
    · have e5 : decide (k ≥ n % 64) = false := decide_eq_false (by omega)
      rw [e5]
      simp only [Bool.false_and, Bool.false_or]
      by_cases hc : n / 64 < i
      · rw [if_pos ⟨hc, by omega⟩, ← Nat.shiftRight_eq_div_pow, Nat.testBit_shiftRight, testBit_wd]
        have e3 : decide (n ≤ 64 * i + k) = true := decide_eq_true (by omega)
        have e6 : decide (64 - n % 64 + k < 64) = true := decide_eq_true (by omega)
        rw [e3, e6, show 64 * (i - n / 64 - 1) + (64 - n % 64 + k) = 64 * i + k - n by omega]
      · rw [if_neg (by omega), Nat.zero_testBit]
        have e3 : decide (n ≤ 64 * i + k) = false := decide_eq_false (by omega)
        rw [e3, Bool.false_and]
  · have e1 : (decide (k < 64)) = false := decide_eq_false hk
    rw [e1]
    simp only [Bool.false_and, Bool.false_or]
    split
    · rw [← Nat.shiftRight_eq_div_pow, Nat.testBit_shiftRight, testBit_wd]
      have : decide (64 - n % 64 + k < 64) = false := decide_eq_false (by omega)
      rw [this, Bool.false_and]
    · rw [Nat.zero_testBit]
theorem wd_up_low {S n i : Nat} (hi : i < n / 64) : wd (upN S n) i = 0 := by
  apply Nat.eq_of_testBit_eq
  intro k
  rw [testBit_wd, testBit_upN, Nat.zero_testBit]
  by_cases hk : k < 64
  · have e3 : decide (n ≤ 64 * i + k) = false := decide_eq_false (by omega)
    rw [e3]; simp
  · rw [decide_eq_false hk, Bool.false_and]
end Go.Proofs.YtppncdbhebgcaaaGreatDoor
namespace Go.Proofs.YtppncdbhebgcaaaGreatDoor
open Go.RowKit

set_option maxRecDepth 20000 in
set_option maxHeartbeats 3200000 in
theorem up04 (S n : Nat) (hn : n < 100000) (w : World) : Calls Tryz.prog 173 #[setV S, .int .i64 n] w (RetE (setV (upN S n)) w) := by
  unfold setV
  go_enter Tryz.func173, Tryz.ntmps173
  go_upto_region 1 with (fail)
  rw [zero24]
  obtain ⟨W, hW⟩ : ∃ W, W = (w.alloc (.cells (rowV 24 .u64 (setF S)) 137)).alloc (.cells (rowV 24 .u64 (fun _ => 0)) 137) := ⟨_, rfl⟩
  have h2 : Blk W w.heap.size 137 24 .u64 (setF S) := by rw [hW]; exact (Blk.new' rfl _ _ _ _).alloc _
  have h4 : Blk W (w.heap.size + 1) 137 24 .u64 (fun _ => 0) := by rw [hW]; exact Blk.new' (by simp) _ _ _ _
  have hE : Ext w W := by rw [hW]; exact (by repeat (first | exact Ext.refl _ | assumption | refine Ext.drewN ?_ _ | refine Ext.drew ?_ | refine Ext.alloc ?_ _))
  rw [← hW]
  have H2 := Lib.hid h2
  have H4 := Lib.hid h4
  have HE := Lib.hid hE
  clear hW h2 h4 hE
  go_upto_region 2 with (fail)
  have hq : (n : Int) / 64 = ((n / 64 : Nat) : Int) := by omega
  have hr : (n : Int) % 64 = ((n % 64 : Nat) : Int) := by omega
  rw [hq, hr]
  have hr64 : n % 64 < 64 := Nat.mod_lt _ (by decide)
  obtain ⟨q, hq2⟩ : ∃ q, q = n / 64 := ⟨_, rfl⟩
  obtain ⟨r, hr2⟩ : ∃ r, r = n % 64 := ⟨_, rfl⟩
  rw [← hr2] at hr64
  rw [← hq2, ← hr2]
  have HQ := Lib.hid hq2
  have HR := Lib.hid hr2
  clear hq hr hq2 hr2
  go_wp2
  go_loopw [7] (fun i wr => ∃ k : Nat, k ≤ 24 ∧ i = .int .i64 ((k : Int) - 1) ∧ Ext w wr ∧ Blk wr w.heap.size 137 24 .u64 (setF S) ∧ Blk wr (w.heap.size + 1) 137 24 .u64 (fun j => if k ≤ j then setF (upN S n) j else 0)) (fun i _ => (intOf i + 1).toNat)
  case atStart => exact ⟨24, by omega, rfl, HE.out, H2.out, H4.out.congr (fun j hj => by rw [if_neg (by omega)])⟩
  case round =>
    obtain ⟨k, hk, rfl, hE, h2, h4⟩ := hrel
    have HE := Lib.hid hE
    have H2 := Lib.hid h2
    have H4 := Lib.hid h4
    clear h2 h4 hE
    by_cases hlt : q + 1 ≤ k
    · obtain ⟨i, rfl⟩ : ∃ i, k = i + 1 := ⟨k - 1, by omega⟩
      obtain ⟨d, hd⟩ : ∃ d, i = q + d := ⟨i - q, by omega⟩
      have e1 : ((i + 1 : Nat) : Int) - 1 = (i : Int) := by omega
      rw [e1]
      have s1 : (i : Int) - (q : Int) = (d : Int) := by omega
      have c2 := H2.out.cell (j := d) (by omega)
      have c4 := H4.out.cell (j := i) (by omega)
      have f4 := H4.out.frozen (j := i)
      rw [if_neg (by omega)] at c4
      have hge : (i : Int) ≥ (q : Int) := by omega
      have hdl : i < 24 := by omega
      have hdd : d < 24 := by omega
      have HI := Lib.hid hd
      clear hd e1
      go_upto_region 6 with (fail)
      have hsh : IntKind.u64.wrap (setF S d * 2 ^ r) = ((wd S d * 2 ^ r % 18446744073709551616 : Nat) : Int) := by
        rw [IntKind.wrap_u64]
        unfold setF
        simp
      rw [hsh]
      obtain ⟨x1, hx1⟩ : ∃ x1 : Int, x1 = ((wd S d * 2 ^ r % 18446744073709551616 : Nat) : Int) := ⟨_, rfl⟩
      rw [← hx1]
      obtain ⟨W2, hW2⟩ : ∃ W2, W2 = wr.setCell ⟨w.heap.size + 1, i, none⟩ (.int .u64 x1) := ⟨_, rfl⟩
      have n2 : Blk W2 w.heap.size 137 24 .u64 (setF S) := by rw [hW2]; exact H2.out.set_ne (by omega)
      have n4 : Blk W2 (w.heap.size + 1) 137 24 .u64 (fun j => if j = i then x1 else if i + 1 ≤ j then setF (upN S n) j else 0) := by rw [hW2]; exact H4.out.set
      have nE : Ext w W2 := by rw [hW2]; exact Ext.setCell HE.out (by simp) _
      have hup := wd_up (S := S) (n := n) (i := i) hdl (by rw [← HQ.out]; omega)
      rw [← HQ.out, ← HR.out, show i - q = d by have := HI.out; omega] at hup
      rw [← hW2]
      have H2 := Lib.hid n2
      have H4 := Lib.hid n4
      have HE := Lib.hid nE
      have HUP := Lib.hid hup
      have HX := Lib.hid hx1
      clear hW2 n2 n4 nE c2 c4 f4 hsh hup hx1
      by_cases hc : 0 < d ∧ 0 < r
      · obtain ⟨e, he⟩ : ∃ e, d = e + 1 := ⟨d - 1, by omega⟩
        have g1 : decide ((q : Int) < (i : Int)) = true := decide_eq_true (by have := HI.out; omega)
        have g1' : decide (q < i) = true := decide_eq_true (by have := HI.out; omega)
        have g2 : decide (0 < r) = true := decide_eq_true hc.2
        have g3 : decide ((0 : Int) < (r : Int)) = true := decide_eq_true (by omega)
        have s2 : (d : Int) - 1 = (e : Int) := by omega
        have hee : (e : Int) < 24 := by omega
        have hii : (i : Int) < 24 := by omega
        have w1 : IntKind.i64.wrap (d : Int) = (d : Int) := by simp [IntKind.wrap, IntKind.bits, IntKind.signed]; omega
        have w2 : IntKind.i64.wrap (e : Int) = (e : Int) := by simp [IntKind.wrap, IntKind.bits, IntKind.signed]; omega
        have HEE := Lib.hid he
        have c2 := H2.out.cell (j := e) (by omega)
        have c4 := H4.out.cell (j := i) (by omega)
        have f4 := H4.out.frozen (j := i)
        rw [if_pos rfl] at c4
        clear he
        go_upto_region 7 with (fail)
        go_still_tail 14, (by kernel_rfl)
        change wpList _ _ _ _ _ W2.drew
        have c2 : W2.drew.cell? ⟨w.heap.size, e, none⟩ = _ := c2
        have c4 : W2.drew.cell? ⟨w.heap.size + 1, i, none⟩ = _ := c4
        have f4 : W2.drew.frozen? ⟨w.heap.size + 1, i, none⟩ = false := f4
        go_upto_region 4 with (fail)
        have hv : bits .or .u64 x1 (setF S e / 2 ^ min (64 - r) 64) = setF (upN S n) i := by
          have h1 : setF S e / 2 ^ min (64 - r) 64 = ((wd S e / 2 ^ (64 - r) : Nat) : Int) := by
            rw [show min (64 - r) 64 = 64 - r by omega]
            unfold setF
            simp
          have h2 : wd S e / 2 ^ (64 - r) < 18446744073709551616 := Nat.lt_of_le_of_lt (Nat.div_le_self _ _) wd_lt
          rw [h1, HX.out, u64_or_nat _ _ (Nat.mod_lt _ (by decide)) h2]
          have h3 := HUP.out
          rw [if_pos ⟨by have := HI.out; omega, hc.2⟩, show d - 1 = e by have := HEE.out; omega] at h3
          unfold setF
          rw [h3]
        rw [hv]
        have n2 := (H2.out.set_ne (c := w.heap.size + 1) (o := i) (v := .int .u64 (setF (upN S n) i)) (by omega)).drew
        have n4 := ((H4.out.set (o := i) (x := setF (upN S n) i)).drew).congr (g := fun j => if i ≤ j then setF (upN S n) j else 0) (fun j _ => by
          by_cases e : j = i
          · subst e; rw [if_pos rfl, if_pos (Nat.le_refl _)]
          · rw [if_neg e, if_neg e]
            by_cases e2 : i + 1 ≤ j
            · rw [if_pos e2, if_pos (by omega)]
            · rw [if_neg e2, if_neg (by omega)])
        have nE : Ext w (W2.setCell ⟨w.heap.size + 1, i, none⟩ (.int .u64 (setF (upN S n) i))).drew := Ext.drew (Ext.setCell HE.out (by simp) _)
        have N2 := Lib.hid n2
        have N4 := Lib.hid n4
        have NE := Lib.hid nE
        clear n2 n4 nE c2 c4 f4 hv H2 H4 HE
        go_wp2
        go_roundw
        case rel => exact ⟨i, by omega, rfl, NE.out, N2.out, N4.out⟩
        case measure => simp [intOf]
      · have hx : x1 = setF (upN S n) i := by
          have h3 := HUP.out
          have hI := HI.out
          rw [if_neg (by omega), Nat.or_zero] at h3
          rw [HX.out]
          unfold setF
          rw [h3]
        have n4 := H4.out.congr (g := fun j => if i ≤ j then setF (upN S n) j else 0) (fun j _ => by
          by_cases e : j = i
          · subst e; rw [if_pos rfl, if_pos (Nat.le_refl _), hx]
          · rw [if_neg e]
            by_cases e2 : i + 1 ≤ j
            · rw [if_pos e2, if_pos (by omega)]
            · rw [if_neg e2, if_neg (by omega)])
        have N4 := Lib.hid n4
        have N2 := H2
        have NE := HE
        clear n4 hx H4
        by_cases hd0 : d = 0
        · have g1 : decide ((q : Int) < (i : Int)) = false := decide_eq_false (by have := HI.out; omega)
          have g1' : decide (q < i) = false := decide_eq_false (by have := HI.out; omega)
          clear hc hd0 s1
          go_wp2
          go_roundw
          case rel => exact ⟨i, by omega, rfl, NE.out, N2.out, N4.out⟩
          case measure => simp [intOf]
        · have g1 : decide ((q : Int) < (i : Int)) = true := decide_eq_true (by have := HI.out; omega)
          have g1' : decide (q < i) = true := decide_eq_true (by have := HI.out; omega)
          have hr0 : r = 0 := by omega
          have g2 : decide (0 < r) = false := decide_eq_false (by omega)
          have g3 : decide ((0 : Int) < (r : Int)) = false := decide_eq_false (by omega)
          clear hc hd0 s1 hr0
          go_wp2
          go_roundw
          case rel => exact ⟨i, by omega, rfl, NE.out, N2.out, N4.out⟩
          case measure => simp [intOf]
    · obtain ⟨z, hz⟩ : ∃ z : Int, z = (k : Int) - 1 := ⟨_, rfl⟩
      rw [← hz]
      have g1 : decide ((q : Int) ≤ z) = false := decide_eq_false (by omega)
      have HZ := Lib.hid hz
      have HL := Lib.hid hlt
      clear hz hlt
      go_upto_region 8 with (fail)
      refine wp_region_lit (wpList_loadB 137 _ _ Tryz.underlying137 rfl iSet rfl rfl rfl H4.out (Nat.le_refl _) ?_)
      refine wpList_storeB 137 _ _ iSet rfl rfl rfl rfl H4.out (Nat.le_refl _) ?_
      refine wpList_nil ?_
      have HF := Lib.hid (H4.out.sets 0 (fun j => if k ≤ 0 + j then setF (upN S n) (0 + j) else 0) 24)
      have HFE : Ext w _ := Ext.setCells (b := w.heap.size + 1) HE.out (by omega) 0 (rowV 24 .u64 (fun j => if k ≤ 0 + j then setF (upN S n) (0 + j) else 0)).toList
      generalize World.setCells wr _ _ _ = W9 at HF HFE ⊢
      have HG := Lib.hid (HF.out.congr (g := setF (upN S n)) (fun j hj => by
        simp only [Nat.sub_zero, Nat.zero_add]
        rw [if_pos ⟨Nat.zero_le _, hj⟩]
        by_cases e : k ≤ j
        · rw [if_pos e]
        · rw [if_neg e]
          unfold setF
          rw [wd_up_low (by have := HQ.out; have := HL.out; omega)]; rfl))
      have HFE := Lib.hid HFE
      go_wp2
      exact ret_row 137 _ rfl rfl HG.out Tryz.underlying137 rfl iSet rfl (RetE.fin HFE.out rfl)
end Go.Proofs.YtppncdbhebgcaaaGreatDoor
namespace Go.Proofs.YtppncdbhebgcaaaGreatDoor
open Go.RowKit

set_option maxRecDepth 20000 in
set_option maxHeartbeats 3200000 in
theorem put04 (w : World) (b : Nat) (t : TypeId) (N : Nat) (f : Nat → Int) (o n : Nat) (hB : Blk w b t N .u64 f) (ho : o + 24 ≤ N) (hn : n < 1536) :
    Calls Tryz.prog 147 #[.pointer (some ⟨b, o, none⟩), .int .i64 n] w (fun e w' => e = .returned (.tuple #[]) ∧ Ups b w w' ∧ Blk w' b t N .u64 (fun j => if j = o + n / 64 then bits .or .u64 (f j) ((2 ^ (n % 64) : Nat) : Int) else f j)) := by
  obtain ⟨q, hq⟩ : ∃ q, q = n / 64 := ⟨_, rfl⟩
  obtain ⟨r, hr⟩ : ∃ r, r = n % 64 := ⟨_, rfl⟩
  have c2 := hB.cell (j := o + q) (by omega)
  have f2 := hB.frozen (j := o + q)
  have HB := Lib.hid hB
  have q1 : (n : Int) / 64 = (q : Int) := by omega
  have r1 : (n : Int) % 64 = (r : Int) := by omega
  have r4 : (n : Int).tmod 64 = (r : Int) := by rw [Int.tmod_eq_emod_of_nonneg (by omega), r1]
  have r5 : (0 : Int) ≤ (r : Int) := by omega
  have q2 : (q : Int) < 24 := by omega
  have r2 : (r : Int) < 64 := by omega
  have r3 : r < 64 := by omega
  have w1 : IntKind.i64.wrap (q : Int) = (q : Int) := by simp [IntKind.wrap, IntKind.bits, IntKind.signed]; omega
  have w2 : IntKind.i64.wrap (r : Int) = (r : Int) := by simp [IntKind.wrap, IntKind.bits, IntKind.signed]; omega
  rw [← hq, ← hr]
  clear hB hq hr
  go_enter Tryz.func147, Tryz.ntmps147
  go_still_tail 12, (by kernel_rfl)
  change wpList _ _ _ _ _ w.drew
  have c2 : w.drew.cell? ⟨b, o + q, none⟩ = _ := c2
  have f2 : w.drew.frozen? ⟨b, o + q, none⟩ = false := f2
  go_wp2
  have hw : IntKind.u64.wrap (2 ^ r) = ((2 ^ r : Nat) : Int) := by
    have h1 : 2 ^ r < 2 ^ 64 := Nat.pow_lt_pow_right (by decide) r3
    have h2 : ((2 : Int) ^ r) = ((2 ^ r : Nat) : Int) := by simp
    rw [IntKind.wrap_u64, h2]
    generalize 2 ^ r = p at h1 ⊢
    have h3 : p < 18446744073709551616 := h1
    omega
  rw [hw]
  go_end0
  refine ⟨rfl, ((Ups.refl b w).setCell _ _).drew, ?_⟩
  refine ((HB.out.set (o := o + q) (x := bits .or .u64 (f (o + q)) ((2 ^ r : Nat) : Int))).drew).congr (fun j _ => ?_)
  by_cases e : j = o + q
  · subst e; rw [if_pos rfl]
  · rw [if_neg e]; simp [e]
end Go.Proofs.YtppncdbhebgcaaaGreatDoor
namespace Go.Proofs.YtppncdbhebgcaaaGreatDoor
open Go.RowKit

/-- How many of the first n bits are set. -/
def cnt (n x : Nat) : Nat := (List.range n).countP x.testBit
theorem cnt_add (a b x : Nat) : cnt (a + b) x = cnt a x + cnt b (x / 2 ^ a) := by
  unfold cnt
  rw [List.range_add, List.countP_append, List.countP_map]
  congr 1
  refine List.countP_congr fun i _ => ?_
  rw [← Nat.shiftRight_eq_div_pow, Nat.testBit_shiftRight]
  rfl
theorem cnt_mod (a x : Nat) : cnt a (x % 2 ^ a) = cnt a x := by
  unfold cnt
  refine List.countP_congr fun i hi => ?_
  rw [Nat.testBit_mod_two_pow]
  simp [List.mem_range.1 hi]

/-- masks of so many bytes -/
def mk (c : Nat) : Nat → Nat
  | 0 => 0
  | n + 1 => c + 256 * mk c n
theorem and256 (a b c d : Nat) (ha : a < 256) (hc : c < 256) : (a + 256 * b) &&& (c + 256 * d) = (a &&& c) + 256 * (b &&& d) := by
  have e1 : a + 256 * b = 2 ^ 8 * b + a := by omega
  have e2 : c + 256 * d = 2 ^ 8 * d + c := by omega
  have e3 : (a &&& c) + 256 * (b &&& d) = 2 ^ 8 * (b &&& d) + (a &&& c) := by omega
  have h3 : a &&& c < 2 ^ 8 := Nat.and_lt_two_pow _ (by omega)
  apply Nat.eq_of_testBit_eq
  intro i
  rw [e1, e2, e3, Nat.testBit_and, Nat.testBit_two_pow_mul_add _ (by omega), Nat.testBit_two_pow_mul_add _ (by omega), Nat.testBit_two_pow_mul_add _ h3]
  split
  · rw [Nat.testBit_and]
  · rw [Nat.testBit_and]

def s1 (n x : Nat) : Nat := (x / 2 &&& mk 85 n) + (x &&& mk 85 n)
def s2 (n x : Nat) : Nat := (x / 4 &&& mk 51 n) + (x &&& mk 51 n)
def s3 (n x : Nat) : Nat := (x / 16 + x) &&& mk 15 n
theorem b1 : ∀ b, b < 256 → ∀ y, y < 2 → (b / 2 + 128 * y) &&& 85 = (b / 2 &&& 85) := by decide +kernel
theorem b2 : ∀ b, b < 256 → ∀ y, y < 4 → (b / 4 + 64 * y) &&& 51 = (b / 4 &&& 51) := by decide +kernel
theorem s1_step (n b y : Nat) (hb : b < 256) : s1 (n + 1) (b + 256 * y) = ((b / 2 &&& 85) + (b &&& 85)) + 256 * s1 n y := by
  unfold s1
  rw [show (b + 256 * y) / 2 = (b / 2 + 128 * (y % 2)) + 256 * (y / 2) by omega, mk, and256 _ _ _ _ (by omega) (by omega), and256 _ _ _ _ hb (by omega), b1 b hb _ (Nat.mod_lt _ (by decide))]
  omega
theorem s2_step (n b y : Nat) (hb : b < 256) : s2 (n + 1) (b + 256 * y) = ((b / 4 &&& 51) + (b &&& 51)) + 256 * s2 n y := by
  unfold s2
  rw [show (b + 256 * y) / 4 = (b / 4 + 64 * (y % 4)) + 256 * (y / 4) by omega, mk, and256 _ _ _ _ (by omega) (by omega), and256 _ _ _ _ hb (by omega), b2 b hb _ (Nat.mod_lt _ (by decide))]
  omega
theorem b3 : ∀ b, b < 256 → b % 16 ≤ 4 → b / 16 ≤ 4 → ∀ y, y ≤ 4 → (b / 16 + 16 * y + b) &&& 15 = ((b / 16 + b) &&& 15) ∧ b / 16 + 16 * y + b < 256 := by decide +kernel
theorem s3_step (n b y : Nat) (hb : b < 256) (h1 : b % 16 ≤ 4) (h2 : b / 16 ≤ 4) (h3 : y % 16 ≤ 4) : s3 (n + 1) (b + 256 * y) = ((b / 16 + b) &&& 15) + 256 * s3 n y := by
  obtain ⟨e1, e2⟩ := b3 b hb h1 h2 (y % 16) h3
  unfold s3
  rw [show (b + 256 * y) / 16 + (b + 256 * y) = (b / 16 + 16 * (y % 16) + b) + 256 * (y / 16 + y) by omega, mk, and256 _ _ _ _ e2 (by omega), e1]
theorem b4 : ∀ b, b < 256 → let c := (b / 2 &&& 85) + (b &&& 85); let d := (c / 4 &&& 51) + (c &&& 51); c < 256 ∧ d < 256 ∧ d % 16 ≤ 4 ∧ d / 16 ≤ 4 ∧ ((d / 16 + d) &&& 15) = cnt 8 b := by decide +kernel

/-- the sum of the counts of the bytes, a byte each -/
def byS : Nat → Nat → Nat
  | 0, _ => 0
  | n + 1, x => cnt 8 (x % 256) + 256 * byS n (x / 256)
theorem byS_law : ∀ n x, x < 256 ^ n → s3 n (s2 n (s1 n x)) = byS n x ∧ (n ≠ 0 → s2 n (s1 n x) % 16 ≤ 4) := by
  intro n
  induction n with
  | zero => intro x _; exact ⟨by simp [s3, mk, byS], fun h => absurd rfl h⟩
  | succ n ih =>
    intro x hx
    have hy : x / 256 < 256 ^ n := by
      rw [Nat.pow_succ] at hx
      exact (Nat.div_lt_iff_lt_mul (by decide)).2 hx
    obtain ⟨h1, h2⟩ := ih (x / 256) hy
    have hb : x % 256 < 256 := Nat.mod_lt _ (by decide)
    obtain ⟨c1, c2, c3, c4, c5⟩ := b4 (x % 256) hb
    have ex : x = x % 256 + 256 * (x / 256) := by omega
    generalize x % 256 = b at *
    generalize x / 256 = y at *
    subst ex
    rw [s1_step n b y hb, s2_step n _ _ c1]
    have h4 : s2 n (s1 n y) % 16 ≤ 4 := by
      cases n with
      | zero => simp [s2, mk]
      | succ n => exact h2 (by omega)
    refine ⟨?_, fun _ => by omega⟩
    rw [s3_step n _ _ c2 c3 c4 h4, c5, h1, byS, show (b + 256 * y) % 256 = b by omega, show (b + 256 * y) / 256 = y by omega]

theorem cnt8_le : ∀ b, b < 256 → cnt 8 b ≤ 8 := by decide +kernel
theorem mk_85 : mk 85 8 = 6148914691236517205 := by decide
theorem mk_51 : mk 51 8 = 3689348814741910323 := by decide
theorem mk_15 : mk 15 8 = 1085102592571150095 := by decide

theorem cnt_bytes (x : Nat) : cnt 64 x = cnt 8 (x % 256) + cnt 8 (x / 256 % 256) + cnt 8 (x / 256 / 256 % 256) + cnt 8 (x / 256 / 256 / 256 % 256) + cnt 8 (x / 256 / 256 / 256 / 256 % 256) + cnt 8 (x / 256 / 256 / 256 / 256 / 256 % 256) + cnt 8 (x / 256 / 256 / 256 / 256 / 256 / 256 % 256) + cnt 8 (x / 256 / 256 / 256 / 256 / 256 / 256 / 256 % 256) := by
  have m := fun y => cnt_mod 8 y
  simp only [Nat.reducePow] at m
  have a := fun n y => cnt_add 8 n y
  simp only [Nat.reducePow] at a
  rw [show 64 = 8 + 56 from rfl, a, show 56 = 8 + 48 from rfl, a, show 48 = 8 + 40 from rfl, a, show 40 = 8 + 32 from rfl, a, show 32 = 8 + 24 from rfl, a, show 24 = 8 + 16 from rfl, a, show 16 = 8 + 8 from rfl, a]
  simp only [m]
  omega
theorem div_cut {c : Nat} (x y : Nat) (h : x < c) : (x + c * y) / c = y := by rw [Nat.add_mul_div_left _ _ (by omega), Nat.div_eq_of_lt h, Nat.zero_add]
theorem la_z (a0 a1 a2 a3 a4 a5 a6 a7 : Nat) : a0 + 256 * (a1 + 256 * (a2 + 256 * (a3 + 256 * (a4 + 256 * (a5 + 256 * (a6 + 256 * a7)))))) = a0 + 256 * (a1 + 256 * a2 + 65536 * a3 + 16777216 * a4 + 4294967296 * a5 + 1099511627776 * a6 + 281474976710656 * a7) := by omega
theorem la_p (a0 a1 a2 a3 a4 a5 a6 a7 : Nat) : a0 + 256 * (a1 + 256 * a2 + 65536 * a3 + 16777216 * a4 + 4294967296 * a5 + 1099511627776 * a6 + 281474976710656 * a7) + (a1 + 256 * a2 + 65536 * a3 + 16777216 * a4 + 4294967296 * a5 + 1099511627776 * a6 + 281474976710656 * a7)
    = (a0 + a1 + 256 * (a1 + a2)) + 65536 * ((a2 + a3) + 256 * (a3 + a4) + 65536 * (a4 + a5) + 16777216 * (a5 + a6) + 4294967296 * (a6 + a7) + 1099511627776 * a7) := by omega
theorem la_q (a0 a1 a2 a3 a4 a5 a6 a7 : Nat) : (a0 + a1 + 256 * (a1 + a2)) + 65536 * ((a2 + a3) + 256 * (a3 + a4) + 65536 * (a4 + a5) + 16777216 * (a5 + a6) + 4294967296 * (a6 + a7) + 1099511627776 * a7) + ((a2 + a3) + 256 * (a3 + a4) + 65536 * (a4 + a5) + 16777216 * (a5 + a6) + 4294967296 * (a6 + a7) + 1099511627776 * a7)
    = (a0 + a1 + a2 + a3 + 256 * (a1 + a2 + a3 + a4) + 65536 * (a2 + a3 + a4 + a5) + 16777216 * (a3 + a4 + a5 + a6)) + 4294967296 * ((a4 + a5 + a6 + a7) + 256 * (a5 + a6 + a7) + 65536 * (a6 + a7) + 16777216 * a7) := by omega
theorem la_r (a0 a1 a2 a3 a4 a5 a6 a7 : Nat) : (a0 + a1 + a2 + a3 + 256 * (a1 + a2 + a3 + a4) + 65536 * (a2 + a3 + a4 + a5) + 16777216 * (a3 + a4 + a5 + a6)) + 4294967296 * ((a4 + a5 + a6 + a7) + 256 * (a5 + a6 + a7) + 65536 * (a6 + a7) + 16777216 * a7) + ((a4 + a5 + a6 + a7) + 256 * (a5 + a6 + a7) + 65536 * (a6 + a7) + 16777216 * a7)
    = (a0 + a1 + a2 + a3 + a4 + a5 + a6 + a7) + 128 * (2 * (a1 + a2 + a3 + a4 + a5 + a6 + a7) + 512 * (a2 + a3 + a4 + a5 + a6 + a7) + 131072 * (a3 + a4 + a5 + a6 + a7) + 33554432 * ((a4 + a5 + a6 + a7) + 256 * (a5 + a6 + a7) + 65536 * (a6 + a7) + 16777216 * a7)) := by omega
theorem la_lt (a0 a1 a2 a3 a4 a5 a6 a7 : Nat) (h0 : a0 ≤ 8) (h1 : a1 ≤ 8) (h2 : a2 ≤ 8) (h3 : a3 ≤ 8) (h4 : a4 ≤ 8) (h5 : a5 ≤ 8) (h6 : a6 ≤ 8) (h7 : a7 ≤ 8) : a0 + 256 * (a1 + 256 * (a2 + 256 * (a3 + 256 * (a4 + 256 * (a5 + 256 * (a6 + 256 * a7)))))) < 1152921504606846976 := by omega
theorem last_arith (a0 a1 a2 a3 a4 a5 a6 a7 z p q r : Nat) (h0 : a0 ≤ 8) (h1 : a1 ≤ 8) (h2 : a2 ≤ 8) (h3 : a3 ≤ 8) (h4 : a4 ≤ 8) (h5 : a5 ≤ 8) (h6 : a6 ≤ 8) (h7 : a7 ≤ 8)
    (hz : z = a0 + 256 * (a1 + 256 * (a2 + 256 * (a3 + 256 * (a4 + 256 * (a5 + 256 * (a6 + 256 * a7))))))) (hp : p = z + z / 256) (hq : q = p + p / 65536) (hr : r = q + q / 4294967296) :
    r % 128 = a0 + a1 + a2 + a3 + a4 + a5 + a6 + a7 ∧ z < 1152921504606846976 := by
  have hlt : z < 1152921504606846976 := by rw [hz]; exact la_lt _ _ _ _ _ _ _ _ h0 h1 h2 h3 h4 h5 h6 h7
  refine ⟨?_, hlt⟩
  clear hlt
  rw [la_z] at hz
  have z1 := hz ▸ div_cut (c := 256) a0 (a1 + 256 * a2 + 65536 * a3 + 16777216 * a4 + 4294967296 * a5 + 1099511627776 * a6 + 281474976710656 * a7) (by clear hz hp hq hr; omega)
  rw [z1, hz, la_p] at hp
  have p1 := hp ▸ div_cut (c := 65536) (a0 + a1 + 256 * (a1 + a2)) ((a2 + a3) + 256 * (a3 + a4) + 65536 * (a4 + a5) + 16777216 * (a5 + a6) + 4294967296 * (a6 + a7) + 1099511627776 * a7) (by clear hz hp hq hr z1; omega)
  rw [p1, hp, la_q] at hq
  have q1 := hq ▸ div_cut (c := 4294967296) (a0 + a1 + a2 + a3 + 256 * (a1 + a2 + a3 + a4) + 65536 * (a2 + a3 + a4 + a5) + 16777216 * (a3 + a4 + a5 + a6)) ((a4 + a5 + a6 + a7) + 256 * (a5 + a6 + a7) + 65536 * (a6 + a7) + 16777216 * a7) (by clear hz hp hq hr z1 p1; omega)
  rw [q1, hq, la_r] at hr
  rw [hr, Nat.add_mul_mod_self_left, Nat.mod_eq_of_lt (by clear hz hp hq hr z1 p1 q1; omega)]
/-- The last steps: the eight bytes are added. -/
theorem last_law (x p q r : Nat) (hp : p = byS 8 x + byS 8 x / 256) (hq : q = p + p / 65536) (hr : r = q + q / 4294967296) : r % 128 = cnt 64 x ∧ byS 8 x < 1152921504606846976 := by
  rw [cnt_bytes]
  have h := fun y => cnt8_le (y % 256) (Nat.mod_lt _ (by decide))
  exact last_arith _ _ _ _ _ _ _ _ _ _ _ _ (h _) (h _) (h _) (h _) (h _) (h _) (h _) (h _) (by simp only [byS, Nat.mul_zero, Nat.add_zero]) hp hq hr

theorem s1_lt {x : Nat} : s1 8 x < 18446744073709551616 := by
  unfold s1
  rw [mk_85]
  have h1 : x / 2 &&& 6148914691236517205 ≤ 6148914691236517205 := Nat.and_le_right
  have h2 : x &&& 6148914691236517205 ≤ 6148914691236517205 := Nat.and_le_right
  omega
theorem s2_lt {x : Nat} : s2 8 x ≤ 7378697629483820646 := by
  unfold s2
  rw [mk_51]
  have h1 : x / 4 &&& 3689348814741910323 ≤ 3689348814741910323 := Nat.and_le_right
  have h2 : x &&& 3689348814741910323 ≤ 3689348814741910323 := Nat.and_le_right
  omega
theorem w1_law {x : Nat} (h : x < 18446744073709551616) : IntKind.u64.wrap (bits .and .u64 ((x : Int) / 2) 6148914691236517205 + bits .and .u64 (x : Int) 6148914691236517205) = ((s1 8 x : Nat) : Int) := by
  have h3 := @s1_lt x
  unfold s1 at *
  rw [mk_85] at *
  have e1 := u64_and_nat (x / 2) 6148914691236517205 (by omega) (by decide)
  have e2 := u64_and_nat x 6148914691236517205 h (by decide)
  have e3 : ((x / 2 : Nat) : Int) = (x : Int) / 2 := by omega
  rw [e3] at e1
  have e4 : ((6148914691236517205 : Nat) : Int) = 6148914691236517205 := rfl
  rw [e4] at e1 e2
  rw [e1, e2, IntKind.wrap_u64]
  omega
theorem w2_law {x : Nat} (h : x < 18446744073709551616) : IntKind.u64.wrap (bits .and .u64 ((x : Int) / 4) 3689348814741910323 + bits .and .u64 (x : Int) 3689348814741910323) = ((s2 8 x : Nat) : Int) := by
  have h3 := @s2_lt x
  unfold s2 at *
  rw [mk_51] at *
  have e1 := u64_and_nat (x / 4) 3689348814741910323 (by omega) (by decide)
  have e2 := u64_and_nat x 3689348814741910323 h (by decide)
  have e3 : ((x / 4 : Nat) : Int) = (x : Int) / 4 := by omega
  rw [e3] at e1
  have e4 : ((3689348814741910323 : Nat) : Int) = 3689348814741910323 := rfl
  rw [e4] at e1 e2
  rw [e1, e2, IntKind.wrap_u64]
  omega
theorem w3_law {x : Nat} (h : x ≤ 7378697629483820646) : bits .and .u64 (IntKind.u64.wrap ((x : Int) / 16 + (x : Int))) 1085102592571150095 = ((s3 8 x : Nat) : Int) := by
  unfold s3
  rw [mk_15]
  have e1 := u64_and_nat (x / 16 + x) 1085102592571150095 (by omega) (by decide)
  have e3 : ((x / 16 + x : Nat) : Int) = IntKind.u64.wrap ((x : Int) / 16 + (x : Int)) := by rw [IntKind.wrap_u64]; omega
  rw [e3] at e1
  have e4 : ((1085102592571150095 : Nat) : Int) = 1085102592571150095 := rfl
  rw [e4] at e1
  exact e1
end Go.Proofs.YtppncdbhebgcaaaGreatDoor
namespace Go.Proofs.YtppncdbhebgcaaaGreatDoor
open Go.RowKit

set_option maxRecDepth 20000 in
set_option maxHeartbeats 3200000 in
theorem OnesCount64_04 (x : Nat) (w : World) (hx : x < 18446744073709551616) :
    Calls Tryz.prog 155 #[.int .u64 x] w (RetE (.int .i64 (cnt 64 x)) w) := by
  have w1 := w1_law hx
  have hx1 := @s1_lt x
  have w2 := w2_law hx1
  have hx2 := @s2_lt (s1 8 x)
  have w3 := w3_law hx2
  have h3 := (byS_law 8 x hx).1
  obtain ⟨p, hp⟩ : ∃ p, p = byS 8 x + byS 8 x / 256 := ⟨_, rfl⟩
  obtain ⟨q, hq⟩ : ∃ q, q = p + p / 65536 := ⟨_, rfl⟩
  obtain ⟨r, hr⟩ : ∃ r, r = q + q / 4294967296 := ⟨_, rfl⟩
  obtain ⟨l0, l1⟩ := last_law x p q r hp hq hr
  rw [h3] at w3
  generalize s1 8 x = x1 at *
  generalize s2 8 x1 = x2 at *
  generalize byS 8 x = z at *
  have w4 : IntKind.u64.wrap ((z : Int) + (z : Int) / 256) = (p : Int) := by rw [IntKind.wrap_u64]; omega
  have w5 : IntKind.u64.wrap ((p : Int) + (p : Int) / 65536) = (q : Int) := by rw [IntKind.wrap_u64]; omega
  have w6 : IntKind.u64.wrap ((q : Int) + (q : Int) / 4294967296) = (r : Int) := by rw [IntKind.wrap_u64]; omega
  have w7 : IntKind.i64.wrap (r : Int) = (r : Int) := IntWalk.i64_in _ (by omega)
  clear hp hq hr h3 l1 hx hx1 hx2
  go_enter Tryz.func155, Tryz.ntmps155
  go_wp2
  have w8 : bits .and .i64 (r : Int) 127 = ((cnt 64 x : Nat) : Int) := by rw [i64_and127]; omega
  rw [w8]
  go_ret
  exact RetE.fin (Ext.refl _) rfl

theorem cnt_word (S k : Nat) : cnt (64 * (k + 1)) S = cnt (64 * k) S + cnt 64 (wd S k) := by
  rw [show 64 * (k + 1) = 64 * k + 64 by omega, cnt_add]
  unfold wd
  rw [cnt_mod, Nat.shiftRight_eq_div_pow]
theorem cnt_le (n x : Nat) : cnt n x ≤ n := by
  unfold cnt
  have := List.countP_le_length (p := x.testBit) (l := List.range n)
  rw [List.length_range] at this
  exact this
theorem index_setV (f : Nat → Int) (k : Nat) (hk : k < 24) (w : World) : (Instr.index 137 (.agg (rowV 24 .u64 f)) (.int .i64 k)).run Tryz.prog w = .ok (.int .u64 (f k)) w := by
  have hc := rowV_get (k := .u64) (f := f) hk
  have h1 : (0 : Int) ≤ k ∧ (k : Int) < (24 : Nat) := by omega
  simp only [Instr.index, asIntOf, Sem.run_bind, Sem.run_pure, Result.andThen_ok, run_underlying Tryz.underlying137 w, if_pos h1, Tryz.sizeOf135 w, part, Tryz.isAgg135 w, Int.toNat_natCast, Nat.mul_one, hc]
  simp
set_option maxRecDepth 20000 in
set_option maxHeartbeats 3200000 in
theorem many04 (S : Nat) (w : World) : Calls Tryz.prog 166 #[setV S] w (RetE (.int .i64 (cnt 1536 S)) w) := by
  unfold setV
  go_enter Tryz.func166, Tryz.ntmps166
  go_upto_region 2 with (fail)
  obtain ⟨W, hW⟩ : ∃ W, W = w.alloc (.cells (rowV 24 .u64 (setF S)) 137) := ⟨_, rfl⟩
  have h2 : Blk W w.heap.size 137 24 .u64 (setF S) := by rw [hW]; exact Blk.new' rfl _ _ _ _
  have hE : Ext w W := by rw [hW]; exact (by repeat (first | exact Ext.refl _ | assumption | refine Ext.drewN ?_ _ | refine Ext.drew ?_ | refine Ext.alloc ?_ _))
  rw [← hW]
  refine wp_region_lit (wpList_loadB 137 _ _ Tryz.underlying137 rfl iSet rfl rfl rfl h2 (Nat.le_refl _) ?_)
  rw [show (fun j => setF S (0 + j)) = setF S from funext (fun j => by rw [Nat.zero_add])]
  have HE := Lib.hid hE
  clear hW h2 hE
  go_wp2
  go_loopw [3, 7] (fun n i wr => ∃ k : Nat, k ≤ 24 ∧ i = .int .i64 k ∧ n = .int .i64 (cnt (64 * k) S) ∧ Ext w wr) (fun _ i _ => 24 - (intOf i).toNat)
  case atStart => exact ⟨0, by omega, rfl, rfl, HE.out⟩
  case round =>
    obtain ⟨k, hk, rfl, rfl, hE⟩ := hrel
    have HE := Lib.hid hE
    clear hE
    by_cases hlt : k < 24
    · have hlt' : (k : Int) < 24 := by omega
      have hc := index_setV (setF S) k hlt wr
      have HC := Lib.hid (OnesCount64_04 (wd S k) wr wd_lt)
      have hle := cnt_le (64 * k) S
      have hle2 := cnt_le 64 (wd S k)
      have hs : (cnt (64 * k) S : Int) + (cnt 64 (wd S k) : Int) = ((cnt (64 * (k + 1)) S : Nat) : Int) := by rw [cnt_word]; omega
      have HS := Lib.hid hs
      clear hs
      go_upto_region 6 with (go_at_call 155; refine HC.out.mono ?_; rintro e w' ⟨rfl, hE1⟩)
      rw [HS.out]
      have HE2 := Lib.hid (HE.out.trans hE1)
      clear hE1 hc hle hle2 HS HC HE
      go_wp2
      go_roundw
      case rel => exact ⟨k + 1, by omega, by simp, rfl, HE2.out⟩
      case measure => simp [intOf]; omega
    · obtain rfl : k = 24 := by omega
      go_wp2
      go_ret
      exact RetE.fin HE.out rfl
end Go.Proofs.YtppncdbhebgcaaaGreatDoor
